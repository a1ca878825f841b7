import Derived.Test.YtmjpaaippilioaaDoorPiB
namespace Go.Proofs.YtmjpaaippilioaaDoor
open Go.RowKit

/-! ### an operation as the document has it -/
set_option maxRecDepth 100000 in
set_option maxHeartbeats 4000000 in
theorem other_any (x : OpR) (h0 : 0 ≤ x.k) (h1 : x.k ≤ 255) (w : World) : Calls Tryd.prog 52 #[x.V] w fun e w' => e = .returned x.RV ∧ Frm w w' fun _ => False := by
  obtain ⟨xk, xa, xo, xt, xfl, xfa, xg⟩ := x
  simp only at h0 h1
  obtain ⟨k, rfl⟩ := Int.eq_ofNat_of_zero_le h0
  go_enter Tryd.func52, Tryd.ntmps52
  go_upto_region 1 with fail
  refine at_world' ?_
  intro W hW
  have hF : Frm w W fun _ => False := by rw [hW]; exact ((Frm.refl _ _).alloc _).alloc _
  have p0 : W.cell? ⟨w.heap.size, 0, none⟩ = some (.int .u8 k) := by subst hW; go_simp
  have p1 : W.cell? ⟨w.heap.size, 1, none⟩ = some (.int .i64 xa) := by subst hW; go_simp
  have p2 : W.cell? ⟨w.heap.size, 2, none⟩ = some (.int .i64 xo) := by subst hW; go_simp
  have p3 : W.cell? ⟨w.heap.size, 3, none⟩ = some (.int .i64 xt) := by subst hW; go_simp
  have p4 : W.cell? ⟨w.heap.size, 4, none⟩ = some (.bool xfl) := by subst hW; go_simp
  have p5 : W.cell? ⟨w.heap.size, 5, none⟩ = some (.bool xfa) := by subst hW; go_simp
  have p6 : W.cell? ⟨w.heap.size, 6, none⟩ = some (.int .i64 xg) := by subst hW; go_simp
  obtain ⟨b, hb⟩ : ∃ b, w.heap.size = b := ⟨_, rfl⟩
  have r0 : ∀ j v, (#[Value.int .i64 0, .int .i64 0, .int .i64 0, .int .i64 0, .bool false, .bool false, .int .i64 0] : Array Value)[j]? = some v → W.cell? ⟨b + 1, j, none⟩ = some v := fun j v hv => by
    rw [hW, ← hb]
    have e : w.heap.size + 1 = (w.alloc (.cells #[.int .u8 k, .int .i64 xa, .int .i64 xo, .int .i64 xt, .bool xfl, .bool xfa, .int .i64 xg] 50)).heap.size := by simp
    rw [e, World.cell?_alloc_new]
    exact hv
  have rf : ∀ j, W.frozen? ⟨b + 1, j, none⟩ = false := fun j => by rw [hW, ← hb]; go_simp
  have r0' := r0 0 _ rfl
  have s0' := rf 0
  have r1' := r0 1 _ rfl
  have s1' := rf 1
  have r2' := r0 2 _ rfl
  have s2' := rf 2
  have r3' := r0 3 _ rfl
  have s3' := rf 3
  have r4' := r0 4 _ rfl
  have s4' := rf 4
  have r5' := r0 5 _ rfl
  have s5' := rf 5
  have r6' := r0 6 _ rfl
  have s6' := rf 6
  rw [hb] at p0 p1 p2 p3 p4 p5 p6 ⊢
  obtain ⟨rb, hrb⟩ : ∃ r, b + 1 = r := ⟨_, rfl⟩
  rw [hrb] at r0' s0' r1' s1' r2' s2' r3' s3' r4' s4' r5' s5' r6' s6' ⊢
  have z1 : rb ≠ b := by omega
  have HF := Lib.hid (And.intro hF (show ¬ rb < w.heap.size by omega))
  clear r0 rf hrb hb hW hF
  go_wp2_with fail
  refine at_body ?_; intro W' hW'
  have x0 : W'.cell? ⟨rb, 0, none⟩ = some (.int .i64 k) := by subst hW'; go_simp
  have x1 : W'.cell? ⟨rb, 1, none⟩ = some (.int .i64 xa) := by subst hW'; go_simp
  have x2 : W'.cell? ⟨rb, 2, none⟩ = some (.int .i64 xo) := by subst hW'; go_simp
  have x3 : W'.cell? ⟨rb, 3, none⟩ = some (.int .i64 xt) := by subst hW'; go_simp
  have x4 : W'.cell? ⟨rb, 4, none⟩ = some (.bool xfl) := by subst hW'; go_simp
  have x5 : W'.cell? ⟨rb, 5, none⟩ = some (.bool xfa) := by subst hW'; go_simp
  have x6 : W'.cell? ⟨rb, 6, none⟩ = some (.int .i64 xg) := by subst hW'; go_simp
  refine bodyPost_ret (v := OpR.RV ⟨k, xa, xo, xt, xfl, xfa, xg⟩) (by simp [results, Tryd.results52, go_sem, x0, x1, x2, x3, x4, x5, x6]) rfl ⟨rfl, ?_⟩
  rw [hW']
  repeat (first | with_reducible refine Frm.drew ?_ | with_reducible refine Frm.alloc ?_ _ | with_reducible refine Frm.setCell ?_ (fun h => absurd h HF.out.2) _)
  exact HF.out.1
end Go.Proofs.YtmjpaaippilioaaDoor

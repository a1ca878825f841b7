import Derived.Test.YtmjpaaippilioaaDoorPiB
import Derived.Test.YtmjpaaippilioaaDoorPiC
import Derived.Test.YtmjpaaippilioaaDoorGrw
namespace Go.Proofs.YtmjpaaippilioaaDoor
open Go.RowKit

/-! ### an operation as the document has it -/
set_option maxRecDepth 100000 in
set_option maxHeartbeats 4000000 in
theorem other_any (x : OpR) (h0 : 0 ≤ x.k) (h1 : x.k ≤ 255) (w : World) : Calls Tryd.prog 52 #[x.V] w fun e w' => e = .returned x.RV ∧ Frm w w' fun _ => False := by
  obtain ⟨xk, xa, xo, xt, xfl, xfa, xg⟩ := x
  simp only at h0 h1
  obtain ⟨k, rfl⟩ := Int.eq_ofNat_of_zero_le h0
  go_enter Tryd.func52, Tryd.ntmps52
  go_upto_region 1 with fail
  refine at_world' ?_
  intro W hW
  have hF : Frm w W fun _ => False := by rw [hW]; exact ((Frm.refl _ _).alloc _).alloc _
  have p0 : W.cell? ⟨w.heap.size, 0, none⟩ = some (.int .u8 k) := by subst hW; go_simp
  have p1 : W.cell? ⟨w.heap.size, 1, none⟩ = some (.int .i64 xa) := by subst hW; go_simp
  have p2 : W.cell? ⟨w.heap.size, 2, none⟩ = some (.int .i64 xo) := by subst hW; go_simp
  have p3 : W.cell? ⟨w.heap.size, 3, none⟩ = some (.int .i64 xt) := by subst hW; go_simp
  have p4 : W.cell? ⟨w.heap.size, 4, none⟩ = some (.bool xfl) := by subst hW; go_simp
  have p5 : W.cell? ⟨w.heap.size, 5, none⟩ = some (.bool xfa) := by subst hW; go_simp
  have p6 : W.cell? ⟨w.heap.size, 6, none⟩ = some (.int .i64 xg) := by subst hW; go_simp
  obtain ⟨b, hb⟩ : ∃ b, w.heap.size = b := ⟨_, rfl⟩
  have r0 : ∀ j v, (#[Value.int .i64 0, .int .i64 0, .int .i64 0, .int .i64 0, .bool false, .bool false, .int .i64 0] : Array Value)[j]? = some v → W.cell? ⟨b + 1, j, none⟩ = some v := fun j v hv => by
    rw [hW, ← hb]
    have e : w.heap.size + 1 = (w.alloc (.cells #[.int .u8 k, .int .i64 xa, .int .i64 xo, .int .i64 xt, .bool xfl, .bool xfa, .int .i64 xg] 50)).heap.size := by simp
    rw [e, World.cell?_alloc_new]
    exact hv
  have rf : ∀ j, W.frozen? ⟨b + 1, j, none⟩ = false := fun j => by rw [hW, ← hb]; go_simp
  have r0' := r0 0 _ rfl
  have s0' := rf 0
  have r1' := r0 1 _ rfl
  have s1' := rf 1
  have r2' := r0 2 _ rfl
  have s2' := rf 2
  have r3' := r0 3 _ rfl
  have s3' := rf 3
  have r4' := r0 4 _ rfl
  have s4' := rf 4
  have r5' := r0 5 _ rfl
  have s5' := rf 5
  have r6' := r0 6 _ rfl
  have s6' := rf 6
  rw [hb] at p0 p1 p2 p3 p4 p5 p6 ⊢
  obtain ⟨rb, hrb⟩ : ∃ r, b + 1 = r := ⟨_, rfl⟩
  rw [hrb] at r0' s0' r1' s1' r2' s2' r3' s3' r4' s4' r5' s5' r6' s6' ⊢
  have z1 : rb ≠ b := by omega
  have HF := Lib.hid (And.intro hF (show ¬ rb < w.heap.size by omega))
  clear r0 rf hrb hb hW hF
  go_wp2_with fail
  refine at_body ?_; intro W' hW'
  have x0 : W'.cell? ⟨rb, 0, none⟩ = some (.int .i64 k) := by subst hW'; go_simp
  have x1 : W'.cell? ⟨rb, 1, none⟩ = some (.int .i64 xa) := by subst hW'; go_simp
  have x2 : W'.cell? ⟨rb, 2, none⟩ = some (.int .i64 xo) := by subst hW'; go_simp
  have x3 : W'.cell? ⟨rb, 3, none⟩ = some (.int .i64 xt) := by subst hW'; go_simp
  have x4 : W'.cell? ⟨rb, 4, none⟩ = some (.bool xfl) := by subst hW'; go_simp
  have x5 : W'.cell? ⟨rb, 5, none⟩ = some (.bool xfa) := by subst hW'; go_simp
  have x6 : W'.cell? ⟨rb, 6, none⟩ = some (.int .i64 xg) := by subst hW'; go_simp
  refine bodyPost_ret (v := OpR.RV ⟨k, xa, xo, xt, xfl, xfa, xg⟩) (by simp [results, Tryd.results52, go_sem, x0, x1, x2, x3, x4, x5, x6]) rfl ⟨rfl, ?_⟩
  rw [hW']
  repeat (first | with_reducible refine Frm.drew ?_ | with_reducible refine Frm.alloc ?_ _ | with_reducible refine Frm.setCell ?_ (fun h => absurd h HF.out.2) _)
  exact HF.out.1
end Go.Proofs.YtmjpaaippilioaaDoor
namespace Go.Proofs.YtmjpaaippilioaaDoor
open Go.RowKit

/-! ### Same -/
theorem neq71 (x : OpR) (w : World) : (binOp .neq 71 x.RV x.RV).run Tryd.prog w = .ok (.bool false) w := by
  rw [run_neq_struct, run_equalIn_agg _ 9999 71 _ _ (by kernel_rfl) (by kernel_rfl)]
  simp [Program.fieldsOf, Tryd.underlying71, Op.eqFields, go_sem]
theorem eqg71 (op : BinOp) (x y : Operand) (a b : Array Value) (w : World) : (eqGuard op 71 x y (.agg a) (.agg b)).run Tryd.prog w = .ok () w :=
  run_eqGuard_agg w op 71 x y _ _ (by kernel_rfl)
set_option maxRecDepth 100000 in
set_option maxHeartbeats 4000000 in
theorem same_any (A B : Option Addr) (n d : Nat) (xs : List OpR) (w : World) (ha : Rd w w.heap.size 7 A n (opsV xs)) (hb : Rd w w.heap.size 7 B n (opsR xs)) (hk : KOk xs) (hn : (n : Int) ≤ 1000) :
    Calls Tryd.prog 41 #[.slice A n n, .slice B n d] w fun e w' => e = .returned (.bool true) ∧ Frm w w' fun _ => False := by
  obtain ⟨hxl, hxc⟩ := Rd.rows OpR.cs_len (by decide) ha
  obtain ⟨-, hyc⟩ := Rd.rows OpR.rcs_len (by decide) hb
  have HXL := Lib.hid hxl
  have HXC := Lib.hid hxc
  have HYC := Lib.hid hyc
  have HK := Lib.hid hk
  have nn : ((n : Int) != (n : Int)) = false := by simp
  have eqn := neq71
  have eqg := eqg71
  clear ha hb hxl hxc hyc hk
  go_enter Tryd.func41, Tryd.ntmps41
  go_wp2_with fail
  go_loopw [5] (fun i wr => ∃ j : Nat, i = .int .i64 j ∧ j ≤ n ∧ Frm w wr fun _ => False) (fun i _ => n - (intOf i).toNat)
  case atStart => exact ⟨0, rfl, Nat.zero_le _, Frm.refl _ _⟩
  case round =>
    obtain ⟨j, rfl, hj, hF⟩ := hrel
    have F := Lib.hid hF
    have j0 : (0 : Int) ≤ (j : Int) := by omega
    have j1 : (j : Int) ≤ (n : Int) := by omega
    clear hF
    by_cases hlt : j < n
    · have j2 : (j : Int) < (n : Int) := by omega
      obtain ⟨g, off, rfl, -, hcx⟩ := HXC.out (by omega)
      obtain ⟨h, oh, rfl, -, hcy⟩ := HYC.out (by omega)
      have hjl : j < xs.length := by have := HXL.out; omega
      have hx := hcx j hjl
      have hy := hcy j hjl
      obtain ⟨q0, q1⟩ := HK.out _ (List.getElem_mem hjl)
      obtain ⟨X, hX⟩ : ∃ X, xs[j] = X := ⟨_, rfl⟩
      rw [hX] at hx hy q0 q1
      have HO := Lib.hid fun G : Grown wr => other_any X q0 q1 G.1
      have hq := eqn X
      obtain ⟨xk, xa, xo, xt, xfl, xfa, xg⟩ := X
      have x0 : wr.cell? ⟨g, off + j * 7, none⟩ = some (.int .u8 xk) := F.out.cell (hx 0 _ rfl) id
      have x1 : wr.cell? ⟨g, off + j * 7 + 1, none⟩ = some (.int .i64 xa) := F.out.cell (hx 1 _ rfl) id
      have x2 : wr.cell? ⟨g, off + j * 7 + 2, none⟩ = some (.int .i64 xo) := F.out.cell (hx 2 _ rfl) id
      have x3 : wr.cell? ⟨g, off + j * 7 + 3, none⟩ = some (.int .i64 xt) := F.out.cell (hx 3 _ rfl) id
      have x4 : wr.cell? ⟨g, off + j * 7 + 4, none⟩ = some (.bool xfl) := F.out.cell (hx 4 _ rfl) id
      have x5 : wr.cell? ⟨g, off + j * 7 + 5, none⟩ = some (.bool xfa) := F.out.cell (hx 5 _ rfl) id
      have x6 : wr.cell? ⟨g, off + j * 7 + 6, none⟩ = some (.int .i64 xg) := F.out.cell (hx 6 _ rfl) id
      have y0 : wr.cell? ⟨h, oh + j * 7, none⟩ = some (.int .i64 xk) := F.out.cell (hy 0 _ rfl) id
      have y1 : wr.cell? ⟨h, oh + j * 7 + 1, none⟩ = some (.int .i64 xa) := F.out.cell (hy 1 _ rfl) id
      have y2 : wr.cell? ⟨h, oh + j * 7 + 2, none⟩ = some (.int .i64 xo) := F.out.cell (hy 2 _ rfl) id
      have y3 : wr.cell? ⟨h, oh + j * 7 + 3, none⟩ = some (.int .i64 xt) := F.out.cell (hy 3 _ rfl) id
      have y4 : wr.cell? ⟨h, oh + j * 7 + 4, none⟩ = some (.bool xfl) := F.out.cell (hy 4 _ rfl) id
      have y5 : wr.cell? ⟨h, oh + j * 7 + 5, none⟩ = some (.bool xfa) := F.out.cell (hy 5 _ rfl) id
      have y6 : wr.cell? ⟨h, oh + j * 7 + 6, none⟩ = some (.int .i64 xg) := F.out.cell (hy 6 _ rfl) id
      clear hcx hcy hx hy hX q0 q1
      go_upto_region 6 with fail
      replace x0 := Grown.cell x0
      replace x1 := Grown.cell x1
      replace x2 := Grown.cell x2
      replace x3 := Grown.cell x3
      replace x4 := Grown.cell x4
      replace x5 := Grown.cell x5
      replace x6 := Grown.cell x6
      replace y0 := Grown.cell y0
      replace y1 := Grown.cell y1
      replace y2 := Grown.cell y2
      replace y3 := Grown.cell y3
      replace y4 := Grown.cell y4
      replace y5 := Grown.cell y5
      replace y6 := Grown.cell y6
      refine wp_region_grown wr (Frm.refl _ _) (by kernel_rfl) (by kernel_rfl) ?_
      repeat (go_big_quiet_step ((go_at_call 52; exact Calls.grown_of (HO.out _))))
      refine wpQuiet_nil ?_
      intro wq hq2
      have HQ := Lib.hid (F.out.then_ hq2)
      clear hq2 x0 x1 x2 x3 x4 x5 x6 y0 y1 y2 y3 y4 y5 y6
      go_wp2_with fail
      go_roundw
      case rel => exact ⟨j + 1, by go_num, by omega, HQ.out⟩
      case measure => simp [intOf]; omega
    · obtain rfl : j = n := by omega
      go_wp2_with fail
      go_ret
      exact ⟨rfl, F.out⟩
end Go.Proofs.YtmjpaaippilioaaDoor

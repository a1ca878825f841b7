import Derived.Test.YtmjpaaippilioaaDoorPiA
namespace Go.Proofs.YtmjpaaippilioaaDoor
open Go.RowKit

/-! ### the document's plain operation -/
abbrev OpR.RV (x : OpR) : Value := .agg #[.int .i64 x.k, .int .i64 x.a, .int .i64 x.o, .int .i64 x.t, .bool x.fl, .bool x.fa, .int .i64 x.g]
abbrev aTicks : ByteArray := ⟨#[32, 108, 111, 99, 107, 32, 114, 101, 97, 100, 32, 117, 112, 103, 114, 32, 119, 114, 105, 116, 101, 32, 117, 112, 32, 119, 97, 105, 116, 32, 112, 97, 114, 107, 32]⟩
abbrev aFlag : ByteArray := ⟨#[32, 117, 110, 108, 111, 99, 107, 32, 117, 110, 117, 112, 103, 114, 32, 117, 110, 119, 114, 105, 116, 101, 32, 100, 111, 32]⟩
def plainR (x : OpR) : OpR := ⟨x.k, x.a, if isO (wordO x.k) aOther then x.o else 0, if isO (wordO x.k) aTicks then x.t else -1, if isO (wordO x.k) aFlag then x.fl else false, if (wordO x.k).toList == [100, 111] then x.fa else false, x.g % argsO (wordO x.k)⟩
theorem wordO_size (k : Int) : (wordO k).size ≤ 20 := by
  unfold wordO
  split
  · exact (Ut_few _).1
  · decide
theorem argsO_pos (w : ByteArray) : 1 ≤ argsO w ∧ argsO w ≤ 256 := by
  unfold argsO
  split
  · decide
  · split
    · decide
    · split <;> decide
theorem f79n : Tryd.f79.name ≠ "runtime.NumGoroutine" := by decide
theorem f79b : Tryd.f79.body ≠ none := by intro h; cases h
set_option maxRecDepth 100000 in
set_option maxHeartbeats 8000000 in
theorem plain_ref (x : OpR) (hg0 : 0 ≤ x.g) (hg1 : x.g ≤ 255) (w : World) : Calls Tryd.prog 71 #[x.RV] w fun e w' => e = .returned (plainR x).RV ∧ Frm w w' fun _ => False := by
  have HWR := Lib.hid fun v => word_ref x.k v
  have hsz := wordO_size x.k
  have HI1 := Lib.hid fun v => is_any (wordO x.k) aOther (by omega) (by decide) v
  have HI2 := Lib.hid fun v => is_any (wordO x.k) aTicks (by omega) (by decide) v
  have HI3 := Lib.hid fun v => is_any (wordO x.k) aFlag (by omega) (by decide) v
  have HAR := Lib.hid fun v => args_ref (wordO x.k) (by omega) v
  have hap := argsO_pos (wordO x.k)
  unfold plainR
  obtain ⟨T, hT⟩ : ∃ T, wordO x.k = T := ⟨_, rfl⟩
  rw [hT] at HWR HI1 HI2 HI3 HAR hap ⊢
  obtain ⟨b1, hb1⟩ : ∃ b, isO T aOther = b := ⟨_, rfl⟩
  obtain ⟨b2, hb2⟩ : ∃ b, isO T aTicks = b := ⟨_, rfl⟩
  obtain ⟨b3, hb3⟩ : ∃ b, isO T aFlag = b := ⟨_, rfl⟩
  obtain ⟨ar, har⟩ : ∃ a, argsO T = a := ⟨_, rfl⟩
  simp only [hb1] at HI1 ⊢
  simp only [hb2] at HI2 ⊢
  simp only [hb3] at HI3 ⊢
  simp only [har] at HAR hap ⊢
  obtain ⟨xk, xa, xo, xt, xfl, xfa, xg⟩ := x
  simp only at hg0 hg1 hT HWR ⊢
  obtain ⟨a0, a1⟩ := hap
  have har0 : ¬ ar = 0 := by omega
  clear hT hb1 hb2 hb3 har hsz
  obtain ⟨b4, hb4⟩ : ∃ b, (T.toList == [100, 111]) = b := ⟨_, rfl⟩
  rw [hb4]
  obtain ⟨vo, hvo⟩ : ∃ v, v = if b1 = true then xo else 0 := ⟨_, rfl⟩
  obtain ⟨vt, hvt⟩ : ∃ v, v = if b2 = true then xt else -1 := ⟨_, rfl⟩
  obtain ⟨vf, hvf⟩ : ∃ v, v = if b3 = true then xfl else false := ⟨_, rfl⟩
  obtain ⟨va, hva⟩ : ∃ v, v = if b4 = true then xfa else false := ⟨_, rfl⟩
  obtain ⟨vg, hvg⟩ : ∃ v, v = xg % ar := ⟨_, rfl⟩
  rw [← hvo, ← hvt, ← hvf, ← hva, ← hvg]
  have hv1 := Lib.hid hvo
  have hv2 := Lib.hid hvt
  have hv3 := Lib.hid hvf
  have hv4 := Lib.hid hva
  have hv5 := Lib.hid hvg
  clear hvo hvt hvf hva hvg
  go_enter Tryd.func71, Tryd.ntmps71
  go_upto_region 1 with fail
  refine at_world' ?_
  intro W hW
  have hF : Frm w W fun _ => False := by rw [hW]; exact ((Frm.refl _ _).alloc _).alloc _
  have p0 : W.cell? ⟨w.heap.size, 0, none⟩ = some (.int .i64 xk) := by subst hW; go_simp
  have p1 : W.cell? ⟨w.heap.size, 1, none⟩ = some (.int .i64 xa) := by subst hW; go_simp
  have p2 : W.cell? ⟨w.heap.size, 2, none⟩ = some (.int .i64 xo) := by subst hW; go_simp
  have p3 : W.cell? ⟨w.heap.size, 3, none⟩ = some (.int .i64 xt) := by subst hW; go_simp
  have p4 : W.cell? ⟨w.heap.size, 4, none⟩ = some (.bool xfl) := by subst hW; go_simp
  have p5 : W.cell? ⟨w.heap.size, 5, none⟩ = some (.bool xfa) := by subst hW; go_simp
  have p6 : W.cell? ⟨w.heap.size, 6, none⟩ = some (.int .i64 xg) := by subst hW; go_simp
  have pf0 : W.frozen? ⟨w.heap.size, 0, none⟩ = false := by subst hW; go_simp
  have pf1 : W.frozen? ⟨w.heap.size, 1, none⟩ = false := by subst hW; go_simp
  have pf2 : W.frozen? ⟨w.heap.size, 2, none⟩ = false := by subst hW; go_simp
  have pf3 : W.frozen? ⟨w.heap.size, 3, none⟩ = false := by subst hW; go_simp
  have pf4 : W.frozen? ⟨w.heap.size, 4, none⟩ = false := by subst hW; go_simp
  have pf5 : W.frozen? ⟨w.heap.size, 5, none⟩ = false := by subst hW; go_simp
  have pf6 : W.frozen? ⟨w.heap.size, 6, none⟩ = false := by subst hW; go_simp
  have hsW : W.heap.size = w.heap.size + 2 := by subst hW; simp
  obtain ⟨b, hb⟩ : ∃ b, w.heap.size = b := ⟨_, rfl⟩
  have r0 : ∀ j v, (#[Value.int .i64 0, .int .i64 0, .int .i64 0, .int .i64 0, .bool false, .bool false, .int .i64 0] : Array Value)[j]? = some v → W.cell? ⟨b + 1, j, none⟩ = some v := fun j v hv => by
    rw [hW, ← hb]
    have e : w.heap.size + 1 = (w.alloc (.cells #[.int .i64 xk, .int .i64 xa, .int .i64 xo, .int .i64 xt, .bool xfl, .bool xfa, .int .i64 xg] 71)).heap.size := by simp
    rw [e, World.cell?_alloc_new]
    exact hv
  have rf : ∀ j, W.frozen? ⟨b + 1, j, none⟩ = false := fun j => by rw [hW, ← hb]; go_simp
  have r0' := r0 0 _ rfl
  have s0' := rf 0
  have r1' := r0 1 _ rfl
  have s1' := rf 1
  have r2' := r0 2 _ rfl
  have s2' := rf 2
  have r3' := r0 3 _ rfl
  have s3' := rf 3
  have r4' := r0 4 _ rfl
  have s4' := rf 4
  have r5' := r0 5 _ rfl
  have s5' := rf 5
  have r6' := r0 6 _ rfl
  have s6' := rf 6
  rw [hb] at p0 pf0 p1 pf1 p2 pf2 p3 pf3 p4 pf4 p5 pf5 p6 pf6 hsW ⊢
  obtain ⟨rb, hrb⟩ : ∃ r, b + 1 = r := ⟨_, rfl⟩
  rw [hrb] at r0' s0' r1' s1' r2' s2' r3' s3' r4' s4' r5' s5' r6' s6' ⊢
  have z1 : rb ≠ b := by omega
  have hnr : ¬ rb < w.heap.size := by omega
  have hnb : ¬ b < w.heap.size := by omega
  have hbl : b < W.heap.size := by omega
  have hrl : rb < W.heap.size := by omega
  clear r0 rf hrb hb hsW hW
  go_upto_region 2 with (go_at_call 63; refine (HWR.out _).mono ?_; rintro e W1 ⟨rfl, hf⟩)
  replace p0 := hf.cell p0 id
  replace pf0 := (hf.frozen (p := ⟨b, 0, none⟩) hbl id).trans pf0
  replace r0' := hf.cell r0' id
  replace s0' := (hf.frozen (p := ⟨rb, 0, none⟩) hrl id).trans s0'
  replace p1 := hf.cell p1 id
  replace pf1 := (hf.frozen (p := ⟨b, 1, none⟩) hbl id).trans pf1
  replace r1' := hf.cell r1' id
  replace s1' := (hf.frozen (p := ⟨rb, 1, none⟩) hrl id).trans s1'
  replace p2 := hf.cell p2 id
  replace pf2 := (hf.frozen (p := ⟨b, 2, none⟩) hbl id).trans pf2
  replace r2' := hf.cell r2' id
  replace s2' := (hf.frozen (p := ⟨rb, 2, none⟩) hrl id).trans s2'
  replace p3 := hf.cell p3 id
  replace pf3 := (hf.frozen (p := ⟨b, 3, none⟩) hbl id).trans pf3
  replace r3' := hf.cell r3' id
  replace s3' := (hf.frozen (p := ⟨rb, 3, none⟩) hrl id).trans s3'
  replace p4 := hf.cell p4 id
  replace pf4 := (hf.frozen (p := ⟨b, 4, none⟩) hbl id).trans pf4
  replace r4' := hf.cell r4' id
  replace s4' := (hf.frozen (p := ⟨rb, 4, none⟩) hrl id).trans s4'
  replace p5 := hf.cell p5 id
  replace pf5 := (hf.frozen (p := ⟨b, 5, none⟩) hbl id).trans pf5
  replace r5' := hf.cell r5' id
  replace s5' := (hf.frozen (p := ⟨rb, 5, none⟩) hrl id).trans s5'
  replace p6 := hf.cell p6 id
  replace pf6 := (hf.frozen (p := ⟨b, 6, none⟩) hbl id).trans pf6
  replace r6' := hf.cell r6' id
  replace s6' := (hf.frozen (p := ⟨rb, 6, none⟩) hrl id).trans s6'
  have hF2 := Lib.hid (And.intro (hF.then_ hf) (And.intro hnb hnr))
  clear hF hf hbl hrl hnb hnr
  have hfin : ∀ (W' : World) (a : Act), W'.cell? ⟨rb, 0, none⟩ = some (.int .i64 xk) → W'.cell? ⟨rb, 1, none⟩ = some (.int .i64 xa) → W'.cell? ⟨rb, 2, none⟩ = some (.int .i64 vo) → W'.cell? ⟨rb, 3, none⟩ = some (.int .i64 vt) → W'.cell? ⟨rb, 4, none⟩ = some (.bool vf) → W'.cell? ⟨rb, 5, none⟩ = some (.bool va) → W'.cell? ⟨rb, 6, none⟩ = some (.int .i64 vg) →
      a.tmps[2]? = some (.pointer (some ⟨rb, 0, none⟩)) → (results Tryd.f71 a.tmps).run Tryd.prog W' = .ok (OpR.RV ⟨xk, xa, vo, vt, vf, va, vg⟩) W' := fun W' a x0 x1 x2 x3 x4 x5 x6 h => by
    simp [results, Tryd.results71, go_sem, h, x0, x1, x2, x3, x4, x5, x6]
  cases b1 <;> cases b2 <;> cases b3 <;> cases b4
  all_goals go_upto_region 10 with (first
    | (go_at_call 65; with_reducible refine (HI1.out _).mono ?_; rintro e w2 ⟨rfl, rfl⟩)
    | (go_at_call 65; with_reducible refine (HI2.out _).mono ?_; rintro e w2 ⟨rfl, rfl⟩)
    | (go_at_call 65; with_reducible refine (HI3.out _).mono ?_; rintro e w2 ⟨rfl, rfl⟩))
  all_goals go_region_law (refine step_call1 rfl 79 Tryd.func79 f79n f79b (.tmp 24) _ rfl (.string T) rfl (HAR.out _) ?_; rintro e w5 ⟨rfl, rfl⟩; refine ⟨_, rfl, ?_⟩)
  all_goals go_wp2_with fail
  all_goals (
      refine at_body ?_; intro W' hW'
      have x0 : W'.cell? ⟨rb, 0, none⟩ = some (.int .i64 xk) := by subst hW'; go_simp
      have x1 : W'.cell? ⟨rb, 1, none⟩ = some (.int .i64 xa) := by subst hW'; go_simp
      have x2 : W'.cell? ⟨rb, 2, none⟩ = some (.int .i64 vo) := by rw [hv1.out]; subst hW'; go_simp
      have x3 : W'.cell? ⟨rb, 3, none⟩ = some (.int .i64 vt) := by rw [hv2.out]; subst hW'; go_simp
      have x4 : W'.cell? ⟨rb, 4, none⟩ = some (.bool vf) := by rw [hv3.out]; subst hW'; go_simp
      have x5 : W'.cell? ⟨rb, 5, none⟩ = some (.bool va) := by rw [hv4.out]; subst hW'; go_simp
      have x6 : W'.cell? ⟨rb, 6, none⟩ = some (.int .i64 vg) := by rw [hv5.out]; subst hW'; go_simp
      refine bodyPost_ret (v := OpR.RV ⟨xk, xa, vo, vt, vf, va, vg⟩) (hfin W' _ x0 x1 x2 x3 x4 x5 x6 rfl) rfl ⟨rfl, ?_⟩
      rw [hW']
      repeat (first | with_reducible refine Frm.drew ?_ | with_reducible refine Frm.alloc ?_ _ | with_reducible refine Frm.setCell ?_ (fun h => absurd h hF2.out.2.1) _ | with_reducible refine Frm.setCell ?_ (fun h => absurd h hF2.out.2.2) _)
      exact hF2.out.1)
end Go.Proofs.YtmjpaaippilioaaDoor

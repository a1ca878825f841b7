import Derived.Test.YtmjpaaippilioaaDoorPgX
namespace Go.Proofs.YtmjpaaippilioaaDoor
open Go.RowKit Go.MapKept

set_option maxRecDepth 100000 in
set_option maxHeartbeats 2000000 in
theorem nx0_late (b : Nat) (l : List Th) (hb : ∀ k ∈ l, 0 ≤ k.1 ∧ k.1 ≤ 131072) (xa xo xt : Int) (xfl xfa : Bool) (xg : Int) (a o : Int) (w : World) (h : MpS w th2V b (oneV l)) (hs2 : 4 < b)
    (hA : ∀ v, (Frm w v fun _ => False) → Calls Tryd.prog 44 #[OpR.V ⟨0, xa, xo, xt, xfl, xfa, xg⟩] v fun e w' => e = .returned (.tuple #[.int .u32 a, .int .u32 o]) ∧ Frm v w' fun _ => False) (htk : 0 ≤ xt) : Nx b ⟨0, xa, xo, xt, xfl, xfa, xg⟩ false (l) w := by
  unfold Nx
  have hlt := h.lt
  have HB := Lib.hid hb
  have HM := Lib.hid h
  have HA := Lib.hid hA
  have ht : Tryd.prog.underlying 93 = some (.map 126 3) := by kernel_rfl
  clear hb h hA
  have e1 : decide ((0 : Int) ≤ xt) = true := by rw [decide_eq_true_eq]; exact htk
  clear htk
  go_enter Tryd.func62, Tryd.ntmps62
  go_upto_region 1 with fail
  refine at_world' ?_
  intro W hW
  have hF : Frm w W fun _ => False := by rw [hW]; exact ((Frm.refl _ _).alloc _)
  have p0 : W.cell? ⟨w.heap.size, 0, none⟩ = some (.int .u8 0) := by subst hW; go_simp
  have p1 : W.cell? ⟨w.heap.size, 1, none⟩ = some (.int .i64 xa) := by subst hW; go_simp
  have p2 : W.cell? ⟨w.heap.size, 2, none⟩ = some (.int .i64 xo) := by subst hW; go_simp
  have p3 : W.cell? ⟨w.heap.size, 3, none⟩ = some (.int .i64 xt) := by subst hW; go_simp
  have p4 : W.cell? ⟨w.heap.size, 4, none⟩ = some (.bool xfl) := by subst hW; go_simp
  have p5 : W.cell? ⟨w.heap.size, 5, none⟩ = some (.bool xfa) := by subst hW; go_simp
  have p6 : W.cell? ⟨w.heap.size, 6, none⟩ = some (.int .i64 xg) := by subst hW; go_simp
  have hsW : w.heap.size < W.heap.size := by subst hW; simp
  clear hW
  go_upto_region 2 with (go_at_call 44; refine (HA.out _ hF).mono ?_; rintro e w2 ⟨rfl, hf⟩)
  replace hF := hF.then_ hf
  replace p0 := hf.cell p0 id
  replace p1 := hf.cell p1 id
  replace p2 := hf.cell p2 id
  replace p3 := hf.cell p3 id
  replace p4 := hf.cell p4 id
  replace p5 := hf.cell p5 id
  replace p6 := hf.cell p6 id
  have HM2 := Lib.hid (HM.out.frm hF id)
  have HF := Lib.hid hF
  have hsz : w.heap.size < w2.heap.size := Nat.lt_of_lt_of_le hsW hf.size
  obtain ⟨q, hq⟩ : ∃ q, w.heap.size = q := ⟨_, rfl⟩
  rw [hq] at p0 p1 p2 p3 p4 p5 p6 hsz hlt ⊢
  have hq2 : q ≠ w2.heap.size := by omega
  have hb2 : (4 : Nat) < w2.heap.size := by omega
  have hb3 : (4 : Nat) ≠ w2.heap.size := by omega
  clear hF hf hq hsW
  go_wp2_with fail
  go_ret
  exact ⟨rfl, HM2.out, (HF.out).none_ _⟩
set_option maxRecDepth 100000 in
set_option maxHeartbeats 2000000 in
theorem nx0_low (b : Nat) (l : List Th) (hb : ∀ k ∈ l, 0 ≤ k.1 ∧ k.1 ≤ 131072) (xa xo xt : Int) (xfl xfa : Bool) (xg : Int) (a o : Int) (w : World) (h : MpS w th2V b (oneV l)) (hs2 : 4 < b)
    (hA : ∀ v, (Frm w v fun _ => False) → Calls Tryd.prog 44 #[OpR.V ⟨0, xa, xo, xt, xfl, xfa, xg⟩] v fun e w' => e = .returned (.tuple #[.int .u32 a, .int .u32 o]) ∧ Frm v w' fun _ => False) (htk : ¬ 0 ≤ xt) (hge : a ≤ great l) : Nx b ⟨0, xa, xo, xt, xfl, xfa, xg⟩ false (l) w := by
  unfold Nx
  have hlt := h.lt
  have HB := Lib.hid hb
  have HM := Lib.hid h
  have HA := Lib.hid hA
  have ht : Tryd.prog.underlying 93 = some (.map 126 3) := by kernel_rfl
  clear hb h hA
  have e1 : decide ((0 : Int) ≤ xt) = false := by rw [decide_eq_false_iff_not]; exact htk
  clear htk
  go_enter Tryd.func62, Tryd.ntmps62
  go_upto_region 1 with fail
  refine at_world' ?_
  intro W hW
  have hF : Frm w W fun _ => False := by rw [hW]; exact ((Frm.refl _ _).alloc _)
  have p0 : W.cell? ⟨w.heap.size, 0, none⟩ = some (.int .u8 0) := by subst hW; go_simp
  have p1 : W.cell? ⟨w.heap.size, 1, none⟩ = some (.int .i64 xa) := by subst hW; go_simp
  have p2 : W.cell? ⟨w.heap.size, 2, none⟩ = some (.int .i64 xo) := by subst hW; go_simp
  have p3 : W.cell? ⟨w.heap.size, 3, none⟩ = some (.int .i64 xt) := by subst hW; go_simp
  have p4 : W.cell? ⟨w.heap.size, 4, none⟩ = some (.bool xfl) := by subst hW; go_simp
  have p5 : W.cell? ⟨w.heap.size, 5, none⟩ = some (.bool xfa) := by subst hW; go_simp
  have p6 : W.cell? ⟨w.heap.size, 6, none⟩ = some (.int .i64 xg) := by subst hW; go_simp
  have hsW : w.heap.size < W.heap.size := by subst hW; simp
  clear hW
  go_upto_region 2 with (go_at_call 44; refine (HA.out _ hF).mono ?_; rintro e w2 ⟨rfl, hf⟩)
  replace hF := hF.then_ hf
  replace p0 := hf.cell p0 id
  replace p1 := hf.cell p1 id
  replace p2 := hf.cell p2 id
  replace p3 := hf.cell p3 id
  replace p4 := hf.cell p4 id
  replace p5 := hf.cell p5 id
  replace p6 := hf.cell p6 id
  have HM2 := Lib.hid (HM.out.frm hF id)
  have HF := Lib.hid hF
  have hsz : w.heap.size < w2.heap.size := Nat.lt_of_lt_of_le hsW hf.size
  obtain ⟨q, hq⟩ : ∃ q, w.heap.size = q := ⟨_, rfl⟩
  rw [hq] at p0 p1 p2 p3 p4 p5 p6 hsz hlt ⊢
  have hq2 : q ≠ w2.heap.size := by omega
  have hb2 : (4 : Nat) < w2.heap.size := by omega
  have hb3 : (4 : Nat) ≠ w2.heap.size := by omega
  clear hF hf hq hsW
  have HGR := Lib.hid fun (v : World) (hv : Frm w2 v fun _ => False) => greatest_any b l HB.out v (HM2.out.frm hv id)
  obtain ⟨gr, hgr⟩ : ∃ g, great l = g := ⟨_, rfl⟩
  rw [hgr] at HGR hge
  clear hgr
  have e2 : decide (a ≤ gr) = true := by rw [decide_eq_true_eq]; omega
  clear hge
  go_wp2_with (go_at_call 83; refine (HGR.out _ (Frm.refl _ _)).mono ?_; rintro e w3 ⟨rfl, hf3⟩)
  go_ret
  exact ⟨rfl, HM2.out.frm hf3 id, (HF.out.then_ hf3).none_ _⟩
set_option maxRecDepth 100000 in
set_option maxHeartbeats 2000000 in
theorem nx0_yes (b : Nat) (l : List Th) (hb : ∀ k ∈ l, 0 ≤ k.1 ∧ k.1 ≤ 131072) (xa xo xt : Int) (xfl xfa : Bool) (xg : Int) (a o : Int) (w : World) (h : MpS w th2V b (oneV l)) (hs2 : 4 < b)
    (hA : ∀ v, (Frm w v fun _ => False) → Calls Tryd.prog 44 #[OpR.V ⟨0, xa, xo, xt, xfl, xfa, xg⟩] v fun e w' => e = .returned (.tuple #[.int .u32 a, .int .u32 o]) ∧ Frm v w' fun _ => False) (htk : ¬ 0 ≤ xt) (hge : ¬ a ≤ great l) : Nx b ⟨0, xa, xo, xt, xfl, xfa, xg⟩ true (addK l (a, 0)) w := by
  unfold Nx
  have hlt := h.lt
  have HB := Lib.hid hb
  have HM := Lib.hid h
  have HA := Lib.hid hA
  have ht : Tryd.prog.underlying 93 = some (.map 126 3) := by kernel_rfl
  clear hb h hA
  have e1 : decide ((0 : Int) ≤ xt) = false := by rw [decide_eq_false_iff_not]; exact htk
  clear htk
  go_enter Tryd.func62, Tryd.ntmps62
  go_upto_region 1 with fail
  refine at_world' ?_
  intro W hW
  have hF : Frm w W fun _ => False := by rw [hW]; exact ((Frm.refl _ _).alloc _)
  have p0 : W.cell? ⟨w.heap.size, 0, none⟩ = some (.int .u8 0) := by subst hW; go_simp
  have p1 : W.cell? ⟨w.heap.size, 1, none⟩ = some (.int .i64 xa) := by subst hW; go_simp
  have p2 : W.cell? ⟨w.heap.size, 2, none⟩ = some (.int .i64 xo) := by subst hW; go_simp
  have p3 : W.cell? ⟨w.heap.size, 3, none⟩ = some (.int .i64 xt) := by subst hW; go_simp
  have p4 : W.cell? ⟨w.heap.size, 4, none⟩ = some (.bool xfl) := by subst hW; go_simp
  have p5 : W.cell? ⟨w.heap.size, 5, none⟩ = some (.bool xfa) := by subst hW; go_simp
  have p6 : W.cell? ⟨w.heap.size, 6, none⟩ = some (.int .i64 xg) := by subst hW; go_simp
  have hsW : w.heap.size < W.heap.size := by subst hW; simp
  clear hW
  go_upto_region 2 with (go_at_call 44; refine (HA.out _ hF).mono ?_; rintro e w2 ⟨rfl, hf⟩)
  replace hF := hF.then_ hf
  replace p0 := hf.cell p0 id
  replace p1 := hf.cell p1 id
  replace p2 := hf.cell p2 id
  replace p3 := hf.cell p3 id
  replace p4 := hf.cell p4 id
  replace p5 := hf.cell p5 id
  replace p6 := hf.cell p6 id
  have HM2 := Lib.hid (HM.out.frm hF id)
  have HF := Lib.hid hF
  have hsz : w.heap.size < w2.heap.size := Nat.lt_of_lt_of_le hsW hf.size
  obtain ⟨q, hq⟩ : ∃ q, w.heap.size = q := ⟨_, rfl⟩
  rw [hq] at p0 p1 p2 p3 p4 p5 p6 hsz hlt ⊢
  have hq2 : q ≠ w2.heap.size := by omega
  have hb2 : (4 : Nat) < w2.heap.size := by omega
  have hb3 : (4 : Nat) ≠ w2.heap.size := by omega
  clear hF hf hq hsW
  have HGR := Lib.hid fun (v : World) (hv : Frm w2 v fun _ => False) => greatest_any b l HB.out v (HM2.out.frm hv id)
  obtain ⟨gr, hgr⟩ : ∃ g, great l = g := ⟨_, rfl⟩
  rw [hgr] at HGR hge
  clear hgr
  have e2 : decide (a ≤ gr) = false := by rw [decide_eq_false_iff_not]; omega
  clear hge
  go_upto_region 9 with (go_at_call 83; refine (HGR.out _ (Frm.refl _ _)).mono ?_; rintro e w3 ⟨rfl, hf3⟩)
  obtain ⟨w4, h4, hM4, hf4⟩ := (HM2.out.frm hf3 id).update thL2 ht (a, 0) (.int .i64 1)
  rw [mset_one] at hM4
  have h4 : (Instr.mapUpdate 93 (.map (some b)) (.agg #[.int .u32 a, .int .u8 0]) (.int .i64 1)).run Tryd.prog w3 = .ok () w4 := h4
  replace p0 := hf3.cell p0 id
  replace p3 := hf3.cell p3 id
  have HM4 := Lib.hid hM4
  have HF4 := Lib.hid (((HF.out.then_ hf3).none_ (fun j => j = b)).then_ hf4)
  have hbd : ∀ v a', (Instr.build 126 #[(0, Value.int .u32 v), (1, Value.int .u8 0)]).run Tryd.prog a' = .ok (.agg #[.int .u32 v, .int .u8 0]) a' := fun v a' => by kernel_rfl
  clear hM4 hf4 hf3 HGR
  go_wp2_with fail
  go_ret
  exact ⟨rfl, HM4.out, HF4.out⟩
set_option maxRecDepth 100000 in
set_option maxHeartbeats 2000000 in
theorem nx3_late (b : Nat) (l : List Th) (hb : ∀ k ∈ l, 0 ≤ k.1 ∧ k.1 ≤ 131072) (xa xo xt : Int) (xfl xfa : Bool) (xg : Int) (a o : Int) (w : World) (h : MpS w th2V b (oneV l)) (hs2 : 4 < b)
    (hA : ∀ v, (Frm w v fun _ => False) → Calls Tryd.prog 44 #[OpR.V ⟨3, xa, xo, xt, xfl, xfa, xg⟩] v fun e w' => e = .returned (.tuple #[.int .u32 a, .int .u32 o]) ∧ Frm v w' fun _ => False) (htk : 0 ≤ xt) : Nx b ⟨3, xa, xo, xt, xfl, xfa, xg⟩ false (l) w := by
  unfold Nx
  have hlt := h.lt
  have HB := Lib.hid hb
  have HM := Lib.hid h
  have HA := Lib.hid hA
  have ht : Tryd.prog.underlying 93 = some (.map 126 3) := by kernel_rfl
  clear hb h hA
  have e1 : decide ((0 : Int) ≤ xt) = true := by rw [decide_eq_true_eq]; exact htk
  clear htk
  go_enter Tryd.func62, Tryd.ntmps62
  go_upto_region 1 with fail
  refine at_world' ?_
  intro W hW
  have hF : Frm w W fun _ => False := by rw [hW]; exact ((Frm.refl _ _).alloc _)
  have p0 : W.cell? ⟨w.heap.size, 0, none⟩ = some (.int .u8 3) := by subst hW; go_simp
  have p1 : W.cell? ⟨w.heap.size, 1, none⟩ = some (.int .i64 xa) := by subst hW; go_simp
  have p2 : W.cell? ⟨w.heap.size, 2, none⟩ = some (.int .i64 xo) := by subst hW; go_simp
  have p3 : W.cell? ⟨w.heap.size, 3, none⟩ = some (.int .i64 xt) := by subst hW; go_simp
  have p4 : W.cell? ⟨w.heap.size, 4, none⟩ = some (.bool xfl) := by subst hW; go_simp
  have p5 : W.cell? ⟨w.heap.size, 5, none⟩ = some (.bool xfa) := by subst hW; go_simp
  have p6 : W.cell? ⟨w.heap.size, 6, none⟩ = some (.int .i64 xg) := by subst hW; go_simp
  have hsW : w.heap.size < W.heap.size := by subst hW; simp
  clear hW
  go_upto_region 2 with (go_at_call 44; refine (HA.out _ hF).mono ?_; rintro e w2 ⟨rfl, hf⟩)
  replace hF := hF.then_ hf
  replace p0 := hf.cell p0 id
  replace p1 := hf.cell p1 id
  replace p2 := hf.cell p2 id
  replace p3 := hf.cell p3 id
  replace p4 := hf.cell p4 id
  replace p5 := hf.cell p5 id
  replace p6 := hf.cell p6 id
  have HM2 := Lib.hid (HM.out.frm hF id)
  have HF := Lib.hid hF
  have hsz : w.heap.size < w2.heap.size := Nat.lt_of_lt_of_le hsW hf.size
  obtain ⟨q, hq⟩ : ∃ q, w.heap.size = q := ⟨_, rfl⟩
  rw [hq] at p0 p1 p2 p3 p4 p5 p6 hsz hlt ⊢
  have hq2 : q ≠ w2.heap.size := by omega
  have hb2 : (4 : Nat) < w2.heap.size := by omega
  have hb3 : (4 : Nat) ≠ w2.heap.size := by omega
  clear hF hf hq hsW
  go_wp2_with fail
  go_ret
  exact ⟨rfl, HM2.out, (HF.out).none_ _⟩
set_option maxRecDepth 100000 in
set_option maxHeartbeats 2000000 in
theorem nx3_low (b : Nat) (l : List Th) (hb : ∀ k ∈ l, 0 ≤ k.1 ∧ k.1 ≤ 131072) (xa xo xt : Int) (xfl xfa : Bool) (xg : Int) (a o : Int) (w : World) (h : MpS w th2V b (oneV l)) (hs2 : 4 < b)
    (hA : ∀ v, (Frm w v fun _ => False) → Calls Tryd.prog 44 #[OpR.V ⟨3, xa, xo, xt, xfl, xfa, xg⟩] v fun e w' => e = .returned (.tuple #[.int .u32 a, .int .u32 o]) ∧ Frm v w' fun _ => False) (htk : ¬ 0 ≤ xt) (hge : a ≤ great l) : Nx b ⟨3, xa, xo, xt, xfl, xfa, xg⟩ false (l) w := by
  unfold Nx
  have hlt := h.lt
  have HB := Lib.hid hb
  have HM := Lib.hid h
  have HA := Lib.hid hA
  have ht : Tryd.prog.underlying 93 = some (.map 126 3) := by kernel_rfl
  clear hb h hA
  have e1 : decide ((0 : Int) ≤ xt) = false := by rw [decide_eq_false_iff_not]; exact htk
  clear htk
  go_enter Tryd.func62, Tryd.ntmps62
  go_upto_region 1 with fail
  refine at_world' ?_
  intro W hW
  have hF : Frm w W fun _ => False := by rw [hW]; exact ((Frm.refl _ _).alloc _)
  have p0 : W.cell? ⟨w.heap.size, 0, none⟩ = some (.int .u8 3) := by subst hW; go_simp
  have p1 : W.cell? ⟨w.heap.size, 1, none⟩ = some (.int .i64 xa) := by subst hW; go_simp
  have p2 : W.cell? ⟨w.heap.size, 2, none⟩ = some (.int .i64 xo) := by subst hW; go_simp
  have p3 : W.cell? ⟨w.heap.size, 3, none⟩ = some (.int .i64 xt) := by subst hW; go_simp
  have p4 : W.cell? ⟨w.heap.size, 4, none⟩ = some (.bool xfl) := by subst hW; go_simp
  have p5 : W.cell? ⟨w.heap.size, 5, none⟩ = some (.bool xfa) := by subst hW; go_simp
  have p6 : W.cell? ⟨w.heap.size, 6, none⟩ = some (.int .i64 xg) := by subst hW; go_simp
  have hsW : w.heap.size < W.heap.size := by subst hW; simp
  clear hW
  go_upto_region 2 with (go_at_call 44; refine (HA.out _ hF).mono ?_; rintro e w2 ⟨rfl, hf⟩)
  replace hF := hF.then_ hf
  replace p0 := hf.cell p0 id
  replace p1 := hf.cell p1 id
  replace p2 := hf.cell p2 id
  replace p3 := hf.cell p3 id
  replace p4 := hf.cell p4 id
  replace p5 := hf.cell p5 id
  replace p6 := hf.cell p6 id
  have HM2 := Lib.hid (HM.out.frm hF id)
  have HF := Lib.hid hF
  have hsz : w.heap.size < w2.heap.size := Nat.lt_of_lt_of_le hsW hf.size
  obtain ⟨q, hq⟩ : ∃ q, w.heap.size = q := ⟨_, rfl⟩
  rw [hq] at p0 p1 p2 p3 p4 p5 p6 hsz hlt ⊢
  have hq2 : q ≠ w2.heap.size := by omega
  have hb2 : (4 : Nat) < w2.heap.size := by omega
  have hb3 : (4 : Nat) ≠ w2.heap.size := by omega
  clear hF hf hq hsW
  have HGR := Lib.hid fun (v : World) (hv : Frm w2 v fun _ => False) => greatest_any b l HB.out v (HM2.out.frm hv id)
  obtain ⟨gr, hgr⟩ : ∃ g, great l = g := ⟨_, rfl⟩
  rw [hgr] at HGR hge
  clear hgr
  have e2 : decide (a ≤ gr) = true := by rw [decide_eq_true_eq]; omega
  clear hge
  go_wp2_with (go_at_call 83; refine (HGR.out _ (Frm.refl _ _)).mono ?_; rintro e w3 ⟨rfl, hf3⟩)
  go_ret
  exact ⟨rfl, HM2.out.frm hf3 id, (HF.out.then_ hf3).none_ _⟩
set_option maxRecDepth 100000 in
set_option maxHeartbeats 2000000 in
theorem nx3_yes (b : Nat) (l : List Th) (hb : ∀ k ∈ l, 0 ≤ k.1 ∧ k.1 ≤ 131072) (xa xo xt : Int) (xfl xfa : Bool) (xg : Int) (a o : Int) (w : World) (h : MpS w th2V b (oneV l)) (hs2 : 4 < b)
    (hA : ∀ v, (Frm w v fun _ => False) → Calls Tryd.prog 44 #[OpR.V ⟨3, xa, xo, xt, xfl, xfa, xg⟩] v fun e w' => e = .returned (.tuple #[.int .u32 a, .int .u32 o]) ∧ Frm v w' fun _ => False) (htk : ¬ 0 ≤ xt) (hge : ¬ a ≤ great l) : Nx b ⟨3, xa, xo, xt, xfl, xfa, xg⟩ true (addK l (a, 3)) w := by
  unfold Nx
  have hlt := h.lt
  have HB := Lib.hid hb
  have HM := Lib.hid h
  have HA := Lib.hid hA
  have ht : Tryd.prog.underlying 93 = some (.map 126 3) := by kernel_rfl
  clear hb h hA
  have e1 : decide ((0 : Int) ≤ xt) = false := by rw [decide_eq_false_iff_not]; exact htk
  clear htk
  go_enter Tryd.func62, Tryd.ntmps62
  go_upto_region 1 with fail
  refine at_world' ?_
  intro W hW
  have hF : Frm w W fun _ => False := by rw [hW]; exact ((Frm.refl _ _).alloc _)
  have p0 : W.cell? ⟨w.heap.size, 0, none⟩ = some (.int .u8 3) := by subst hW; go_simp
  have p1 : W.cell? ⟨w.heap.size, 1, none⟩ = some (.int .i64 xa) := by subst hW; go_simp
  have p2 : W.cell? ⟨w.heap.size, 2, none⟩ = some (.int .i64 xo) := by subst hW; go_simp
  have p3 : W.cell? ⟨w.heap.size, 3, none⟩ = some (.int .i64 xt) := by subst hW; go_simp
  have p4 : W.cell? ⟨w.heap.size, 4, none⟩ = some (.bool xfl) := by subst hW; go_simp
  have p5 : W.cell? ⟨w.heap.size, 5, none⟩ = some (.bool xfa) := by subst hW; go_simp
  have p6 : W.cell? ⟨w.heap.size, 6, none⟩ = some (.int .i64 xg) := by subst hW; go_simp
  have hsW : w.heap.size < W.heap.size := by subst hW; simp
  clear hW
  go_upto_region 2 with (go_at_call 44; refine (HA.out _ hF).mono ?_; rintro e w2 ⟨rfl, hf⟩)
  replace hF := hF.then_ hf
  replace p0 := hf.cell p0 id
  replace p1 := hf.cell p1 id
  replace p2 := hf.cell p2 id
  replace p3 := hf.cell p3 id
  replace p4 := hf.cell p4 id
  replace p5 := hf.cell p5 id
  replace p6 := hf.cell p6 id
  have HM2 := Lib.hid (HM.out.frm hF id)
  have HF := Lib.hid hF
  have hsz : w.heap.size < w2.heap.size := Nat.lt_of_lt_of_le hsW hf.size
  obtain ⟨q, hq⟩ : ∃ q, w.heap.size = q := ⟨_, rfl⟩
  rw [hq] at p0 p1 p2 p3 p4 p5 p6 hsz hlt ⊢
  have hq2 : q ≠ w2.heap.size := by omega
  have hb2 : (4 : Nat) < w2.heap.size := by omega
  have hb3 : (4 : Nat) ≠ w2.heap.size := by omega
  clear hF hf hq hsW
  have HGR := Lib.hid fun (v : World) (hv : Frm w2 v fun _ => False) => greatest_any b l HB.out v (HM2.out.frm hv id)
  obtain ⟨gr, hgr⟩ : ∃ g, great l = g := ⟨_, rfl⟩
  rw [hgr] at HGR hge
  clear hgr
  have e2 : decide (a ≤ gr) = false := by rw [decide_eq_false_iff_not]; omega
  clear hge
  go_upto_region 9 with (go_at_call 83; refine (HGR.out _ (Frm.refl _ _)).mono ?_; rintro e w3 ⟨rfl, hf3⟩)
  obtain ⟨w4, h4, hM4, hf4⟩ := (HM2.out.frm hf3 id).update thL2 ht (a, 3) (.int .i64 1)
  rw [mset_one] at hM4
  have h4 : (Instr.mapUpdate 93 (.map (some b)) (.agg #[.int .u32 a, .int .u8 3]) (.int .i64 1)).run Tryd.prog w3 = .ok () w4 := h4
  replace p0 := hf3.cell p0 id
  replace p3 := hf3.cell p3 id
  have HM4 := Lib.hid hM4
  have HF4 := Lib.hid (((HF.out.then_ hf3).none_ (fun j => j = b)).then_ hf4)
  have hbd : ∀ v a', (Instr.build 126 #[(0, Value.int .u32 v), (1, Value.int .u8 3)]).run Tryd.prog a' = .ok (.agg #[.int .u32 v, .int .u8 3]) a' := fun v a' => by kernel_rfl
  clear hM4 hf4 hf3 HGR
  go_wp2_with fail
  go_ret
  exact ⟨rfl, HM4.out, HF4.out⟩
set_option maxRecDepth 100000 in
set_option maxHeartbeats 2000000 in
theorem nx6_late (b : Nat) (l : List Th) (hb : ∀ k ∈ l, 0 ≤ k.1 ∧ k.1 ≤ 131072) (xa xo xt : Int) (xfl xfa : Bool) (xg : Int) (a o : Int) (w : World) (h : MpS w th2V b (oneV l)) (hs2 : 4 < b)
    (hA : ∀ v, (Frm w v fun _ => False) → Calls Tryd.prog 44 #[OpR.V ⟨6, xa, xo, xt, xfl, xfa, xg⟩] v fun e w' => e = .returned (.tuple #[.int .u32 a, .int .u32 o]) ∧ Frm v w' fun _ => False) (htk : 0 ≤ xt) : Nx b ⟨6, xa, xo, xt, xfl, xfa, xg⟩ false (l) w := by
  unfold Nx
  have hlt := h.lt
  have HB := Lib.hid hb
  have HM := Lib.hid h
  have HA := Lib.hid hA
  have ht : Tryd.prog.underlying 93 = some (.map 126 3) := by kernel_rfl
  clear hb h hA
  have e1 : decide ((0 : Int) ≤ xt) = true := by rw [decide_eq_true_eq]; exact htk
  clear htk
  go_enter Tryd.func62, Tryd.ntmps62
  go_upto_region 1 with fail
  refine at_world' ?_
  intro W hW
  have hF : Frm w W fun _ => False := by rw [hW]; exact ((Frm.refl _ _).alloc _)
  have p0 : W.cell? ⟨w.heap.size, 0, none⟩ = some (.int .u8 6) := by subst hW; go_simp
  have p1 : W.cell? ⟨w.heap.size, 1, none⟩ = some (.int .i64 xa) := by subst hW; go_simp
  have p2 : W.cell? ⟨w.heap.size, 2, none⟩ = some (.int .i64 xo) := by subst hW; go_simp
  have p3 : W.cell? ⟨w.heap.size, 3, none⟩ = some (.int .i64 xt) := by subst hW; go_simp
  have p4 : W.cell? ⟨w.heap.size, 4, none⟩ = some (.bool xfl) := by subst hW; go_simp
  have p5 : W.cell? ⟨w.heap.size, 5, none⟩ = some (.bool xfa) := by subst hW; go_simp
  have p6 : W.cell? ⟨w.heap.size, 6, none⟩ = some (.int .i64 xg) := by subst hW; go_simp
  have hsW : w.heap.size < W.heap.size := by subst hW; simp
  clear hW
  go_upto_region 2 with (go_at_call 44; refine (HA.out _ hF).mono ?_; rintro e w2 ⟨rfl, hf⟩)
  replace hF := hF.then_ hf
  replace p0 := hf.cell p0 id
  replace p1 := hf.cell p1 id
  replace p2 := hf.cell p2 id
  replace p3 := hf.cell p3 id
  replace p4 := hf.cell p4 id
  replace p5 := hf.cell p5 id
  replace p6 := hf.cell p6 id
  have HM2 := Lib.hid (HM.out.frm hF id)
  have HF := Lib.hid hF
  have hsz : w.heap.size < w2.heap.size := Nat.lt_of_lt_of_le hsW hf.size
  obtain ⟨q, hq⟩ : ∃ q, w.heap.size = q := ⟨_, rfl⟩
  rw [hq] at p0 p1 p2 p3 p4 p5 p6 hsz hlt ⊢
  have hq2 : q ≠ w2.heap.size := by omega
  have hb2 : (4 : Nat) < w2.heap.size := by omega
  have hb3 : (4 : Nat) ≠ w2.heap.size := by omega
  clear hF hf hq hsW
  go_wp2_with fail
  go_ret
  exact ⟨rfl, HM2.out, (HF.out).none_ _⟩
set_option maxRecDepth 100000 in
set_option maxHeartbeats 2000000 in
theorem nx6_low (b : Nat) (l : List Th) (hb : ∀ k ∈ l, 0 ≤ k.1 ∧ k.1 ≤ 131072) (xa xo xt : Int) (xfl xfa : Bool) (xg : Int) (a o : Int) (w : World) (h : MpS w th2V b (oneV l)) (hs2 : 4 < b)
    (hA : ∀ v, (Frm w v fun _ => False) → Calls Tryd.prog 44 #[OpR.V ⟨6, xa, xo, xt, xfl, xfa, xg⟩] v fun e w' => e = .returned (.tuple #[.int .u32 a, .int .u32 o]) ∧ Frm v w' fun _ => False) (htk : ¬ 0 ≤ xt) (hge : a ≤ great l) : Nx b ⟨6, xa, xo, xt, xfl, xfa, xg⟩ false (l) w := by
  unfold Nx
  have hlt := h.lt
  have HB := Lib.hid hb
  have HM := Lib.hid h
  have HA := Lib.hid hA
  have ht : Tryd.prog.underlying 93 = some (.map 126 3) := by kernel_rfl
  clear hb h hA
  have e1 : decide ((0 : Int) ≤ xt) = false := by rw [decide_eq_false_iff_not]; exact htk
  clear htk
  go_enter Tryd.func62, Tryd.ntmps62
  go_upto_region 1 with fail
  refine at_world' ?_
  intro W hW
  have hF : Frm w W fun _ => False := by rw [hW]; exact ((Frm.refl _ _).alloc _)
  have p0 : W.cell? ⟨w.heap.size, 0, none⟩ = some (.int .u8 6) := by subst hW; go_simp
  have p1 : W.cell? ⟨w.heap.size, 1, none⟩ = some (.int .i64 xa) := by subst hW; go_simp
  have p2 : W.cell? ⟨w.heap.size, 2, none⟩ = some (.int .i64 xo) := by subst hW; go_simp
  have p3 : W.cell? ⟨w.heap.size, 3, none⟩ = some (.int .i64 xt) := by subst hW; go_simp
  have p4 : W.cell? ⟨w.heap.size, 4, none⟩ = some (.bool xfl) := by subst hW; go_simp
  have p5 : W.cell? ⟨w.heap.size, 5, none⟩ = some (.bool xfa) := by subst hW; go_simp
  have p6 : W.cell? ⟨w.heap.size, 6, none⟩ = some (.int .i64 xg) := by subst hW; go_simp
  have hsW : w.heap.size < W.heap.size := by subst hW; simp
  clear hW
  go_upto_region 2 with (go_at_call 44; refine (HA.out _ hF).mono ?_; rintro e w2 ⟨rfl, hf⟩)
  replace hF := hF.then_ hf
  replace p0 := hf.cell p0 id
  replace p1 := hf.cell p1 id
  replace p2 := hf.cell p2 id
  replace p3 := hf.cell p3 id
  replace p4 := hf.cell p4 id
  replace p5 := hf.cell p5 id
  replace p6 := hf.cell p6 id
  have HM2 := Lib.hid (HM.out.frm hF id)
  have HF := Lib.hid hF
  have hsz : w.heap.size < w2.heap.size := Nat.lt_of_lt_of_le hsW hf.size
  obtain ⟨q, hq⟩ : ∃ q, w.heap.size = q := ⟨_, rfl⟩
  rw [hq] at p0 p1 p2 p3 p4 p5 p6 hsz hlt ⊢
  have hq2 : q ≠ w2.heap.size := by omega
  have hb2 : (4 : Nat) < w2.heap.size := by omega
  have hb3 : (4 : Nat) ≠ w2.heap.size := by omega
  clear hF hf hq hsW
  have HGR := Lib.hid fun (v : World) (hv : Frm w2 v fun _ => False) => greatest_any b l HB.out v (HM2.out.frm hv id)
  obtain ⟨gr, hgr⟩ : ∃ g, great l = g := ⟨_, rfl⟩
  rw [hgr] at HGR hge
  clear hgr
  have e2 : decide (a ≤ gr) = true := by rw [decide_eq_true_eq]; omega
  clear hge
  go_wp2_with (go_at_call 83; refine (HGR.out _ (Frm.refl _ _)).mono ?_; rintro e w3 ⟨rfl, hf3⟩)
  go_ret
  exact ⟨rfl, HM2.out.frm hf3 id, (HF.out.then_ hf3).none_ _⟩
set_option maxRecDepth 100000 in
set_option maxHeartbeats 2000000 in
theorem nx6_yes (b : Nat) (l : List Th) (hb : ∀ k ∈ l, 0 ≤ k.1 ∧ k.1 ≤ 131072) (xa xo xt : Int) (xfl xfa : Bool) (xg : Int) (a o : Int) (w : World) (h : MpS w th2V b (oneV l)) (hs2 : 4 < b)
    (hA : ∀ v, (Frm w v fun _ => False) → Calls Tryd.prog 44 #[OpR.V ⟨6, xa, xo, xt, xfl, xfa, xg⟩] v fun e w' => e = .returned (.tuple #[.int .u32 a, .int .u32 o]) ∧ Frm v w' fun _ => False) (htk : ¬ 0 ≤ xt) (hge : ¬ a ≤ great l) : Nx b ⟨6, xa, xo, xt, xfl, xfa, xg⟩ true (addK l (a, 6)) w := by
  unfold Nx
  have hlt := h.lt
  have HB := Lib.hid hb
  have HM := Lib.hid h
  have HA := Lib.hid hA
  have ht : Tryd.prog.underlying 93 = some (.map 126 3) := by kernel_rfl
  clear hb h hA
  have e1 : decide ((0 : Int) ≤ xt) = false := by rw [decide_eq_false_iff_not]; exact htk
  clear htk
  go_enter Tryd.func62, Tryd.ntmps62
  go_upto_region 1 with fail
  refine at_world' ?_
  intro W hW
  have hF : Frm w W fun _ => False := by rw [hW]; exact ((Frm.refl _ _).alloc _)
  have p0 : W.cell? ⟨w.heap.size, 0, none⟩ = some (.int .u8 6) := by subst hW; go_simp
  have p1 : W.cell? ⟨w.heap.size, 1, none⟩ = some (.int .i64 xa) := by subst hW; go_simp
  have p2 : W.cell? ⟨w.heap.size, 2, none⟩ = some (.int .i64 xo) := by subst hW; go_simp
  have p3 : W.cell? ⟨w.heap.size, 3, none⟩ = some (.int .i64 xt) := by subst hW; go_simp
  have p4 : W.cell? ⟨w.heap.size, 4, none⟩ = some (.bool xfl) := by subst hW; go_simp
  have p5 : W.cell? ⟨w.heap.size, 5, none⟩ = some (.bool xfa) := by subst hW; go_simp
  have p6 : W.cell? ⟨w.heap.size, 6, none⟩ = some (.int .i64 xg) := by subst hW; go_simp
  have hsW : w.heap.size < W.heap.size := by subst hW; simp
  clear hW
  go_upto_region 2 with (go_at_call 44; refine (HA.out _ hF).mono ?_; rintro e w2 ⟨rfl, hf⟩)
  replace hF := hF.then_ hf
  replace p0 := hf.cell p0 id
  replace p1 := hf.cell p1 id
  replace p2 := hf.cell p2 id
  replace p3 := hf.cell p3 id
  replace p4 := hf.cell p4 id
  replace p5 := hf.cell p5 id
  replace p6 := hf.cell p6 id
  have HM2 := Lib.hid (HM.out.frm hF id)
  have HF := Lib.hid hF
  have hsz : w.heap.size < w2.heap.size := Nat.lt_of_lt_of_le hsW hf.size
  obtain ⟨q, hq⟩ : ∃ q, w.heap.size = q := ⟨_, rfl⟩
  rw [hq] at p0 p1 p2 p3 p4 p5 p6 hsz hlt ⊢
  have hq2 : q ≠ w2.heap.size := by omega
  have hb2 : (4 : Nat) < w2.heap.size := by omega
  have hb3 : (4 : Nat) ≠ w2.heap.size := by omega
  clear hF hf hq hsW
  have HGR := Lib.hid fun (v : World) (hv : Frm w2 v fun _ => False) => greatest_any b l HB.out v (HM2.out.frm hv id)
  obtain ⟨gr, hgr⟩ : ∃ g, great l = g := ⟨_, rfl⟩
  rw [hgr] at HGR hge
  clear hgr
  have e2 : decide (a ≤ gr) = false := by rw [decide_eq_false_iff_not]; omega
  clear hge
  go_upto_region 9 with (go_at_call 83; refine (HGR.out _ (Frm.refl _ _)).mono ?_; rintro e w3 ⟨rfl, hf3⟩)
  obtain ⟨w4, h4, hM4, hf4⟩ := (HM2.out.frm hf3 id).update thL2 ht (a, 6) (.int .i64 1)
  rw [mset_one] at hM4
  have h4 : (Instr.mapUpdate 93 (.map (some b)) (.agg #[.int .u32 a, .int .u8 6]) (.int .i64 1)).run Tryd.prog w3 = .ok () w4 := h4
  replace p0 := hf3.cell p0 id
  replace p3 := hf3.cell p3 id
  have HM4 := Lib.hid hM4
  have HF4 := Lib.hid (((HF.out.then_ hf3).none_ (fun j => j = b)).then_ hf4)
  have hbd : ∀ v a', (Instr.build 126 #[(0, Value.int .u32 v), (1, Value.int .u8 6)]).run Tryd.prog a' = .ok (.agg #[.int .u32 v, .int .u8 6]) a' := fun v a' => by kernel_rfl
  clear hM4 hf4 hf3 HGR
  go_wp2_with fail
  go_ret
  exact ⟨rfl, HM4.out, HF4.out⟩
set_option maxRecDepth 100000 in
set_option maxHeartbeats 2000000 in
theorem nx9_late (b : Nat) (l : List Th) (hb : ∀ k ∈ l, 0 ≤ k.1 ∧ k.1 ≤ 131072) (xa xo xt : Int) (xfl xfa : Bool) (xg : Int) (a o : Int) (w : World) (h : MpS w th2V b (oneV l)) (hs2 : 4 < b)
    (hA : ∀ v, (Frm w v fun _ => False) → Calls Tryd.prog 44 #[OpR.V ⟨9, xa, xo, xt, xfl, xfa, xg⟩] v fun e w' => e = .returned (.tuple #[.int .u32 a, .int .u32 o]) ∧ Frm v w' fun _ => False) (htk : 0 ≤ xt) : Nx b ⟨9, xa, xo, xt, xfl, xfa, xg⟩ false (l) w := by
  unfold Nx
  have hlt := h.lt
  have HB := Lib.hid hb
  have HM := Lib.hid h
  have HA := Lib.hid hA
  have ht : Tryd.prog.underlying 93 = some (.map 126 3) := by kernel_rfl
  clear hb h hA
  have e1 : decide ((0 : Int) ≤ xt) = true := by rw [decide_eq_true_eq]; exact htk
  clear htk
  go_enter Tryd.func62, Tryd.ntmps62
  go_upto_region 1 with fail
  refine at_world' ?_
  intro W hW
  have hF : Frm w W fun _ => False := by rw [hW]; exact ((Frm.refl _ _).alloc _)
  have p0 : W.cell? ⟨w.heap.size, 0, none⟩ = some (.int .u8 9) := by subst hW; go_simp
  have p1 : W.cell? ⟨w.heap.size, 1, none⟩ = some (.int .i64 xa) := by subst hW; go_simp
  have p2 : W.cell? ⟨w.heap.size, 2, none⟩ = some (.int .i64 xo) := by subst hW; go_simp
  have p3 : W.cell? ⟨w.heap.size, 3, none⟩ = some (.int .i64 xt) := by subst hW; go_simp
  have p4 : W.cell? ⟨w.heap.size, 4, none⟩ = some (.bool xfl) := by subst hW; go_simp
  have p5 : W.cell? ⟨w.heap.size, 5, none⟩ = some (.bool xfa) := by subst hW; go_simp
  have p6 : W.cell? ⟨w.heap.size, 6, none⟩ = some (.int .i64 xg) := by subst hW; go_simp
  have hsW : w.heap.size < W.heap.size := by subst hW; simp
  clear hW
  go_upto_region 2 with (go_at_call 44; refine (HA.out _ hF).mono ?_; rintro e w2 ⟨rfl, hf⟩)
  replace hF := hF.then_ hf
  replace p0 := hf.cell p0 id
  replace p1 := hf.cell p1 id
  replace p2 := hf.cell p2 id
  replace p3 := hf.cell p3 id
  replace p4 := hf.cell p4 id
  replace p5 := hf.cell p5 id
  replace p6 := hf.cell p6 id
  have HM2 := Lib.hid (HM.out.frm hF id)
  have HF := Lib.hid hF
  have hsz : w.heap.size < w2.heap.size := Nat.lt_of_lt_of_le hsW hf.size
  obtain ⟨q, hq⟩ : ∃ q, w.heap.size = q := ⟨_, rfl⟩
  rw [hq] at p0 p1 p2 p3 p4 p5 p6 hsz hlt ⊢
  have hq2 : q ≠ w2.heap.size := by omega
  have hb2 : (4 : Nat) < w2.heap.size := by omega
  have hb3 : (4 : Nat) ≠ w2.heap.size := by omega
  clear hF hf hq hsW
  go_wp2_with fail
  go_ret
  exact ⟨rfl, HM2.out, (HF.out).none_ _⟩
set_option maxRecDepth 100000 in
set_option maxHeartbeats 2000000 in
theorem nx9_low (b : Nat) (l : List Th) (hb : ∀ k ∈ l, 0 ≤ k.1 ∧ k.1 ≤ 131072) (xa xo xt : Int) (xfl xfa : Bool) (xg : Int) (a o : Int) (w : World) (h : MpS w th2V b (oneV l)) (hs2 : 4 < b)
    (hA : ∀ v, (Frm w v fun _ => False) → Calls Tryd.prog 44 #[OpR.V ⟨9, xa, xo, xt, xfl, xfa, xg⟩] v fun e w' => e = .returned (.tuple #[.int .u32 a, .int .u32 o]) ∧ Frm v w' fun _ => False) (htk : ¬ 0 ≤ xt) (hge : a ≤ great l) : Nx b ⟨9, xa, xo, xt, xfl, xfa, xg⟩ false (l) w := by
  unfold Nx
  have hlt := h.lt
  have HB := Lib.hid hb
  have HM := Lib.hid h
  have HA := Lib.hid hA
  have ht : Tryd.prog.underlying 93 = some (.map 126 3) := by kernel_rfl
  clear hb h hA
  have e1 : decide ((0 : Int) ≤ xt) = false := by rw [decide_eq_false_iff_not]; exact htk
  clear htk
  go_enter Tryd.func62, Tryd.ntmps62
  go_upto_region 1 with fail
  refine at_world' ?_
  intro W hW
  have hF : Frm w W fun _ => False := by rw [hW]; exact ((Frm.refl _ _).alloc _)
  have p0 : W.cell? ⟨w.heap.size, 0, none⟩ = some (.int .u8 9) := by subst hW; go_simp
  have p1 : W.cell? ⟨w.heap.size, 1, none⟩ = some (.int .i64 xa) := by subst hW; go_simp
  have p2 : W.cell? ⟨w.heap.size, 2, none⟩ = some (.int .i64 xo) := by subst hW; go_simp
  have p3 : W.cell? ⟨w.heap.size, 3, none⟩ = some (.int .i64 xt) := by subst hW; go_simp
  have p4 : W.cell? ⟨w.heap.size, 4, none⟩ = some (.bool xfl) := by subst hW; go_simp
  have p5 : W.cell? ⟨w.heap.size, 5, none⟩ = some (.bool xfa) := by subst hW; go_simp
  have p6 : W.cell? ⟨w.heap.size, 6, none⟩ = some (.int .i64 xg) := by subst hW; go_simp
  have hsW : w.heap.size < W.heap.size := by subst hW; simp
  clear hW
  go_upto_region 2 with (go_at_call 44; refine (HA.out _ hF).mono ?_; rintro e w2 ⟨rfl, hf⟩)
  replace hF := hF.then_ hf
  replace p0 := hf.cell p0 id
  replace p1 := hf.cell p1 id
  replace p2 := hf.cell p2 id
  replace p3 := hf.cell p3 id
  replace p4 := hf.cell p4 id
  replace p5 := hf.cell p5 id
  replace p6 := hf.cell p6 id
  have HM2 := Lib.hid (HM.out.frm hF id)
  have HF := Lib.hid hF
  have hsz : w.heap.size < w2.heap.size := Nat.lt_of_lt_of_le hsW hf.size
  obtain ⟨q, hq⟩ : ∃ q, w.heap.size = q := ⟨_, rfl⟩
  rw [hq] at p0 p1 p2 p3 p4 p5 p6 hsz hlt ⊢
  have hq2 : q ≠ w2.heap.size := by omega
  have hb2 : (4 : Nat) < w2.heap.size := by omega
  have hb3 : (4 : Nat) ≠ w2.heap.size := by omega
  clear hF hf hq hsW
  have HGR := Lib.hid fun (v : World) (hv : Frm w2 v fun _ => False) => greatest_any b l HB.out v (HM2.out.frm hv id)
  obtain ⟨gr, hgr⟩ : ∃ g, great l = g := ⟨_, rfl⟩
  rw [hgr] at HGR hge
  clear hgr
  have e2 : decide (a ≤ gr) = true := by rw [decide_eq_true_eq]; omega
  clear hge
  go_wp2_with (go_at_call 83; refine (HGR.out _ (Frm.refl _ _)).mono ?_; rintro e w3 ⟨rfl, hf3⟩)
  go_ret
  exact ⟨rfl, HM2.out.frm hf3 id, (HF.out.then_ hf3).none_ _⟩
set_option maxRecDepth 100000 in
set_option maxHeartbeats 2000000 in
theorem nx9_yes (b : Nat) (l : List Th) (hb : ∀ k ∈ l, 0 ≤ k.1 ∧ k.1 ≤ 131072) (xa xo xt : Int) (xfl xfa : Bool) (xg : Int) (a o : Int) (w : World) (h : MpS w th2V b (oneV l)) (hs2 : 4 < b)
    (hA : ∀ v, (Frm w v fun _ => False) → Calls Tryd.prog 44 #[OpR.V ⟨9, xa, xo, xt, xfl, xfa, xg⟩] v fun e w' => e = .returned (.tuple #[.int .u32 a, .int .u32 o]) ∧ Frm v w' fun _ => False) (htk : ¬ 0 ≤ xt) (hge : ¬ a ≤ great l) : Nx b ⟨9, xa, xo, xt, xfl, xfa, xg⟩ true (addK l (a, 9)) w := by
  unfold Nx
  have hlt := h.lt
  have HB := Lib.hid hb
  have HM := Lib.hid h
  have HA := Lib.hid hA
  have ht : Tryd.prog.underlying 93 = some (.map 126 3) := by kernel_rfl
  clear hb h hA
  have e1 : decide ((0 : Int) ≤ xt) = false := by rw [decide_eq_false_iff_not]; exact htk
  clear htk
  go_enter Tryd.func62, Tryd.ntmps62
  go_upto_region 1 with fail
  refine at_world' ?_
  intro W hW
  have hF : Frm w W fun _ => False := by rw [hW]; exact ((Frm.refl _ _).alloc _)
  have p0 : W.cell? ⟨w.heap.size, 0, none⟩ = some (.int .u8 9) := by subst hW; go_simp
  have p1 : W.cell? ⟨w.heap.size, 1, none⟩ = some (.int .i64 xa) := by subst hW; go_simp
  have p2 : W.cell? ⟨w.heap.size, 2, none⟩ = some (.int .i64 xo) := by subst hW; go_simp
  have p3 : W.cell? ⟨w.heap.size, 3, none⟩ = some (.int .i64 xt) := by subst hW; go_simp
  have p4 : W.cell? ⟨w.heap.size, 4, none⟩ = some (.bool xfl) := by subst hW; go_simp
  have p5 : W.cell? ⟨w.heap.size, 5, none⟩ = some (.bool xfa) := by subst hW; go_simp
  have p6 : W.cell? ⟨w.heap.size, 6, none⟩ = some (.int .i64 xg) := by subst hW; go_simp
  have hsW : w.heap.size < W.heap.size := by subst hW; simp
  clear hW
  go_upto_region 2 with (go_at_call 44; refine (HA.out _ hF).mono ?_; rintro e w2 ⟨rfl, hf⟩)
  replace hF := hF.then_ hf
  replace p0 := hf.cell p0 id
  replace p1 := hf.cell p1 id
  replace p2 := hf.cell p2 id
  replace p3 := hf.cell p3 id
  replace p4 := hf.cell p4 id
  replace p5 := hf.cell p5 id
  replace p6 := hf.cell p6 id
  have HM2 := Lib.hid (HM.out.frm hF id)
  have HF := Lib.hid hF
  have hsz : w.heap.size < w2.heap.size := Nat.lt_of_lt_of_le hsW hf.size
  obtain ⟨q, hq⟩ : ∃ q, w.heap.size = q := ⟨_, rfl⟩
  rw [hq] at p0 p1 p2 p3 p4 p5 p6 hsz hlt ⊢
  have hq2 : q ≠ w2.heap.size := by omega
  have hb2 : (4 : Nat) < w2.heap.size := by omega
  have hb3 : (4 : Nat) ≠ w2.heap.size := by omega
  clear hF hf hq hsW
  have HGR := Lib.hid fun (v : World) (hv : Frm w2 v fun _ => False) => greatest_any b l HB.out v (HM2.out.frm hv id)
  obtain ⟨gr, hgr⟩ : ∃ g, great l = g := ⟨_, rfl⟩
  rw [hgr] at HGR hge
  clear hgr
  have e2 : decide (a ≤ gr) = false := by rw [decide_eq_false_iff_not]; omega
  clear hge
  go_upto_region 9 with (go_at_call 83; refine (HGR.out _ (Frm.refl _ _)).mono ?_; rintro e w3 ⟨rfl, hf3⟩)
  obtain ⟨w4, h4, hM4, hf4⟩ := (HM2.out.frm hf3 id).update thL2 ht (a, 9) (.int .i64 1)
  rw [mset_one] at hM4
  have h4 : (Instr.mapUpdate 93 (.map (some b)) (.agg #[.int .u32 a, .int .u8 9]) (.int .i64 1)).run Tryd.prog w3 = .ok () w4 := h4
  replace p0 := hf3.cell p0 id
  replace p3 := hf3.cell p3 id
  have HM4 := Lib.hid hM4
  have HF4 := Lib.hid (((HF.out.then_ hf3).none_ (fun j => j = b)).then_ hf4)
  have hbd : ∀ v a', (Instr.build 126 #[(0, Value.int .u32 v), (1, Value.int .u8 9)]).run Tryd.prog a' = .ok (.agg #[.int .u32 v, .int .u8 9]) a' := fun v a' => by kernel_rfl
  clear hM4 hf4 hf3 HGR
  go_wp2_with fail
  go_ret
  exact ⟨rfl, HM4.out, HF4.out⟩
end Go.Proofs.YtmjpaaippilioaaDoor

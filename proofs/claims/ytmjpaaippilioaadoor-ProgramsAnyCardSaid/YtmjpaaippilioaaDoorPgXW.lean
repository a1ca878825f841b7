import Derived.Test.YtmjpaaippilioaaDoorPgX
namespace Go.Proofs.YtmjpaaippilioaaDoor
open Go.RowKit Go.MapKept

set_option maxRecDepth 100000 in
set_option maxHeartbeats 2000000 in
theorem nx17_late (b : Nat) (l : List Th) (hb : ∀ k ∈ l, 0 ≤ k.1 ∧ k.1 ≤ 131072) (xa xo xt : Int) (xfl xfa : Bool) (xg : Int) (a o : Int) (w : World) (h : MpS w th2V b (oneV l)) (hs2 : 4 < b)
    (hA : ∀ v, (Frm w v fun _ => False) → Calls Tryd.prog 44 #[OpR.V ⟨17, xa, xo, xt, xfl, xfa, xg⟩] v fun e w' => e = .returned (.tuple #[.int .u32 a, .int .u32 o]) ∧ Frm v w' fun _ => False) (htk : ¬ 0 ≤ xt) : Nx b ⟨17, xa, xo, xt, xfl, xfa, xg⟩ false (l) w := by
  unfold Nx
  have hlt := h.lt
  have HB := Lib.hid hb
  have HM := Lib.hid h
  have HA := Lib.hid hA
  have ht : Tryd.prog.underlying 93 = some (.map 126 3) := by kernel_rfl
  clear hb h hA
  have e1 : decide ((0 : Int) ≤ xt) = false := by rw [decide_eq_false_iff_not]; exact htk
  clear htk
  go_enter Tryd.func62, Tryd.ntmps62
  go_upto_region 1 with fail
  refine at_world' ?_
  intro W hW
  have hF : Frm w W fun _ => False := by rw [hW]; exact ((Frm.refl _ _).alloc _)
  have p0 : W.cell? ⟨w.heap.size, 0, none⟩ = some (.int .u8 17) := by subst hW; go_simp
  have p1 : W.cell? ⟨w.heap.size, 1, none⟩ = some (.int .i64 xa) := by subst hW; go_simp
  have p2 : W.cell? ⟨w.heap.size, 2, none⟩ = some (.int .i64 xo) := by subst hW; go_simp
  have p3 : W.cell? ⟨w.heap.size, 3, none⟩ = some (.int .i64 xt) := by subst hW; go_simp
  have p4 : W.cell? ⟨w.heap.size, 4, none⟩ = some (.bool xfl) := by subst hW; go_simp
  have p5 : W.cell? ⟨w.heap.size, 5, none⟩ = some (.bool xfa) := by subst hW; go_simp
  have p6 : W.cell? ⟨w.heap.size, 6, none⟩ = some (.int .i64 xg) := by subst hW; go_simp
  have hsW : w.heap.size < W.heap.size := by subst hW; simp
  clear hW
  go_upto_region 2 with (go_at_call 44; refine (HA.out _ hF).mono ?_; rintro e w2 ⟨rfl, hf⟩)
  replace hF := hF.then_ hf
  replace p0 := hf.cell p0 id
  replace p1 := hf.cell p1 id
  replace p2 := hf.cell p2 id
  replace p3 := hf.cell p3 id
  replace p4 := hf.cell p4 id
  replace p5 := hf.cell p5 id
  replace p6 := hf.cell p6 id
  have HM2 := Lib.hid (HM.out.frm hF id)
  have HF := Lib.hid hF
  have hsz : w.heap.size < w2.heap.size := Nat.lt_of_lt_of_le hsW hf.size
  obtain ⟨q, hq⟩ : ∃ q, w.heap.size = q := ⟨_, rfl⟩
  rw [hq] at p0 p1 p2 p3 p4 p5 p6 hsz hlt ⊢
  have hq2 : q ≠ w2.heap.size := by omega
  have hb2 : (4 : Nat) < w2.heap.size := by omega
  have hb3 : (4 : Nat) ≠ w2.heap.size := by omega
  clear hF hf hq hsW
  go_wp2_with fail
  go_ret
  exact ⟨rfl, HM2.out, (HF.out).none_ _⟩
set_option maxRecDepth 100000 in
set_option maxHeartbeats 2000000 in
theorem nx17_no (b : Nat) (l : List Th) (hb : ∀ k ∈ l, 0 ≤ k.1 ∧ k.1 ≤ 131072) (xa xo xt : Int) (xfl xfa : Bool) (xg : Int) (a o : Int) (w : World) (h : MpS w th2V b (oneV l)) (hs2 : 4 < b)
    (hA : ∀ v, (Frm w v fun _ => False) → Calls Tryd.prog 44 #[OpR.V ⟨17, xa, xo, xt, xfl, xfa, xg⟩] v fun e w' => e = .returned (.tuple #[.int .u32 a, .int .u32 o]) ∧ Frm v w' fun _ => False) (htk : 0 ≤ xt) (hin : (o, (0 : Int)) ∉ l) : Nx b ⟨17, xa, xo, xt, xfl, xfa, xg⟩ false (l) w := by
  unfold Nx
  have hlt := h.lt
  have HB := Lib.hid hb
  have HM := Lib.hid h
  have HA := Lib.hid hA
  have ht : Tryd.prog.underlying 93 = some (.map 126 3) := by kernel_rfl
  clear hb h hA
  have e1 : decide ((0 : Int) ≤ xt) = true := by rw [decide_eq_true_eq]; exact htk
  clear htk
  have hbd : ∀ v a', (Instr.build 126 #[(0, Value.int .u32 v), (1, Value.int .u8 0)]).run Tryd.prog a' = .ok (.agg #[.int .u32 v, .int .u8 0]) a' := fun v a' => by kernel_rfl
  go_enter Tryd.func62, Tryd.ntmps62
  go_upto_region 1 with fail
  refine at_world' ?_
  intro W hW
  have hF : Frm w W fun _ => False := by rw [hW]; exact ((Frm.refl _ _).alloc _)
  have p0 : W.cell? ⟨w.heap.size, 0, none⟩ = some (.int .u8 17) := by subst hW; go_simp
  have p1 : W.cell? ⟨w.heap.size, 1, none⟩ = some (.int .i64 xa) := by subst hW; go_simp
  have p2 : W.cell? ⟨w.heap.size, 2, none⟩ = some (.int .i64 xo) := by subst hW; go_simp
  have p3 : W.cell? ⟨w.heap.size, 3, none⟩ = some (.int .i64 xt) := by subst hW; go_simp
  have p4 : W.cell? ⟨w.heap.size, 4, none⟩ = some (.bool xfl) := by subst hW; go_simp
  have p5 : W.cell? ⟨w.heap.size, 5, none⟩ = some (.bool xfa) := by subst hW; go_simp
  have p6 : W.cell? ⟨w.heap.size, 6, none⟩ = some (.int .i64 xg) := by subst hW; go_simp
  have hsW : w.heap.size < W.heap.size := by subst hW; simp
  clear hW
  go_upto_region 2 with (go_at_call 44; refine (HA.out _ hF).mono ?_; rintro e w2 ⟨rfl, hf⟩)
  replace hF := hF.then_ hf
  replace p0 := hf.cell p0 id
  replace p1 := hf.cell p1 id
  replace p2 := hf.cell p2 id
  replace p3 := hf.cell p3 id
  replace p4 := hf.cell p4 id
  replace p5 := hf.cell p5 id
  replace p6 := hf.cell p6 id
  have HM2 := Lib.hid (HM.out.frm hF id)
  have HF := Lib.hid hF
  have hsz : w.heap.size < w2.heap.size := Nat.lt_of_lt_of_le hsW hf.size
  obtain ⟨q, hq⟩ : ∃ q, w.heap.size = q := ⟨_, rfl⟩
  rw [hq] at p0 p1 p2 p3 p4 p5 p6 hsz hlt ⊢
  have hq2 : q ≠ w2.heap.size := by omega
  have hb2 : (4 : Nat) < w2.heap.size := by omega
  have hb3 : (4 : Nat) ≠ w2.heap.size := by omega
  clear hF hf hq hsW
  have hlk : (Instr.lookup 93 (.map (some b)) (.agg #[.int .u32 o, .int .u8 0]) false).run Tryd.prog w2 = .ok (.int .i64 (if (o, (0 : Int)) ∈ l then 1 else 0)) w2 := look77 HM2.out (o, 0)
  rw [if_neg hin] at hlk
  clear hin
  go_wp2_with fail
  go_ret
  exact ⟨rfl, HM2.out, (HF.out).none_ _⟩
set_option maxRecDepth 100000 in
set_option maxHeartbeats 2000000 in
theorem nx17_low (b : Nat) (l : List Th) (hb : ∀ k ∈ l, 0 ≤ k.1 ∧ k.1 ≤ 131072) (xa xo xt : Int) (xfl xfa : Bool) (xg : Int) (a o : Int) (w : World) (h : MpS w th2V b (oneV l)) (hs2 : 4 < b)
    (hA : ∀ v, (Frm w v fun _ => False) → Calls Tryd.prog 44 #[OpR.V ⟨17, xa, xo, xt, xfl, xfa, xg⟩] v fun e w' => e = .returned (.tuple #[.int .u32 a, .int .u32 o]) ∧ Frm v w' fun _ => False) (htk : 0 ≤ xt) (hin : (o, (0 : Int)) ∈ l) (hge : ¬ great l = o) : Nx b ⟨17, xa, xo, xt, xfl, xfa, xg⟩ false (l) w := by
  unfold Nx
  have hlt := h.lt
  have HB := Lib.hid hb
  have HM := Lib.hid h
  have HA := Lib.hid hA
  have ht : Tryd.prog.underlying 93 = some (.map 126 3) := by kernel_rfl
  clear hb h hA
  have e1 : decide ((0 : Int) ≤ xt) = true := by rw [decide_eq_true_eq]; exact htk
  clear htk
  have hbd : ∀ v a', (Instr.build 126 #[(0, Value.int .u32 v), (1, Value.int .u8 0)]).run Tryd.prog a' = .ok (.agg #[.int .u32 v, .int .u8 0]) a' := fun v a' => by kernel_rfl
  go_enter Tryd.func62, Tryd.ntmps62
  go_upto_region 1 with fail
  refine at_world' ?_
  intro W hW
  have hF : Frm w W fun _ => False := by rw [hW]; exact ((Frm.refl _ _).alloc _)
  have p0 : W.cell? ⟨w.heap.size, 0, none⟩ = some (.int .u8 17) := by subst hW; go_simp
  have p1 : W.cell? ⟨w.heap.size, 1, none⟩ = some (.int .i64 xa) := by subst hW; go_simp
  have p2 : W.cell? ⟨w.heap.size, 2, none⟩ = some (.int .i64 xo) := by subst hW; go_simp
  have p3 : W.cell? ⟨w.heap.size, 3, none⟩ = some (.int .i64 xt) := by subst hW; go_simp
  have p4 : W.cell? ⟨w.heap.size, 4, none⟩ = some (.bool xfl) := by subst hW; go_simp
  have p5 : W.cell? ⟨w.heap.size, 5, none⟩ = some (.bool xfa) := by subst hW; go_simp
  have p6 : W.cell? ⟨w.heap.size, 6, none⟩ = some (.int .i64 xg) := by subst hW; go_simp
  have hsW : w.heap.size < W.heap.size := by subst hW; simp
  clear hW
  go_upto_region 2 with (go_at_call 44; refine (HA.out _ hF).mono ?_; rintro e w2 ⟨rfl, hf⟩)
  replace hF := hF.then_ hf
  replace p0 := hf.cell p0 id
  replace p1 := hf.cell p1 id
  replace p2 := hf.cell p2 id
  replace p3 := hf.cell p3 id
  replace p4 := hf.cell p4 id
  replace p5 := hf.cell p5 id
  replace p6 := hf.cell p6 id
  have HM2 := Lib.hid (HM.out.frm hF id)
  have HF := Lib.hid hF
  have hsz : w.heap.size < w2.heap.size := Nat.lt_of_lt_of_le hsW hf.size
  obtain ⟨q, hq⟩ : ∃ q, w.heap.size = q := ⟨_, rfl⟩
  rw [hq] at p0 p1 p2 p3 p4 p5 p6 hsz hlt ⊢
  have hq2 : q ≠ w2.heap.size := by omega
  have hb2 : (4 : Nat) < w2.heap.size := by omega
  have hb3 : (4 : Nat) ≠ w2.heap.size := by omega
  clear hF hf hq hsW
  have hlk : (Instr.lookup 93 (.map (some b)) (.agg #[.int .u32 o, .int .u8 0]) false).run Tryd.prog w2 = .ok (.int .i64 (if (o, (0 : Int)) ∈ l then 1 else 0)) w2 := look77 HM2.out (o, 0)
  rw [if_pos hin] at hlk
  clear hin
  have HGR := Lib.hid fun (v : World) (hv : Frm w2 v fun _ => False) => greatest_any b l HB.out v (HM2.out.frm hv id)
  obtain ⟨gr, hgr⟩ : ∃ g, great l = g := ⟨_, rfl⟩
  rw [hgr] at HGR hge
  clear hgr
  have e2 : (gr == o) = false := by rw [beq_eq_false_iff_ne]; exact hge
  clear hge
  go_wp2_with (go_at_call 83; refine (HGR.out _ (Frm.refl _ _)).mono ?_; rintro e w3 ⟨rfl, hf3⟩)
  go_ret
  exact ⟨rfl, HM2.out.frm hf3 id, (HF.out.then_ hf3).none_ _⟩
set_option maxRecDepth 100000 in
set_option maxHeartbeats 2000000 in
theorem nx17_yes (b : Nat) (l : List Th) (hb : ∀ k ∈ l, 0 ≤ k.1 ∧ k.1 ≤ 131072) (xa xo xt : Int) (xfl xfa : Bool) (xg : Int) (a o : Int) (w : World) (h : MpS w th2V b (oneV l)) (hs2 : 4 < b)
    (hA : ∀ v, (Frm w v fun _ => False) → Calls Tryd.prog 44 #[OpR.V ⟨17, xa, xo, xt, xfl, xfa, xg⟩] v fun e w' => e = .returned (.tuple #[.int .u32 a, .int .u32 o]) ∧ Frm v w' fun _ => False) (htk : 0 ≤ xt) (hin : (o, (0 : Int)) ∈ l) (hge : great l = o) : Nx b ⟨17, xa, xo, xt, xfl, xfa, xg⟩ true (l) w := by
  unfold Nx
  have hlt := h.lt
  have HB := Lib.hid hb
  have HM := Lib.hid h
  have HA := Lib.hid hA
  have ht : Tryd.prog.underlying 93 = some (.map 126 3) := by kernel_rfl
  clear hb h hA
  have e1 : decide ((0 : Int) ≤ xt) = true := by rw [decide_eq_true_eq]; exact htk
  clear htk
  have hbd : ∀ v a', (Instr.build 126 #[(0, Value.int .u32 v), (1, Value.int .u8 0)]).run Tryd.prog a' = .ok (.agg #[.int .u32 v, .int .u8 0]) a' := fun v a' => by kernel_rfl
  go_enter Tryd.func62, Tryd.ntmps62
  go_upto_region 1 with fail
  refine at_world' ?_
  intro W hW
  have hF : Frm w W fun _ => False := by rw [hW]; exact ((Frm.refl _ _).alloc _)
  have p0 : W.cell? ⟨w.heap.size, 0, none⟩ = some (.int .u8 17) := by subst hW; go_simp
  have p1 : W.cell? ⟨w.heap.size, 1, none⟩ = some (.int .i64 xa) := by subst hW; go_simp
  have p2 : W.cell? ⟨w.heap.size, 2, none⟩ = some (.int .i64 xo) := by subst hW; go_simp
  have p3 : W.cell? ⟨w.heap.size, 3, none⟩ = some (.int .i64 xt) := by subst hW; go_simp
  have p4 : W.cell? ⟨w.heap.size, 4, none⟩ = some (.bool xfl) := by subst hW; go_simp
  have p5 : W.cell? ⟨w.heap.size, 5, none⟩ = some (.bool xfa) := by subst hW; go_simp
  have p6 : W.cell? ⟨w.heap.size, 6, none⟩ = some (.int .i64 xg) := by subst hW; go_simp
  have hsW : w.heap.size < W.heap.size := by subst hW; simp
  clear hW
  go_upto_region 2 with (go_at_call 44; refine (HA.out _ hF).mono ?_; rintro e w2 ⟨rfl, hf⟩)
  replace hF := hF.then_ hf
  replace p0 := hf.cell p0 id
  replace p1 := hf.cell p1 id
  replace p2 := hf.cell p2 id
  replace p3 := hf.cell p3 id
  replace p4 := hf.cell p4 id
  replace p5 := hf.cell p5 id
  replace p6 := hf.cell p6 id
  have HM2 := Lib.hid (HM.out.frm hF id)
  have HF := Lib.hid hF
  have hsz : w.heap.size < w2.heap.size := Nat.lt_of_lt_of_le hsW hf.size
  obtain ⟨q, hq⟩ : ∃ q, w.heap.size = q := ⟨_, rfl⟩
  rw [hq] at p0 p1 p2 p3 p4 p5 p6 hsz hlt ⊢
  have hq2 : q ≠ w2.heap.size := by omega
  have hb2 : (4 : Nat) < w2.heap.size := by omega
  have hb3 : (4 : Nat) ≠ w2.heap.size := by omega
  clear hF hf hq hsW
  have hlk : (Instr.lookup 93 (.map (some b)) (.agg #[.int .u32 o, .int .u8 0]) false).run Tryd.prog w2 = .ok (.int .i64 (if (o, (0 : Int)) ∈ l then 1 else 0)) w2 := look77 HM2.out (o, 0)
  rw [if_pos hin] at hlk
  clear hin
  have HGR := Lib.hid fun (v : World) (hv : Frm w2 v fun _ => False) => greatest_any b l HB.out v (HM2.out.frm hv id)
  obtain ⟨gr, hgr⟩ : ∃ g, great l = g := ⟨_, rfl⟩
  rw [hgr] at HGR hge
  clear hgr
  have e2 : (gr == o) = true := by rw [beq_iff_eq]; exact hge
  clear hge
  go_wp2_with (go_at_call 83; refine (HGR.out _ (Frm.refl _ _)).mono ?_; rintro e w3 ⟨rfl, hf3⟩)
  go_ret
  exact ⟨rfl, HM2.out.frm hf3 id, (HF.out.then_ hf3).none_ _⟩
set_option maxRecDepth 100000 in
set_option maxHeartbeats 2000000 in
theorem nx21_late (b : Nat) (l : List Th) (hb : ∀ k ∈ l, 0 ≤ k.1 ∧ k.1 ≤ 131072) (xa xo xt : Int) (xfl xfa : Bool) (xg : Int) (a o : Int) (w : World) (h : MpS w th2V b (oneV l)) (hs2 : 4 < b)
    (hA : ∀ v, (Frm w v fun _ => False) → Calls Tryd.prog 44 #[OpR.V ⟨21, xa, xo, xt, xfl, xfa, xg⟩] v fun e w' => e = .returned (.tuple #[.int .u32 a, .int .u32 o]) ∧ Frm v w' fun _ => False) (htk : ¬ 0 ≤ xt) : Nx b ⟨21, xa, xo, xt, xfl, xfa, xg⟩ false (l) w := by
  unfold Nx
  have hlt := h.lt
  have HB := Lib.hid hb
  have HM := Lib.hid h
  have HA := Lib.hid hA
  have ht : Tryd.prog.underlying 93 = some (.map 126 3) := by kernel_rfl
  clear hb h hA
  have e1 : decide ((0 : Int) ≤ xt) = false := by rw [decide_eq_false_iff_not]; exact htk
  clear htk
  go_enter Tryd.func62, Tryd.ntmps62
  go_upto_region 1 with fail
  refine at_world' ?_
  intro W hW
  have hF : Frm w W fun _ => False := by rw [hW]; exact ((Frm.refl _ _).alloc _)
  have p0 : W.cell? ⟨w.heap.size, 0, none⟩ = some (.int .u8 21) := by subst hW; go_simp
  have p1 : W.cell? ⟨w.heap.size, 1, none⟩ = some (.int .i64 xa) := by subst hW; go_simp
  have p2 : W.cell? ⟨w.heap.size, 2, none⟩ = some (.int .i64 xo) := by subst hW; go_simp
  have p3 : W.cell? ⟨w.heap.size, 3, none⟩ = some (.int .i64 xt) := by subst hW; go_simp
  have p4 : W.cell? ⟨w.heap.size, 4, none⟩ = some (.bool xfl) := by subst hW; go_simp
  have p5 : W.cell? ⟨w.heap.size, 5, none⟩ = some (.bool xfa) := by subst hW; go_simp
  have p6 : W.cell? ⟨w.heap.size, 6, none⟩ = some (.int .i64 xg) := by subst hW; go_simp
  have hsW : w.heap.size < W.heap.size := by subst hW; simp
  clear hW
  go_upto_region 2 with (go_at_call 44; refine (HA.out _ hF).mono ?_; rintro e w2 ⟨rfl, hf⟩)
  replace hF := hF.then_ hf
  replace p0 := hf.cell p0 id
  replace p1 := hf.cell p1 id
  replace p2 := hf.cell p2 id
  replace p3 := hf.cell p3 id
  replace p4 := hf.cell p4 id
  replace p5 := hf.cell p5 id
  replace p6 := hf.cell p6 id
  have HM2 := Lib.hid (HM.out.frm hF id)
  have HF := Lib.hid hF
  have hsz : w.heap.size < w2.heap.size := Nat.lt_of_lt_of_le hsW hf.size
  obtain ⟨q, hq⟩ : ∃ q, w.heap.size = q := ⟨_, rfl⟩
  rw [hq] at p0 p1 p2 p3 p4 p5 p6 hsz hlt ⊢
  have hq2 : q ≠ w2.heap.size := by omega
  have hb2 : (4 : Nat) < w2.heap.size := by omega
  have hb3 : (4 : Nat) ≠ w2.heap.size := by omega
  clear hF hf hq hsW
  go_wp2_with fail
  go_ret
  exact ⟨rfl, HM2.out, (HF.out).none_ _⟩
set_option maxRecDepth 100000 in
set_option maxHeartbeats 2000000 in
theorem nx21_yes (b : Nat) (l : List Th) (hb : ∀ k ∈ l, 0 ≤ k.1 ∧ k.1 ≤ 131072) (xa xo xt : Int) (xfl xfa : Bool) (xg : Int) (a o : Int) (w : World) (h : MpS w th2V b (oneV l)) (hs2 : 4 < b)
    (hA : ∀ v, (Frm w v fun _ => False) → Calls Tryd.prog 44 #[OpR.V ⟨21, xa, xo, xt, xfl, xfa, xg⟩] v fun e w' => e = .returned (.tuple #[.int .u32 a, .int .u32 o]) ∧ Frm v w' fun _ => False) (htk : 0 ≤ xt) : Nx b ⟨21, xa, xo, xt, xfl, xfa, xg⟩ true (l) w := by
  unfold Nx
  have hlt := h.lt
  have HB := Lib.hid hb
  have HM := Lib.hid h
  have HA := Lib.hid hA
  have ht : Tryd.prog.underlying 93 = some (.map 126 3) := by kernel_rfl
  clear hb h hA
  have e1 : decide ((0 : Int) ≤ xt) = true := by rw [decide_eq_true_eq]; exact htk
  clear htk
  go_enter Tryd.func62, Tryd.ntmps62
  go_upto_region 1 with fail
  refine at_world' ?_
  intro W hW
  have hF : Frm w W fun _ => False := by rw [hW]; exact ((Frm.refl _ _).alloc _)
  have p0 : W.cell? ⟨w.heap.size, 0, none⟩ = some (.int .u8 21) := by subst hW; go_simp
  have p1 : W.cell? ⟨w.heap.size, 1, none⟩ = some (.int .i64 xa) := by subst hW; go_simp
  have p2 : W.cell? ⟨w.heap.size, 2, none⟩ = some (.int .i64 xo) := by subst hW; go_simp
  have p3 : W.cell? ⟨w.heap.size, 3, none⟩ = some (.int .i64 xt) := by subst hW; go_simp
  have p4 : W.cell? ⟨w.heap.size, 4, none⟩ = some (.bool xfl) := by subst hW; go_simp
  have p5 : W.cell? ⟨w.heap.size, 5, none⟩ = some (.bool xfa) := by subst hW; go_simp
  have p6 : W.cell? ⟨w.heap.size, 6, none⟩ = some (.int .i64 xg) := by subst hW; go_simp
  have hsW : w.heap.size < W.heap.size := by subst hW; simp
  clear hW
  go_upto_region 2 with (go_at_call 44; refine (HA.out _ hF).mono ?_; rintro e w2 ⟨rfl, hf⟩)
  replace hF := hF.then_ hf
  replace p0 := hf.cell p0 id
  replace p1 := hf.cell p1 id
  replace p2 := hf.cell p2 id
  replace p3 := hf.cell p3 id
  replace p4 := hf.cell p4 id
  replace p5 := hf.cell p5 id
  replace p6 := hf.cell p6 id
  have HM2 := Lib.hid (HM.out.frm hF id)
  have HF := Lib.hid hF
  have hsz : w.heap.size < w2.heap.size := Nat.lt_of_lt_of_le hsW hf.size
  obtain ⟨q, hq⟩ : ∃ q, w.heap.size = q := ⟨_, rfl⟩
  rw [hq] at p0 p1 p2 p3 p4 p5 p6 hsz hlt ⊢
  have hq2 : q ≠ w2.heap.size := by omega
  have hb2 : (4 : Nat) < w2.heap.size := by omega
  have hb3 : (4 : Nat) ≠ w2.heap.size := by omega
  clear hF hf hq hsW
  go_wp2_with fail
  go_ret
  exact ⟨rfl, HM2.out, (HF.out).none_ _⟩
end Go.Proofs.YtmjpaaippilioaaDoor

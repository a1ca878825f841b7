import Derived.Test.YtmjpaaippilioaaDoorPgX
namespace Go.Proofs.YtmjpaaippilioaaDoor
open Go.RowKit Go.MapKept

set_option maxRecDepth 100000 in
set_option maxHeartbeats 2000000 in
theorem nx14_no (b : Nat) (l : List Th) (hb : ∀ k ∈ l, 0 ≤ k.1 ∧ k.1 ≤ 131072) (xa xo xt : Int) (xfl xfa : Bool) (xg : Int) (a o : Int) (w : World) (h : MpS w th2V b (oneV l)) (hs2 : 4 < b) (hG0 : w.cell? ⟨4, 28, none⟩ = some (.int .u8 9)) (hG1 : w.cell? ⟨4, 29, none⟩ = some (.int .u8 3))
    (hA : ∀ v, (Frm w v fun _ => False) → Calls Tryd.prog 44 #[OpR.V ⟨14, xa, xo, xt, xfl, xfa, xg⟩] v fun e w' => e = .returned (.tuple #[.int .u32 a, .int .u32 o]) ∧ Frm v w' fun _ => False) (hin : (a, (9 : Int)) ∉ l) : Nx b ⟨14, xa, xo, xt, xfl, xfa, xg⟩ false (l) w := by
  unfold Nx
  have hlt := h.lt
  have HB := Lib.hid hb
  have HM := Lib.hid h
  have HA := Lib.hid hA
  have ht : Tryd.prog.underlying 93 = some (.map 126 3) := by kernel_rfl
  clear hb h hA
  have hbd : ∀ v u a', (Instr.build 126 #[(0, Value.int .u32 v), (1, Value.int .u8 u)]).run Tryd.prog a' = .ok (.agg #[.int .u32 v, .int .u8 u]) a' := fun v u a' => by kernel_rfl
  go_enter Tryd.func62, Tryd.ntmps62
  go_upto_region 1 with fail
  refine at_world' ?_
  intro W hW
  have hF : Frm w W fun _ => False := by rw [hW]; exact ((Frm.refl _ _).alloc _)
  have p0 : W.cell? ⟨w.heap.size, 0, none⟩ = some (.int .u8 14) := by subst hW; go_simp
  have p1 : W.cell? ⟨w.heap.size, 1, none⟩ = some (.int .i64 xa) := by subst hW; go_simp
  have p2 : W.cell? ⟨w.heap.size, 2, none⟩ = some (.int .i64 xo) := by subst hW; go_simp
  have p3 : W.cell? ⟨w.heap.size, 3, none⟩ = some (.int .i64 xt) := by subst hW; go_simp
  have p4 : W.cell? ⟨w.heap.size, 4, none⟩ = some (.bool xfl) := by subst hW; go_simp
  have p5 : W.cell? ⟨w.heap.size, 5, none⟩ = some (.bool xfa) := by subst hW; go_simp
  have p6 : W.cell? ⟨w.heap.size, 6, none⟩ = some (.int .i64 xg) := by subst hW; go_simp
  have hsW : w.heap.size < W.heap.size := by subst hW; simp
  clear hW
  go_upto_region 2 with (go_at_call 44; refine (HA.out _ hF).mono ?_; rintro e w2 ⟨rfl, hf⟩)
  replace hF := hF.then_ hf
  replace p0 := hf.cell p0 id
  replace p1 := hf.cell p1 id
  replace p2 := hf.cell p2 id
  replace p3 := hf.cell p3 id
  replace p4 := hf.cell p4 id
  replace p5 := hf.cell p5 id
  replace p6 := hf.cell p6 id
  replace hG0 := hF.cell hG0 id
  replace hG1 := hF.cell hG1 id
  have HM2 := Lib.hid (HM.out.frm hF id)
  have HF := Lib.hid hF
  have hsz : w.heap.size < w2.heap.size := Nat.lt_of_lt_of_le hsW hf.size
  obtain ⟨q, hq⟩ : ∃ q, w.heap.size = q := ⟨_, rfl⟩
  rw [hq] at p0 p1 p2 p3 p4 p5 p6 hsz hlt ⊢
  have hq2 : q ≠ w2.heap.size := by omega
  have hb2 : (4 : Nat) < w2.heap.size := by omega
  have hb3 : (4 : Nat) ≠ w2.heap.size := by omega
  clear hF hf hq hsW
  go_upto_region 18 with fail
  refine at_world' ?_
  intro V hV
  have hG : Frm w2 V fun _ => False := by
    rw [hV]
    repeat (first | exact Frm.refl _ _ | with_reducible refine Frm.drew ?_ | with_reducible refine Frm.alloc ?_ _ | with_reducible refine Frm.setCell ?_ (fun h => absurd h (Nat.lt_irrefl _)) _)
  have c0 : V.cell? ⟨w2.heap.size, 0, none⟩ = some (.int .u8 9) := by subst hV; go_simp
  have c1 : V.cell? ⟨w2.heap.size, 1, none⟩ = some (.int .u8 3) := by subst hV; go_simp
  have HMV := Lib.hid (HM2.out.frm hG id)
  have HFV := Lib.hid (HF.out.then_ hG)
  replace p0 := hG.cell p0 id
  have hbV : w2.heap.size ≠ b := by omega
  have hbQ : q ≠ b := by omega
  obtain ⟨u, hu⟩ : ∃ u, w2.heap.size = u := ⟨_, rfl⟩
  rw [hu] at c0 c1 hbV ⊢
  have hlk : (Instr.lookup 93 (.map (some b)) (.agg #[.int .u32 a, .int .u8 9]) false).run Tryd.prog V = .ok (.int .i64 (if (a, (9 : Int)) ∈ l then 1 else 0)) V := look77 HMV.out (a, 9)
  clear hV hG hu p1 p2 p3 p4 p5 p6 hG0 hG1 hq2 hb2 hb3 hsz
  rw [if_neg hin] at hlk
  clear hin
  go_wp2_with fail
  go_ret
  exact ⟨rfl, HMV.out, (HFV.out).none_ _⟩
set_option maxRecDepth 100000 in
set_option maxHeartbeats 2000000 in
theorem nx14_yes (b : Nat) (l : List Th) (hb : ∀ k ∈ l, 0 ≤ k.1 ∧ k.1 ≤ 131072) (xa xo xt : Int) (xfl xfa : Bool) (xg : Int) (a o : Int) (w : World) (h : MpS w th2V b (oneV l)) (hs2 : 4 < b) (hG0 : w.cell? ⟨4, 28, none⟩ = some (.int .u8 9)) (hG1 : w.cell? ⟨4, 29, none⟩ = some (.int .u8 3))
    (hA : ∀ v, (Frm w v fun _ => False) → Calls Tryd.prog 44 #[OpR.V ⟨14, xa, xo, xt, xfl, xfa, xg⟩] v fun e w' => e = .returned (.tuple #[.int .u32 a, .int .u32 o]) ∧ Frm v w' fun _ => False) (hin : (a, (9 : Int)) ∈ l) : Nx b ⟨14, xa, xo, xt, xfl, xfa, xg⟩ true (addK (delK l (a, 9)) (a, 3)) w := by
  unfold Nx
  have hlt := h.lt
  have HB := Lib.hid hb
  have HM := Lib.hid h
  have HA := Lib.hid hA
  have ht : Tryd.prog.underlying 93 = some (.map 126 3) := by kernel_rfl
  clear hb h hA
  have hbd : ∀ v u a', (Instr.build 126 #[(0, Value.int .u32 v), (1, Value.int .u8 u)]).run Tryd.prog a' = .ok (.agg #[.int .u32 v, .int .u8 u]) a' := fun v u a' => by kernel_rfl
  go_enter Tryd.func62, Tryd.ntmps62
  go_upto_region 1 with fail
  refine at_world' ?_
  intro W hW
  have hF : Frm w W fun _ => False := by rw [hW]; exact ((Frm.refl _ _).alloc _)
  have p0 : W.cell? ⟨w.heap.size, 0, none⟩ = some (.int .u8 14) := by subst hW; go_simp
  have p1 : W.cell? ⟨w.heap.size, 1, none⟩ = some (.int .i64 xa) := by subst hW; go_simp
  have p2 : W.cell? ⟨w.heap.size, 2, none⟩ = some (.int .i64 xo) := by subst hW; go_simp
  have p3 : W.cell? ⟨w.heap.size, 3, none⟩ = some (.int .i64 xt) := by subst hW; go_simp
  have p4 : W.cell? ⟨w.heap.size, 4, none⟩ = some (.bool xfl) := by subst hW; go_simp
  have p5 : W.cell? ⟨w.heap.size, 5, none⟩ = some (.bool xfa) := by subst hW; go_simp
  have p6 : W.cell? ⟨w.heap.size, 6, none⟩ = some (.int .i64 xg) := by subst hW; go_simp
  have hsW : w.heap.size < W.heap.size := by subst hW; simp
  clear hW
  go_upto_region 2 with (go_at_call 44; refine (HA.out _ hF).mono ?_; rintro e w2 ⟨rfl, hf⟩)
  replace hF := hF.then_ hf
  replace p0 := hf.cell p0 id
  replace p1 := hf.cell p1 id
  replace p2 := hf.cell p2 id
  replace p3 := hf.cell p3 id
  replace p4 := hf.cell p4 id
  replace p5 := hf.cell p5 id
  replace p6 := hf.cell p6 id
  replace hG0 := hF.cell hG0 id
  replace hG1 := hF.cell hG1 id
  have HM2 := Lib.hid (HM.out.frm hF id)
  have HF := Lib.hid hF
  have hsz : w.heap.size < w2.heap.size := Nat.lt_of_lt_of_le hsW hf.size
  obtain ⟨q, hq⟩ : ∃ q, w.heap.size = q := ⟨_, rfl⟩
  rw [hq] at p0 p1 p2 p3 p4 p5 p6 hsz hlt ⊢
  have hq2 : q ≠ w2.heap.size := by omega
  have hb2 : (4 : Nat) < w2.heap.size := by omega
  have hb3 : (4 : Nat) ≠ w2.heap.size := by omega
  clear hF hf hq hsW
  go_upto_region 18 with fail
  refine at_world' ?_
  intro V hV
  have hG : Frm w2 V fun _ => False := by
    rw [hV]
    repeat (first | exact Frm.refl _ _ | with_reducible refine Frm.drew ?_ | with_reducible refine Frm.alloc ?_ _ | with_reducible refine Frm.setCell ?_ (fun h => absurd h (Nat.lt_irrefl _)) _)
  have c0 : V.cell? ⟨w2.heap.size, 0, none⟩ = some (.int .u8 9) := by subst hV; go_simp
  have c1 : V.cell? ⟨w2.heap.size, 1, none⟩ = some (.int .u8 3) := by subst hV; go_simp
  have HMV := Lib.hid (HM2.out.frm hG id)
  have HFV := Lib.hid (HF.out.then_ hG)
  replace p0 := hG.cell p0 id
  have hbV : w2.heap.size ≠ b := by omega
  have hbQ : q ≠ b := by omega
  obtain ⟨u, hu⟩ : ∃ u, w2.heap.size = u := ⟨_, rfl⟩
  rw [hu] at c0 c1 hbV ⊢
  have hlk : (Instr.lookup 93 (.map (some b)) (.agg #[.int .u32 a, .int .u8 9]) false).run Tryd.prog V = .ok (.int .i64 (if (a, (9 : Int)) ∈ l then 1 else 0)) V := look77 HMV.out (a, 9)
  clear hV hG hu p1 p2 p3 p4 p5 p6 hG0 hG1 hq2 hb2 hb3 hsz
  rw [if_pos hin] at hlk
  clear hin
  obtain ⟨w4, h4, hM4, hf4⟩ := HMV.out.delete thL2 (ty := 0) (k2 := 126) ht (a, 9)
  rw [mdel_one] at hM4
  have h4 : (Builtin.delete_ #[93, 126] 0 #[.map (some b), .agg #[.int .u32 a, .int .u8 9]]).run Tryd.prog V = .ok (.tuple #[]) w4 := h4
  have d0 := hf4.cell c0 hbV
  have d1 := hf4.cell c1 hbV
  have d2 := hf4.cell p0 hbQ
  obtain ⟨w5, h5, hM5, hf5⟩ := hM4.update thL2 ht (a, 3) (.int .i64 1)
  rw [mset_one] at hM5
  have h5 : (Instr.mapUpdate 93 (.map (some b)) (.agg #[.int .u32 a, .int .u8 3]) (.int .i64 1)).run Tryd.prog w4 = .ok () w5 := h5
  have HM5 := Lib.hid hM5
  have HF5 := Lib.hid (((HFV.out.none_ (fun j => j = b)).then_ hf4).then_ hf5)
  clear hM5 hf5 hM4 hf4
  go_wp2_with fail
  go_ret
  exact ⟨rfl, HM5.out, HF5.out⟩
set_option maxRecDepth 100000 in
set_option maxHeartbeats 2000000 in
theorem nx15_no (b : Nat) (l : List Th) (hb : ∀ k ∈ l, 0 ≤ k.1 ∧ k.1 ≤ 131072) (xa xo xt : Int) (xfl xfa : Bool) (xg : Int) (a o : Int) (w : World) (h : MpS w th2V b (oneV l)) (hs2 : 4 < b) (hG0 : w.cell? ⟨4, 30, none⟩ = some (.int .u8 9)) (hG1 : w.cell? ⟨4, 31, none⟩ = some (.int .u8 6))
    (hA : ∀ v, (Frm w v fun _ => False) → Calls Tryd.prog 44 #[OpR.V ⟨15, xa, xo, xt, xfl, xfa, xg⟩] v fun e w' => e = .returned (.tuple #[.int .u32 a, .int .u32 o]) ∧ Frm v w' fun _ => False) (hin : (a, (9 : Int)) ∉ l) : Nx b ⟨15, xa, xo, xt, xfl, xfa, xg⟩ false (l) w := by
  unfold Nx
  have hlt := h.lt
  have HB := Lib.hid hb
  have HM := Lib.hid h
  have HA := Lib.hid hA
  have ht : Tryd.prog.underlying 93 = some (.map 126 3) := by kernel_rfl
  clear hb h hA
  have hbd : ∀ v u a', (Instr.build 126 #[(0, Value.int .u32 v), (1, Value.int .u8 u)]).run Tryd.prog a' = .ok (.agg #[.int .u32 v, .int .u8 u]) a' := fun v u a' => by kernel_rfl
  go_enter Tryd.func62, Tryd.ntmps62
  go_upto_region 1 with fail
  refine at_world' ?_
  intro W hW
  have hF : Frm w W fun _ => False := by rw [hW]; exact ((Frm.refl _ _).alloc _)
  have p0 : W.cell? ⟨w.heap.size, 0, none⟩ = some (.int .u8 15) := by subst hW; go_simp
  have p1 : W.cell? ⟨w.heap.size, 1, none⟩ = some (.int .i64 xa) := by subst hW; go_simp
  have p2 : W.cell? ⟨w.heap.size, 2, none⟩ = some (.int .i64 xo) := by subst hW; go_simp
  have p3 : W.cell? ⟨w.heap.size, 3, none⟩ = some (.int .i64 xt) := by subst hW; go_simp
  have p4 : W.cell? ⟨w.heap.size, 4, none⟩ = some (.bool xfl) := by subst hW; go_simp
  have p5 : W.cell? ⟨w.heap.size, 5, none⟩ = some (.bool xfa) := by subst hW; go_simp
  have p6 : W.cell? ⟨w.heap.size, 6, none⟩ = some (.int .i64 xg) := by subst hW; go_simp
  have hsW : w.heap.size < W.heap.size := by subst hW; simp
  clear hW
  go_upto_region 2 with (go_at_call 44; refine (HA.out _ hF).mono ?_; rintro e w2 ⟨rfl, hf⟩)
  replace hF := hF.then_ hf
  replace p0 := hf.cell p0 id
  replace p1 := hf.cell p1 id
  replace p2 := hf.cell p2 id
  replace p3 := hf.cell p3 id
  replace p4 := hf.cell p4 id
  replace p5 := hf.cell p5 id
  replace p6 := hf.cell p6 id
  replace hG0 := hF.cell hG0 id
  replace hG1 := hF.cell hG1 id
  have HM2 := Lib.hid (HM.out.frm hF id)
  have HF := Lib.hid hF
  have hsz : w.heap.size < w2.heap.size := Nat.lt_of_lt_of_le hsW hf.size
  obtain ⟨q, hq⟩ : ∃ q, w.heap.size = q := ⟨_, rfl⟩
  rw [hq] at p0 p1 p2 p3 p4 p5 p6 hsz hlt ⊢
  have hq2 : q ≠ w2.heap.size := by omega
  have hb2 : (4 : Nat) < w2.heap.size := by omega
  have hb3 : (4 : Nat) ≠ w2.heap.size := by omega
  clear hF hf hq hsW
  go_upto_region 18 with fail
  refine at_world' ?_
  intro V hV
  have hG : Frm w2 V fun _ => False := by
    rw [hV]
    repeat (first | exact Frm.refl _ _ | with_reducible refine Frm.drew ?_ | with_reducible refine Frm.alloc ?_ _ | with_reducible refine Frm.setCell ?_ (fun h => absurd h (Nat.lt_irrefl _)) _)
  have c0 : V.cell? ⟨w2.heap.size, 0, none⟩ = some (.int .u8 9) := by subst hV; go_simp
  have c1 : V.cell? ⟨w2.heap.size, 1, none⟩ = some (.int .u8 6) := by subst hV; go_simp
  have HMV := Lib.hid (HM2.out.frm hG id)
  have HFV := Lib.hid (HF.out.then_ hG)
  replace p0 := hG.cell p0 id
  have hbV : w2.heap.size ≠ b := by omega
  have hbQ : q ≠ b := by omega
  obtain ⟨u, hu⟩ : ∃ u, w2.heap.size = u := ⟨_, rfl⟩
  rw [hu] at c0 c1 hbV ⊢
  have hlk : (Instr.lookup 93 (.map (some b)) (.agg #[.int .u32 a, .int .u8 9]) false).run Tryd.prog V = .ok (.int .i64 (if (a, (9 : Int)) ∈ l then 1 else 0)) V := look77 HMV.out (a, 9)
  clear hV hG hu p1 p2 p3 p4 p5 p6 hG0 hG1 hq2 hb2 hb3 hsz
  rw [if_neg hin] at hlk
  clear hin
  go_wp2_with fail
  go_ret
  exact ⟨rfl, HMV.out, (HFV.out).none_ _⟩
set_option maxRecDepth 100000 in
set_option maxHeartbeats 2000000 in
theorem nx15_yes (b : Nat) (l : List Th) (hb : ∀ k ∈ l, 0 ≤ k.1 ∧ k.1 ≤ 131072) (xa xo xt : Int) (xfl xfa : Bool) (xg : Int) (a o : Int) (w : World) (h : MpS w th2V b (oneV l)) (hs2 : 4 < b) (hG0 : w.cell? ⟨4, 30, none⟩ = some (.int .u8 9)) (hG1 : w.cell? ⟨4, 31, none⟩ = some (.int .u8 6))
    (hA : ∀ v, (Frm w v fun _ => False) → Calls Tryd.prog 44 #[OpR.V ⟨15, xa, xo, xt, xfl, xfa, xg⟩] v fun e w' => e = .returned (.tuple #[.int .u32 a, .int .u32 o]) ∧ Frm v w' fun _ => False) (hin : (a, (9 : Int)) ∈ l) : Nx b ⟨15, xa, xo, xt, xfl, xfa, xg⟩ true (addK (delK l (a, 9)) (a, 6)) w := by
  unfold Nx
  have hlt := h.lt
  have HB := Lib.hid hb
  have HM := Lib.hid h
  have HA := Lib.hid hA
  have ht : Tryd.prog.underlying 93 = some (.map 126 3) := by kernel_rfl
  clear hb h hA
  have hbd : ∀ v u a', (Instr.build 126 #[(0, Value.int .u32 v), (1, Value.int .u8 u)]).run Tryd.prog a' = .ok (.agg #[.int .u32 v, .int .u8 u]) a' := fun v u a' => by kernel_rfl
  go_enter Tryd.func62, Tryd.ntmps62
  go_upto_region 1 with fail
  refine at_world' ?_
  intro W hW
  have hF : Frm w W fun _ => False := by rw [hW]; exact ((Frm.refl _ _).alloc _)
  have p0 : W.cell? ⟨w.heap.size, 0, none⟩ = some (.int .u8 15) := by subst hW; go_simp
  have p1 : W.cell? ⟨w.heap.size, 1, none⟩ = some (.int .i64 xa) := by subst hW; go_simp
  have p2 : W.cell? ⟨w.heap.size, 2, none⟩ = some (.int .i64 xo) := by subst hW; go_simp
  have p3 : W.cell? ⟨w.heap.size, 3, none⟩ = some (.int .i64 xt) := by subst hW; go_simp
  have p4 : W.cell? ⟨w.heap.size, 4, none⟩ = some (.bool xfl) := by subst hW; go_simp
  have p5 : W.cell? ⟨w.heap.size, 5, none⟩ = some (.bool xfa) := by subst hW; go_simp
  have p6 : W.cell? ⟨w.heap.size, 6, none⟩ = some (.int .i64 xg) := by subst hW; go_simp
  have hsW : w.heap.size < W.heap.size := by subst hW; simp
  clear hW
  go_upto_region 2 with (go_at_call 44; refine (HA.out _ hF).mono ?_; rintro e w2 ⟨rfl, hf⟩)
  replace hF := hF.then_ hf
  replace p0 := hf.cell p0 id
  replace p1 := hf.cell p1 id
  replace p2 := hf.cell p2 id
  replace p3 := hf.cell p3 id
  replace p4 := hf.cell p4 id
  replace p5 := hf.cell p5 id
  replace p6 := hf.cell p6 id
  replace hG0 := hF.cell hG0 id
  replace hG1 := hF.cell hG1 id
  have HM2 := Lib.hid (HM.out.frm hF id)
  have HF := Lib.hid hF
  have hsz : w.heap.size < w2.heap.size := Nat.lt_of_lt_of_le hsW hf.size
  obtain ⟨q, hq⟩ : ∃ q, w.heap.size = q := ⟨_, rfl⟩
  rw [hq] at p0 p1 p2 p3 p4 p5 p6 hsz hlt ⊢
  have hq2 : q ≠ w2.heap.size := by omega
  have hb2 : (4 : Nat) < w2.heap.size := by omega
  have hb3 : (4 : Nat) ≠ w2.heap.size := by omega
  clear hF hf hq hsW
  go_upto_region 18 with fail
  refine at_world' ?_
  intro V hV
  have hG : Frm w2 V fun _ => False := by
    rw [hV]
    repeat (first | exact Frm.refl _ _ | with_reducible refine Frm.drew ?_ | with_reducible refine Frm.alloc ?_ _ | with_reducible refine Frm.setCell ?_ (fun h => absurd h (Nat.lt_irrefl _)) _)
  have c0 : V.cell? ⟨w2.heap.size, 0, none⟩ = some (.int .u8 9) := by subst hV; go_simp
  have c1 : V.cell? ⟨w2.heap.size, 1, none⟩ = some (.int .u8 6) := by subst hV; go_simp
  have HMV := Lib.hid (HM2.out.frm hG id)
  have HFV := Lib.hid (HF.out.then_ hG)
  replace p0 := hG.cell p0 id
  have hbV : w2.heap.size ≠ b := by omega
  have hbQ : q ≠ b := by omega
  obtain ⟨u, hu⟩ : ∃ u, w2.heap.size = u := ⟨_, rfl⟩
  rw [hu] at c0 c1 hbV ⊢
  have hlk : (Instr.lookup 93 (.map (some b)) (.agg #[.int .u32 a, .int .u8 9]) false).run Tryd.prog V = .ok (.int .i64 (if (a, (9 : Int)) ∈ l then 1 else 0)) V := look77 HMV.out (a, 9)
  clear hV hG hu p1 p2 p3 p4 p5 p6 hG0 hG1 hq2 hb2 hb3 hsz
  rw [if_pos hin] at hlk
  clear hin
  obtain ⟨w4, h4, hM4, hf4⟩ := HMV.out.delete thL2 (ty := 0) (k2 := 126) ht (a, 9)
  rw [mdel_one] at hM4
  have h4 : (Builtin.delete_ #[93, 126] 0 #[.map (some b), .agg #[.int .u32 a, .int .u8 9]]).run Tryd.prog V = .ok (.tuple #[]) w4 := h4
  have d0 := hf4.cell c0 hbV
  have d1 := hf4.cell c1 hbV
  have d2 := hf4.cell p0 hbQ
  obtain ⟨w5, h5, hM5, hf5⟩ := hM4.update thL2 ht (a, 6) (.int .i64 1)
  rw [mset_one] at hM5
  have h5 : (Instr.mapUpdate 93 (.map (some b)) (.agg #[.int .u32 a, .int .u8 6]) (.int .i64 1)).run Tryd.prog w4 = .ok () w5 := h5
  have HM5 := Lib.hid hM5
  have HF5 := Lib.hid (((HFV.out.none_ (fun j => j = b)).then_ hf4).then_ hf5)
  clear hM5 hf5 hM4 hf4
  go_wp2_with fail
  go_ret
  exact ⟨rfl, HM5.out, HF5.out⟩
set_option maxRecDepth 100000 in
set_option maxHeartbeats 2000000 in
theorem nx16_no (b : Nat) (l : List Th) (hb : ∀ k ∈ l, 0 ≤ k.1 ∧ k.1 ≤ 131072) (xa xo xt : Int) (xfl xfa : Bool) (xg : Int) (a o : Int) (w : World) (h : MpS w th2V b (oneV l)) (hs2 : 4 < b) (hG0 : w.cell? ⟨4, 32, none⟩ = some (.int .u8 6)) (hG1 : w.cell? ⟨4, 33, none⟩ = some (.int .u8 3))
    (hA : ∀ v, (Frm w v fun _ => False) → Calls Tryd.prog 44 #[OpR.V ⟨16, xa, xo, xt, xfl, xfa, xg⟩] v fun e w' => e = .returned (.tuple #[.int .u32 a, .int .u32 o]) ∧ Frm v w' fun _ => False) (hin : (a, (6 : Int)) ∉ l) : Nx b ⟨16, xa, xo, xt, xfl, xfa, xg⟩ false (l) w := by
  unfold Nx
  have hlt := h.lt
  have HB := Lib.hid hb
  have HM := Lib.hid h
  have HA := Lib.hid hA
  have ht : Tryd.prog.underlying 93 = some (.map 126 3) := by kernel_rfl
  clear hb h hA
  have hbd : ∀ v u a', (Instr.build 126 #[(0, Value.int .u32 v), (1, Value.int .u8 u)]).run Tryd.prog a' = .ok (.agg #[.int .u32 v, .int .u8 u]) a' := fun v u a' => by kernel_rfl
  go_enter Tryd.func62, Tryd.ntmps62
  go_upto_region 1 with fail
  refine at_world' ?_
  intro W hW
  have hF : Frm w W fun _ => False := by rw [hW]; exact ((Frm.refl _ _).alloc _)
  have p0 : W.cell? ⟨w.heap.size, 0, none⟩ = some (.int .u8 16) := by subst hW; go_simp
  have p1 : W.cell? ⟨w.heap.size, 1, none⟩ = some (.int .i64 xa) := by subst hW; go_simp
  have p2 : W.cell? ⟨w.heap.size, 2, none⟩ = some (.int .i64 xo) := by subst hW; go_simp
  have p3 : W.cell? ⟨w.heap.size, 3, none⟩ = some (.int .i64 xt) := by subst hW; go_simp
  have p4 : W.cell? ⟨w.heap.size, 4, none⟩ = some (.bool xfl) := by subst hW; go_simp
  have p5 : W.cell? ⟨w.heap.size, 5, none⟩ = some (.bool xfa) := by subst hW; go_simp
  have p6 : W.cell? ⟨w.heap.size, 6, none⟩ = some (.int .i64 xg) := by subst hW; go_simp
  have hsW : w.heap.size < W.heap.size := by subst hW; simp
  clear hW
  go_upto_region 2 with (go_at_call 44; refine (HA.out _ hF).mono ?_; rintro e w2 ⟨rfl, hf⟩)
  replace hF := hF.then_ hf
  replace p0 := hf.cell p0 id
  replace p1 := hf.cell p1 id
  replace p2 := hf.cell p2 id
  replace p3 := hf.cell p3 id
  replace p4 := hf.cell p4 id
  replace p5 := hf.cell p5 id
  replace p6 := hf.cell p6 id
  replace hG0 := hF.cell hG0 id
  replace hG1 := hF.cell hG1 id
  have HM2 := Lib.hid (HM.out.frm hF id)
  have HF := Lib.hid hF
  have hsz : w.heap.size < w2.heap.size := Nat.lt_of_lt_of_le hsW hf.size
  obtain ⟨q, hq⟩ : ∃ q, w.heap.size = q := ⟨_, rfl⟩
  rw [hq] at p0 p1 p2 p3 p4 p5 p6 hsz hlt ⊢
  have hq2 : q ≠ w2.heap.size := by omega
  have hb2 : (4 : Nat) < w2.heap.size := by omega
  have hb3 : (4 : Nat) ≠ w2.heap.size := by omega
  clear hF hf hq hsW
  go_upto_region 18 with fail
  refine at_world' ?_
  intro V hV
  have hG : Frm w2 V fun _ => False := by
    rw [hV]
    repeat (first | exact Frm.refl _ _ | with_reducible refine Frm.drew ?_ | with_reducible refine Frm.alloc ?_ _ | with_reducible refine Frm.setCell ?_ (fun h => absurd h (Nat.lt_irrefl _)) _)
  have c0 : V.cell? ⟨w2.heap.size, 0, none⟩ = some (.int .u8 6) := by subst hV; go_simp
  have c1 : V.cell? ⟨w2.heap.size, 1, none⟩ = some (.int .u8 3) := by subst hV; go_simp
  have HMV := Lib.hid (HM2.out.frm hG id)
  have HFV := Lib.hid (HF.out.then_ hG)
  replace p0 := hG.cell p0 id
  have hbV : w2.heap.size ≠ b := by omega
  have hbQ : q ≠ b := by omega
  obtain ⟨u, hu⟩ : ∃ u, w2.heap.size = u := ⟨_, rfl⟩
  rw [hu] at c0 c1 hbV ⊢
  have hlk : (Instr.lookup 93 (.map (some b)) (.agg #[.int .u32 a, .int .u8 6]) false).run Tryd.prog V = .ok (.int .i64 (if (a, (6 : Int)) ∈ l then 1 else 0)) V := look77 HMV.out (a, 6)
  clear hV hG hu p1 p2 p3 p4 p5 p6 hG0 hG1 hq2 hb2 hb3 hsz
  rw [if_neg hin] at hlk
  clear hin
  go_wp2_with fail
  go_ret
  exact ⟨rfl, HMV.out, (HFV.out).none_ _⟩
set_option maxRecDepth 100000 in
set_option maxHeartbeats 2000000 in
theorem nx16_yes (b : Nat) (l : List Th) (hb : ∀ k ∈ l, 0 ≤ k.1 ∧ k.1 ≤ 131072) (xa xo xt : Int) (xfl xfa : Bool) (xg : Int) (a o : Int) (w : World) (h : MpS w th2V b (oneV l)) (hs2 : 4 < b) (hG0 : w.cell? ⟨4, 32, none⟩ = some (.int .u8 6)) (hG1 : w.cell? ⟨4, 33, none⟩ = some (.int .u8 3))
    (hA : ∀ v, (Frm w v fun _ => False) → Calls Tryd.prog 44 #[OpR.V ⟨16, xa, xo, xt, xfl, xfa, xg⟩] v fun e w' => e = .returned (.tuple #[.int .u32 a, .int .u32 o]) ∧ Frm v w' fun _ => False) (hin : (a, (6 : Int)) ∈ l) : Nx b ⟨16, xa, xo, xt, xfl, xfa, xg⟩ true (addK (delK l (a, 6)) (a, 3)) w := by
  unfold Nx
  have hlt := h.lt
  have HB := Lib.hid hb
  have HM := Lib.hid h
  have HA := Lib.hid hA
  have ht : Tryd.prog.underlying 93 = some (.map 126 3) := by kernel_rfl
  clear hb h hA
  have hbd : ∀ v u a', (Instr.build 126 #[(0, Value.int .u32 v), (1, Value.int .u8 u)]).run Tryd.prog a' = .ok (.agg #[.int .u32 v, .int .u8 u]) a' := fun v u a' => by kernel_rfl
  go_enter Tryd.func62, Tryd.ntmps62
  go_upto_region 1 with fail
  refine at_world' ?_
  intro W hW
  have hF : Frm w W fun _ => False := by rw [hW]; exact ((Frm.refl _ _).alloc _)
  have p0 : W.cell? ⟨w.heap.size, 0, none⟩ = some (.int .u8 16) := by subst hW; go_simp
  have p1 : W.cell? ⟨w.heap.size, 1, none⟩ = some (.int .i64 xa) := by subst hW; go_simp
  have p2 : W.cell? ⟨w.heap.size, 2, none⟩ = some (.int .i64 xo) := by subst hW; go_simp
  have p3 : W.cell? ⟨w.heap.size, 3, none⟩ = some (.int .i64 xt) := by subst hW; go_simp
  have p4 : W.cell? ⟨w.heap.size, 4, none⟩ = some (.bool xfl) := by subst hW; go_simp
  have p5 : W.cell? ⟨w.heap.size, 5, none⟩ = some (.bool xfa) := by subst hW; go_simp
  have p6 : W.cell? ⟨w.heap.size, 6, none⟩ = some (.int .i64 xg) := by subst hW; go_simp
  have hsW : w.heap.size < W.heap.size := by subst hW; simp
  clear hW
  go_upto_region 2 with (go_at_call 44; refine (HA.out _ hF).mono ?_; rintro e w2 ⟨rfl, hf⟩)
  replace hF := hF.then_ hf
  replace p0 := hf.cell p0 id
  replace p1 := hf.cell p1 id
  replace p2 := hf.cell p2 id
  replace p3 := hf.cell p3 id
  replace p4 := hf.cell p4 id
  replace p5 := hf.cell p5 id
  replace p6 := hf.cell p6 id
  replace hG0 := hF.cell hG0 id
  replace hG1 := hF.cell hG1 id
  have HM2 := Lib.hid (HM.out.frm hF id)
  have HF := Lib.hid hF
  have hsz : w.heap.size < w2.heap.size := Nat.lt_of_lt_of_le hsW hf.size
  obtain ⟨q, hq⟩ : ∃ q, w.heap.size = q := ⟨_, rfl⟩
  rw [hq] at p0 p1 p2 p3 p4 p5 p6 hsz hlt ⊢
  have hq2 : q ≠ w2.heap.size := by omega
  have hb2 : (4 : Nat) < w2.heap.size := by omega
  have hb3 : (4 : Nat) ≠ w2.heap.size := by omega
  clear hF hf hq hsW
  go_upto_region 18 with fail
  refine at_world' ?_
  intro V hV
  have hG : Frm w2 V fun _ => False := by
    rw [hV]
    repeat (first | exact Frm.refl _ _ | with_reducible refine Frm.drew ?_ | with_reducible refine Frm.alloc ?_ _ | with_reducible refine Frm.setCell ?_ (fun h => absurd h (Nat.lt_irrefl _)) _)
  have c0 : V.cell? ⟨w2.heap.size, 0, none⟩ = some (.int .u8 6) := by subst hV; go_simp
  have c1 : V.cell? ⟨w2.heap.size, 1, none⟩ = some (.int .u8 3) := by subst hV; go_simp
  have HMV := Lib.hid (HM2.out.frm hG id)
  have HFV := Lib.hid (HF.out.then_ hG)
  replace p0 := hG.cell p0 id
  have hbV : w2.heap.size ≠ b := by omega
  have hbQ : q ≠ b := by omega
  obtain ⟨u, hu⟩ : ∃ u, w2.heap.size = u := ⟨_, rfl⟩
  rw [hu] at c0 c1 hbV ⊢
  have hlk : (Instr.lookup 93 (.map (some b)) (.agg #[.int .u32 a, .int .u8 6]) false).run Tryd.prog V = .ok (.int .i64 (if (a, (6 : Int)) ∈ l then 1 else 0)) V := look77 HMV.out (a, 6)
  clear hV hG hu p1 p2 p3 p4 p5 p6 hG0 hG1 hq2 hb2 hb3 hsz
  rw [if_pos hin] at hlk
  clear hin
  obtain ⟨w4, h4, hM4, hf4⟩ := HMV.out.delete thL2 (ty := 0) (k2 := 126) ht (a, 6)
  rw [mdel_one] at hM4
  have h4 : (Builtin.delete_ #[93, 126] 0 #[.map (some b), .agg #[.int .u32 a, .int .u8 6]]).run Tryd.prog V = .ok (.tuple #[]) w4 := h4
  have d0 := hf4.cell c0 hbV
  have d1 := hf4.cell c1 hbV
  have d2 := hf4.cell p0 hbQ
  obtain ⟨w5, h5, hM5, hf5⟩ := hM4.update thL2 ht (a, 3) (.int .i64 1)
  rw [mset_one] at hM5
  have h5 : (Instr.mapUpdate 93 (.map (some b)) (.agg #[.int .u32 a, .int .u8 3]) (.int .i64 1)).run Tryd.prog w4 = .ok () w5 := h5
  have HM5 := Lib.hid hM5
  have HF5 := Lib.hid (((HFV.out.none_ (fun j => j = b)).then_ hf4).then_ hf5)
  clear hM5 hf5 hM4 hf4
  go_wp2_with fail
  go_ret
  exact ⟨rfl, HM5.out, HF5.out⟩
end Go.Proofs.YtmjpaaippilioaaDoor

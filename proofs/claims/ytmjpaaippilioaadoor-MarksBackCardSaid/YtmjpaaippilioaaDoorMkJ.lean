import Derived.Test.YtmjpaaippilioaaDoorMkI
namespace Go.Proofs.YtmjpaaippilioaaDoor
open Go.RowKit

theorem at_world' {P : Program} {c : Code} {Q : Exit → Act → World → Prop} {a : Act} {w : World} (h : ∀ W, W = w → c.wp P Q a W) : c.wp P Q a w := h w rfl
/-- A head that may stand in a word. -/
def okH (h : Int) : Prop := (0 ≤ h ∧ h < 64) ∨ h = -1
theorem putN_eq (l q : Bool) (h : Int) (hh : okH h) : ∃ k : Nat, k ≤ 64 ∧ (k : Int) = h + 1 ∧ putN l q h = (if l then 1 else 0) + (if q then 2 else 0) + 4 * k := by
  rcases hh with hb | rfl
  · refine ⟨h.toNat + 1, by omega, by omega, ?_⟩
    unfold putN
    rw [show thr h = true from by simp [thr, hb]]
    rfl
  · exact ⟨0, by omega, by omega, rfl⟩
theorem put_back (l q : Bool) (h : Int) (hh : okH h) : bt (putN l q h) 0 = l ∧ bt (putN l q h) 1 = q ∧ asH (putN l q h) = h ∧ putN l q h ≤ 259 := by
  obtain ⟨k, hk, he, hp⟩ := putN_eq l q h hh
  rw [hp]
  unfold bt asH
  have h4 : ((if l then 1 else 0) + (if q then 2 else 0) + 4 * k) / 4 = k := by cases l <;> cases q <;> simp <;> omega
  refine ⟨?_, ?_, ?_, ?_⟩
  · cases l <;> cases q <;> simp <;> omega
  · cases l <;> cases q <;> simp <;> omega
  · rw [h4, if_pos hk]; omega
  · cases l <;> cases q <;> simp <;> omega
theorem asH_ok (u : Nat) : okH (asH u) := by
  unfold asH okH
  split
  · rename_i h
    by_cases h0 : u / 4 = 0
    · right; rw [h0]; rfl
    · left; omega
  · exact .inr rfl
theorem put_as : ∀ u : Nat, u < 260 → putN (bt u 0) (bt u 1) (asH u) = u := by decide +kernel
theorem put_inj (l q l' q' : Bool) (h h' : Int) (hh : okH h) (hh' : okH h') : ((putN l q h : Int) == (putN l' q' h' : Int)) = (l == l' && (q == q' && h == h')) := by
  obtain ⟨a1, a2, a3, _⟩ := put_back l q h hh
  obtain ⟨b1, b2, b3, _⟩ := put_back l' q' h' hh'
  by_cases e : putN l q h = putN l' q' h'
  · rw [e] at a1 a2 a3
    rw [e, ← a1, ← a2, ← a3, b1, b2, b3]
    simp
  · have : ((putN l q h : Int) == (putN l' q' h' : Int)) = false := by simp; omega
    rw [this]
    symm
    by_cases e1 : l = l' <;> by_cases e2 : q = q' <;> by_cases e3 : h = h' <;> simp [e1, e2, e3]
    exact e (by rw [e1, e2, e3])
set_option maxRecDepth 100000 in
set_option maxHeartbeats 2000000 in
theorem back_walk (al aq : Bool) (ah : Int) (cl cq : Bool) (ch : Int) (u : Nat) (hu : (u : Int) ≤ 18446744073709551615) (w : World) (hm : Mk w) :
    Calls Tryd.prog 5 #[.agg #[.bool al, .bool aq, .int .i64 ah], .agg #[.bool cl, .bool cq, .int .i64 ch], .int .u64 u] w fun e w' => e = .returned (.bool true) ∧ Frm w w' fun _ => False := by
  have HM := Lib.hid hm
  have hPU : (u : Int) ≤ 259 → putN (bt u 0) (bt u 1) (asH u) = u := fun h => put_as u (by omega)
  obtain ⟨p0, hp0⟩ : ∃ b, bt u 0 = b := ⟨_, rfl⟩
  obtain ⟨p1, hp1⟩ : ∃ b, bt u 1 = b := ⟨_, rfl⟩
  obtain ⟨ph, hph⟩ : ∃ b, asH u = b := ⟨_, rfl⟩
  have hok := asH_ok u
  have hA := fun V => as_any u hu V
  rw [hp0, hp1, hph] at hPU
  rw [hph] at hok
  simp only [hp0, hp1, hph] at hA
  obtain ⟨b1, b2, b3, b4⟩ := put_back p0 p1 ph hok
  obtain ⟨P, hP⟩ : ∃ n, putN p0 p1 ph = n := ⟨_, rfl⟩
  have hPP := fun V => put_any p0 p1 ph V
  rw [hP] at b1 b2 b3 b4 hPU
  simp only [hP] at hPP
  have hAP := fun V => as_any P (by omega) V
  simp only [b1, b2, b3] at hAP
  have HA := Lib.hid hA
  have HPP := Lib.hid hPP
  have HAP := Lib.hid hAP
  have HPU := Lib.hid hPU
  have e1 := eql23
  have e2 := eqg23
  have e3 := neq23
  have n1 : (0 : Int) ≤ (u : Int) := by omega
  clear hm hA hPP hAP hPU hp0 hp1 hph hok b1 b2 b3 b4 hP
  have key : ∀ (na nc : Int), okH na → okH nc → ∃ A C : Nat, (∀ V, Calls Tryd.prog 15 #[.agg #[.bool al, .bool aq, .int .i64 na]] V fun e w' => e = .returned (.int .u64 A) ∧ Frm V w' fun _ => False) ∧
      (∀ V, Calls Tryd.prog 15 #[.agg #[.bool cl, .bool cq, .int .i64 nc]] V fun e w' => e = .returned (.int .u64 C) ∧ Frm V w' fun _ => False) ∧
      (∀ V, Calls Tryd.prog 18 #[.int .u64 A] V fun e w' => e = .returned (.agg #[.bool al, .bool aq, .int .i64 na]) ∧ Frm V w' fun _ => False) ∧ ((A : Int) == (C : Int)) = (al == cl && (aq == cq && na == nc)) := by
    intro na nc h1 h2
    refine ⟨putN al aq na, putN cl cq nc, fun V => put_any al aq na V, fun V => put_any cl cq nc V, fun V => ?_, put_inj al aq cl cq na nc h1 h2⟩
    obtain ⟨a1, a2, a3, a4⟩ := put_back al aq na h1
    have := as_any (putN al aq na) (by omega) V
    rw [a1, a2, a3] at this
    exact this
  have HK := Lib.hid key
  clear key
  rcases (show ah < 0 ∨ (0 ≤ ah ∧ 64 ≤ ah) ∨ (0 ≤ ah ∧ ah < 64) by omega) with a1 | ⟨a0, a1⟩ | ⟨a0, a1⟩ <;> rcases (show ch < 0 ∨ (0 ≤ ch ∧ 64 ≤ ch) ∨ (0 ≤ ch ∧ ch < 64) by omega) with c1 | ⟨c0, c1⟩ | ⟨c0, c1⟩
  · obtain ⟨A, C, k1, k2, k3, k4⟩ := HK.out (-1) (-1) (.inr rfl) (.inr rfl)
    have K1 := Lib.hid k1
    have K2 := Lib.hid k2
    have K3 := Lib.hid k3
    have K4 := Lib.hid k4
    clear k1 k2 k3 k4
    go_enter Tryd.func5, Tryd.ntmps5
    go_wp2_with fail
    refine at_world' ?_
    intro W hW
    have hF : Frm w W fun _ => False := by rw [hW]; exact ((Frm.refl _ _).alloc _).alloc _
    have c3 : W.cell? ⟨w.heap.size, 0, none⟩ = some (.bool al) := by rw [hW, World.cell?_alloc_past _ _ _ (by simp), World.cell?_alloc_new]; rfl
    have c4 : W.cell? ⟨w.heap.size, 1, none⟩ = some (.bool aq) := by rw [hW, World.cell?_alloc_past _ _ _ (by simp), World.cell?_alloc_new]; rfl
    have c5 : W.cell? ⟨w.heap.size, 2, none⟩ = some (.int .i64 (-1)) := by rw [hW, World.cell?_alloc_past _ _ _ (by simp), World.cell?_alloc_new]; rfl
    have d3 : W.cell? ⟨w.heap.size + 1, 0, none⟩ = some (.bool cl) := by
      rw [hW]
      simp
    have d4 : W.cell? ⟨w.heap.size + 1, 1, none⟩ = some (.bool cq) := by
      rw [hW]
      simp
    have d5 : W.cell? ⟨w.heap.size + 1, 2, none⟩ = some (.int .i64 (-1)) := by
      rw [hW]
      simp
    replace c3 := Grown.cell c3
    replace c4 := Grown.cell c4
    replace c5 := Grown.cell c5
    replace d3 := Grown.cell d3
    replace d4 := Grown.cell d4
    replace d5 := Grown.cell d5
    have k4 := K4.out
    obtain ⟨z, hz⟩ : ∃ z, (al == cl && (aq == cq && (-1) == (-1))) = z := ⟨_, rfl⟩
    have e4 := e1 al aq cl cq (-1) (-1)
    rw [hz] at k4 e4
    have HF := Lib.hid hF
    have e5 : ∀ w, (binOp .eql 23 (.agg #[.bool p0, .bool p1, .int .i64 ph]) (.agg #[.bool p0, .bool p1, .int .i64 ph])).run Tryd.prog w = .ok (.bool true) w := fun w => by rw [e1]; simp
    clear hW hz hF e1
    refine wp_region_grown W (Frm.refl _ _) (by kernel_rfl) (by kernel_rfl) ?_
    repeat (go_big_quiet_step (first
      | (go_at_call 15; with_reducible exact Calls.grown_of (K1.out _))
      | (go_at_call 15; with_reducible exact Calls.grown_of (K2.out _))
      | (go_at_call 18; with_reducible exact Calls.grown_of (K3.out _))))
    refine wpQuiet_nil ?_
    intro wq hq
    have F := Lib.hid (HF.out.then_ hq)
    clear hq c3 c4 c5 d3 d4 d5 k4 e4
    by_cases hu2 : (259 : Int) < (u : Int)
    · go_wp2_with (first
        | (go_at_call 15; refine (HPP.out _).mono ?_; rintro e w1 ⟨rfl, hf⟩; replace F := Lib.hid (F.out.then_ hf); clear hf)
        | (go_at_call 18; (with_reducible refine (HA.out _).mono ?_); rintro e w2 ⟨rfl, hf⟩; replace F := Lib.hid (F.out.then_ hf); clear hf)
        | (go_at_call 18; (with_reducible refine (HAP.out _).mono ?_); rintro e w3 ⟨rfl, hf⟩; replace F := Lib.hid (F.out.then_ hf); clear hf)
        | (go_at_call 20; refine (lives_any _ (HM.out.new_ F.out)).mono ?_; rintro e w4 ⟨rfl, hf⟩; replace F := Lib.hid (F.out.then_ hf); clear hf))
      go_ret
      exact ⟨rfl, F.out⟩
    · obtain rfl := HPU.out (by omega)
      have hu3 : (P : Int) ≤ 259 := by omega
      clear hu2
      go_wp2_with (first
        | (go_at_call 15; refine (HPP.out _).mono ?_; rintro e w1 ⟨rfl, hf⟩; replace F := Lib.hid (F.out.then_ hf); clear hf)
        | (go_at_call 18; (with_reducible refine (HAP.out _).mono ?_); rintro e w2 ⟨rfl, hf⟩; replace F := Lib.hid (F.out.then_ hf); clear hf)
        | (go_at_call 20; refine (lives_any _ (HM.out.new_ F.out)).mono ?_; rintro e w4 ⟨rfl, hf⟩; replace F := Lib.hid (F.out.then_ hf); clear hf))
      go_ret
      exact ⟨rfl, F.out⟩
  · obtain ⟨A, C, k1, k2, k3, k4⟩ := HK.out (-1) (-1) (.inr rfl) (.inr rfl)
    have K1 := Lib.hid k1
    have K2 := Lib.hid k2
    have K3 := Lib.hid k3
    have K4 := Lib.hid k4
    clear k1 k2 k3 k4
    go_enter Tryd.func5, Tryd.ntmps5
    go_wp2_with fail
    refine at_world' ?_
    intro W hW
    have hF : Frm w W fun _ => False := by rw [hW]; exact ((Frm.refl _ _).alloc _).alloc _
    have c3 : W.cell? ⟨w.heap.size, 0, none⟩ = some (.bool al) := by rw [hW, World.cell?_alloc_past _ _ _ (by simp), World.cell?_alloc_new]; rfl
    have c4 : W.cell? ⟨w.heap.size, 1, none⟩ = some (.bool aq) := by rw [hW, World.cell?_alloc_past _ _ _ (by simp), World.cell?_alloc_new]; rfl
    have c5 : W.cell? ⟨w.heap.size, 2, none⟩ = some (.int .i64 (-1)) := by rw [hW, World.cell?_alloc_past _ _ _ (by simp), World.cell?_alloc_new]; rfl
    have d3 : W.cell? ⟨w.heap.size + 1, 0, none⟩ = some (.bool cl) := by
      rw [hW]
      simp
    have d4 : W.cell? ⟨w.heap.size + 1, 1, none⟩ = some (.bool cq) := by
      rw [hW]
      simp
    have d5 : W.cell? ⟨w.heap.size + 1, 2, none⟩ = some (.int .i64 (-1)) := by
      rw [hW]
      simp
    replace c3 := Grown.cell c3
    replace c4 := Grown.cell c4
    replace c5 := Grown.cell c5
    replace d3 := Grown.cell d3
    replace d4 := Grown.cell d4
    replace d5 := Grown.cell d5
    have k4 := K4.out
    obtain ⟨z, hz⟩ : ∃ z, (al == cl && (aq == cq && (-1) == (-1))) = z := ⟨_, rfl⟩
    have e4 := e1 al aq cl cq (-1) (-1)
    rw [hz] at k4 e4
    have HF := Lib.hid hF
    have e5 : ∀ w, (binOp .eql 23 (.agg #[.bool p0, .bool p1, .int .i64 ph]) (.agg #[.bool p0, .bool p1, .int .i64 ph])).run Tryd.prog w = .ok (.bool true) w := fun w => by rw [e1]; simp
    clear hW hz hF e1
    refine wp_region_grown W (Frm.refl _ _) (by kernel_rfl) (by kernel_rfl) ?_
    repeat (go_big_quiet_step (first
      | (go_at_call 15; with_reducible exact Calls.grown_of (K1.out _))
      | (go_at_call 15; with_reducible exact Calls.grown_of (K2.out _))
      | (go_at_call 18; with_reducible exact Calls.grown_of (K3.out _))))
    refine wpQuiet_nil ?_
    intro wq hq
    have F := Lib.hid (HF.out.then_ hq)
    clear hq c3 c4 c5 d3 d4 d5 k4 e4
    by_cases hu2 : (259 : Int) < (u : Int)
    · go_wp2_with (first
        | (go_at_call 15; refine (HPP.out _).mono ?_; rintro e w1 ⟨rfl, hf⟩; replace F := Lib.hid (F.out.then_ hf); clear hf)
        | (go_at_call 18; (with_reducible refine (HA.out _).mono ?_); rintro e w2 ⟨rfl, hf⟩; replace F := Lib.hid (F.out.then_ hf); clear hf)
        | (go_at_call 18; (with_reducible refine (HAP.out _).mono ?_); rintro e w3 ⟨rfl, hf⟩; replace F := Lib.hid (F.out.then_ hf); clear hf)
        | (go_at_call 20; refine (lives_any _ (HM.out.new_ F.out)).mono ?_; rintro e w4 ⟨rfl, hf⟩; replace F := Lib.hid (F.out.then_ hf); clear hf))
      go_ret
      exact ⟨rfl, F.out⟩
    · obtain rfl := HPU.out (by omega)
      have hu3 : (P : Int) ≤ 259 := by omega
      clear hu2
      go_wp2_with (first
        | (go_at_call 15; refine (HPP.out _).mono ?_; rintro e w1 ⟨rfl, hf⟩; replace F := Lib.hid (F.out.then_ hf); clear hf)
        | (go_at_call 18; (with_reducible refine (HAP.out _).mono ?_); rintro e w2 ⟨rfl, hf⟩; replace F := Lib.hid (F.out.then_ hf); clear hf)
        | (go_at_call 20; refine (lives_any _ (HM.out.new_ F.out)).mono ?_; rintro e w4 ⟨rfl, hf⟩; replace F := Lib.hid (F.out.then_ hf); clear hf))
      go_ret
      exact ⟨rfl, F.out⟩
  · obtain ⟨A, C, k1, k2, k3, k4⟩ := HK.out (-1) ch (.inr rfl) (.inl ⟨c0, c1⟩)
    have K1 := Lib.hid k1
    have K2 := Lib.hid k2
    have K3 := Lib.hid k3
    have K4 := Lib.hid k4
    clear k1 k2 k3 k4
    go_enter Tryd.func5, Tryd.ntmps5
    go_wp2_with fail
    refine at_world' ?_
    intro W hW
    have hF : Frm w W fun _ => False := by rw [hW]; exact ((Frm.refl _ _).alloc _).alloc _
    have c3 : W.cell? ⟨w.heap.size, 0, none⟩ = some (.bool al) := by rw [hW, World.cell?_alloc_past _ _ _ (by simp), World.cell?_alloc_new]; rfl
    have c4 : W.cell? ⟨w.heap.size, 1, none⟩ = some (.bool aq) := by rw [hW, World.cell?_alloc_past _ _ _ (by simp), World.cell?_alloc_new]; rfl
    have c5 : W.cell? ⟨w.heap.size, 2, none⟩ = some (.int .i64 (-1)) := by rw [hW, World.cell?_alloc_past _ _ _ (by simp), World.cell?_alloc_new]; rfl
    have d3 : W.cell? ⟨w.heap.size + 1, 0, none⟩ = some (.bool cl) := by
      rw [hW]
      simp
    have d4 : W.cell? ⟨w.heap.size + 1, 1, none⟩ = some (.bool cq) := by
      rw [hW]
      simp
    have d5 : W.cell? ⟨w.heap.size + 1, 2, none⟩ = some (.int .i64 ch) := by
      rw [hW]
      simp
    replace c3 := Grown.cell c3
    replace c4 := Grown.cell c4
    replace c5 := Grown.cell c5
    replace d3 := Grown.cell d3
    replace d4 := Grown.cell d4
    replace d5 := Grown.cell d5
    have k4 := K4.out
    obtain ⟨z, hz⟩ : ∃ z, (al == cl && (aq == cq && (-1) == ch)) = z := ⟨_, rfl⟩
    have e4 := e1 al aq cl cq (-1) ch
    rw [hz] at k4 e4
    have HF := Lib.hid hF
    have e5 : ∀ w, (binOp .eql 23 (.agg #[.bool p0, .bool p1, .int .i64 ph]) (.agg #[.bool p0, .bool p1, .int .i64 ph])).run Tryd.prog w = .ok (.bool true) w := fun w => by rw [e1]; simp
    clear hW hz hF e1
    refine wp_region_grown W (Frm.refl _ _) (by kernel_rfl) (by kernel_rfl) ?_
    repeat (go_big_quiet_step (first
      | (go_at_call 15; with_reducible exact Calls.grown_of (K1.out _))
      | (go_at_call 15; with_reducible exact Calls.grown_of (K2.out _))
      | (go_at_call 18; with_reducible exact Calls.grown_of (K3.out _))))
    refine wpQuiet_nil ?_
    intro wq hq
    have F := Lib.hid (HF.out.then_ hq)
    clear hq c3 c4 c5 d3 d4 d5 k4 e4
    by_cases hu2 : (259 : Int) < (u : Int)
    · go_wp2_with (first
        | (go_at_call 15; refine (HPP.out _).mono ?_; rintro e w1 ⟨rfl, hf⟩; replace F := Lib.hid (F.out.then_ hf); clear hf)
        | (go_at_call 18; (with_reducible refine (HA.out _).mono ?_); rintro e w2 ⟨rfl, hf⟩; replace F := Lib.hid (F.out.then_ hf); clear hf)
        | (go_at_call 18; (with_reducible refine (HAP.out _).mono ?_); rintro e w3 ⟨rfl, hf⟩; replace F := Lib.hid (F.out.then_ hf); clear hf)
        | (go_at_call 20; refine (lives_any _ (HM.out.new_ F.out)).mono ?_; rintro e w4 ⟨rfl, hf⟩; replace F := Lib.hid (F.out.then_ hf); clear hf))
      go_ret
      exact ⟨rfl, F.out⟩
    · obtain rfl := HPU.out (by omega)
      have hu3 : (P : Int) ≤ 259 := by omega
      clear hu2
      go_wp2_with (first
        | (go_at_call 15; refine (HPP.out _).mono ?_; rintro e w1 ⟨rfl, hf⟩; replace F := Lib.hid (F.out.then_ hf); clear hf)
        | (go_at_call 18; (with_reducible refine (HAP.out _).mono ?_); rintro e w2 ⟨rfl, hf⟩; replace F := Lib.hid (F.out.then_ hf); clear hf)
        | (go_at_call 20; refine (lives_any _ (HM.out.new_ F.out)).mono ?_; rintro e w4 ⟨rfl, hf⟩; replace F := Lib.hid (F.out.then_ hf); clear hf))
      go_ret
      exact ⟨rfl, F.out⟩
  · obtain ⟨A, C, k1, k2, k3, k4⟩ := HK.out (-1) (-1) (.inr rfl) (.inr rfl)
    have K1 := Lib.hid k1
    have K2 := Lib.hid k2
    have K3 := Lib.hid k3
    have K4 := Lib.hid k4
    clear k1 k2 k3 k4
    go_enter Tryd.func5, Tryd.ntmps5
    go_wp2_with fail
    refine at_world' ?_
    intro W hW
    have hF : Frm w W fun _ => False := by rw [hW]; exact ((Frm.refl _ _).alloc _).alloc _
    have c3 : W.cell? ⟨w.heap.size, 0, none⟩ = some (.bool al) := by rw [hW, World.cell?_alloc_past _ _ _ (by simp), World.cell?_alloc_new]; rfl
    have c4 : W.cell? ⟨w.heap.size, 1, none⟩ = some (.bool aq) := by rw [hW, World.cell?_alloc_past _ _ _ (by simp), World.cell?_alloc_new]; rfl
    have c5 : W.cell? ⟨w.heap.size, 2, none⟩ = some (.int .i64 (-1)) := by rw [hW, World.cell?_alloc_past _ _ _ (by simp), World.cell?_alloc_new]; rfl
    have d3 : W.cell? ⟨w.heap.size + 1, 0, none⟩ = some (.bool cl) := by
      rw [hW]
      simp
    have d4 : W.cell? ⟨w.heap.size + 1, 1, none⟩ = some (.bool cq) := by
      rw [hW]
      simp
    have d5 : W.cell? ⟨w.heap.size + 1, 2, none⟩ = some (.int .i64 (-1)) := by
      rw [hW]
      simp
    replace c3 := Grown.cell c3
    replace c4 := Grown.cell c4
    replace c5 := Grown.cell c5
    replace d3 := Grown.cell d3
    replace d4 := Grown.cell d4
    replace d5 := Grown.cell d5
    have k4 := K4.out
    obtain ⟨z, hz⟩ : ∃ z, (al == cl && (aq == cq && (-1) == (-1))) = z := ⟨_, rfl⟩
    have e4 := e1 al aq cl cq (-1) (-1)
    rw [hz] at k4 e4
    have HF := Lib.hid hF
    have e5 : ∀ w, (binOp .eql 23 (.agg #[.bool p0, .bool p1, .int .i64 ph]) (.agg #[.bool p0, .bool p1, .int .i64 ph])).run Tryd.prog w = .ok (.bool true) w := fun w => by rw [e1]; simp
    clear hW hz hF e1
    refine wp_region_grown W (Frm.refl _ _) (by kernel_rfl) (by kernel_rfl) ?_
    repeat (go_big_quiet_step (first
      | (go_at_call 15; with_reducible exact Calls.grown_of (K1.out _))
      | (go_at_call 15; with_reducible exact Calls.grown_of (K2.out _))
      | (go_at_call 18; with_reducible exact Calls.grown_of (K3.out _))))
    refine wpQuiet_nil ?_
    intro wq hq
    have F := Lib.hid (HF.out.then_ hq)
    clear hq c3 c4 c5 d3 d4 d5 k4 e4
    by_cases hu2 : (259 : Int) < (u : Int)
    · go_wp2_with (first
        | (go_at_call 15; refine (HPP.out _).mono ?_; rintro e w1 ⟨rfl, hf⟩; replace F := Lib.hid (F.out.then_ hf); clear hf)
        | (go_at_call 18; (with_reducible refine (HA.out _).mono ?_); rintro e w2 ⟨rfl, hf⟩; replace F := Lib.hid (F.out.then_ hf); clear hf)
        | (go_at_call 18; (with_reducible refine (HAP.out _).mono ?_); rintro e w3 ⟨rfl, hf⟩; replace F := Lib.hid (F.out.then_ hf); clear hf)
        | (go_at_call 20; refine (lives_any _ (HM.out.new_ F.out)).mono ?_; rintro e w4 ⟨rfl, hf⟩; replace F := Lib.hid (F.out.then_ hf); clear hf))
      go_ret
      exact ⟨rfl, F.out⟩
    · obtain rfl := HPU.out (by omega)
      have hu3 : (P : Int) ≤ 259 := by omega
      clear hu2
      go_wp2_with (first
        | (go_at_call 15; refine (HPP.out _).mono ?_; rintro e w1 ⟨rfl, hf⟩; replace F := Lib.hid (F.out.then_ hf); clear hf)
        | (go_at_call 18; (with_reducible refine (HAP.out _).mono ?_); rintro e w2 ⟨rfl, hf⟩; replace F := Lib.hid (F.out.then_ hf); clear hf)
        | (go_at_call 20; refine (lives_any _ (HM.out.new_ F.out)).mono ?_; rintro e w4 ⟨rfl, hf⟩; replace F := Lib.hid (F.out.then_ hf); clear hf))
      go_ret
      exact ⟨rfl, F.out⟩
  · obtain ⟨A, C, k1, k2, k3, k4⟩ := HK.out (-1) (-1) (.inr rfl) (.inr rfl)
    have K1 := Lib.hid k1
    have K2 := Lib.hid k2
    have K3 := Lib.hid k3
    have K4 := Lib.hid k4
    clear k1 k2 k3 k4
    go_enter Tryd.func5, Tryd.ntmps5
    go_wp2_with fail
    refine at_world' ?_
    intro W hW
    have hF : Frm w W fun _ => False := by rw [hW]; exact ((Frm.refl _ _).alloc _).alloc _
    have c3 : W.cell? ⟨w.heap.size, 0, none⟩ = some (.bool al) := by rw [hW, World.cell?_alloc_past _ _ _ (by simp), World.cell?_alloc_new]; rfl
    have c4 : W.cell? ⟨w.heap.size, 1, none⟩ = some (.bool aq) := by rw [hW, World.cell?_alloc_past _ _ _ (by simp), World.cell?_alloc_new]; rfl
    have c5 : W.cell? ⟨w.heap.size, 2, none⟩ = some (.int .i64 (-1)) := by rw [hW, World.cell?_alloc_past _ _ _ (by simp), World.cell?_alloc_new]; rfl
    have d3 : W.cell? ⟨w.heap.size + 1, 0, none⟩ = some (.bool cl) := by
      rw [hW]
      simp
    have d4 : W.cell? ⟨w.heap.size + 1, 1, none⟩ = some (.bool cq) := by
      rw [hW]
      simp
    have d5 : W.cell? ⟨w.heap.size + 1, 2, none⟩ = some (.int .i64 (-1)) := by
      rw [hW]
      simp
    replace c3 := Grown.cell c3
    replace c4 := Grown.cell c4
    replace c5 := Grown.cell c5
    replace d3 := Grown.cell d3
    replace d4 := Grown.cell d4
    replace d5 := Grown.cell d5
    have k4 := K4.out
    obtain ⟨z, hz⟩ : ∃ z, (al == cl && (aq == cq && (-1) == (-1))) = z := ⟨_, rfl⟩
    have e4 := e1 al aq cl cq (-1) (-1)
    rw [hz] at k4 e4
    have HF := Lib.hid hF
    have e5 : ∀ w, (binOp .eql 23 (.agg #[.bool p0, .bool p1, .int .i64 ph]) (.agg #[.bool p0, .bool p1, .int .i64 ph])).run Tryd.prog w = .ok (.bool true) w := fun w => by rw [e1]; simp
    clear hW hz hF e1
    refine wp_region_grown W (Frm.refl _ _) (by kernel_rfl) (by kernel_rfl) ?_
    repeat (go_big_quiet_step (first
      | (go_at_call 15; with_reducible exact Calls.grown_of (K1.out _))
      | (go_at_call 15; with_reducible exact Calls.grown_of (K2.out _))
      | (go_at_call 18; with_reducible exact Calls.grown_of (K3.out _))))
    refine wpQuiet_nil ?_
    intro wq hq
    have F := Lib.hid (HF.out.then_ hq)
    clear hq c3 c4 c5 d3 d4 d5 k4 e4
    by_cases hu2 : (259 : Int) < (u : Int)
    · go_wp2_with (first
        | (go_at_call 15; refine (HPP.out _).mono ?_; rintro e w1 ⟨rfl, hf⟩; replace F := Lib.hid (F.out.then_ hf); clear hf)
        | (go_at_call 18; (with_reducible refine (HA.out _).mono ?_); rintro e w2 ⟨rfl, hf⟩; replace F := Lib.hid (F.out.then_ hf); clear hf)
        | (go_at_call 18; (with_reducible refine (HAP.out _).mono ?_); rintro e w3 ⟨rfl, hf⟩; replace F := Lib.hid (F.out.then_ hf); clear hf)
        | (go_at_call 20; refine (lives_any _ (HM.out.new_ F.out)).mono ?_; rintro e w4 ⟨rfl, hf⟩; replace F := Lib.hid (F.out.then_ hf); clear hf))
      go_ret
      exact ⟨rfl, F.out⟩
    · obtain rfl := HPU.out (by omega)
      have hu3 : (P : Int) ≤ 259 := by omega
      clear hu2
      go_wp2_with (first
        | (go_at_call 15; refine (HPP.out _).mono ?_; rintro e w1 ⟨rfl, hf⟩; replace F := Lib.hid (F.out.then_ hf); clear hf)
        | (go_at_call 18; (with_reducible refine (HAP.out _).mono ?_); rintro e w2 ⟨rfl, hf⟩; replace F := Lib.hid (F.out.then_ hf); clear hf)
        | (go_at_call 20; refine (lives_any _ (HM.out.new_ F.out)).mono ?_; rintro e w4 ⟨rfl, hf⟩; replace F := Lib.hid (F.out.then_ hf); clear hf))
      go_ret
      exact ⟨rfl, F.out⟩
  · obtain ⟨A, C, k1, k2, k3, k4⟩ := HK.out (-1) ch (.inr rfl) (.inl ⟨c0, c1⟩)
    have K1 := Lib.hid k1
    have K2 := Lib.hid k2
    have K3 := Lib.hid k3
    have K4 := Lib.hid k4
    clear k1 k2 k3 k4
    go_enter Tryd.func5, Tryd.ntmps5
    go_wp2_with fail
    refine at_world' ?_
    intro W hW
    have hF : Frm w W fun _ => False := by rw [hW]; exact ((Frm.refl _ _).alloc _).alloc _
    have c3 : W.cell? ⟨w.heap.size, 0, none⟩ = some (.bool al) := by rw [hW, World.cell?_alloc_past _ _ _ (by simp), World.cell?_alloc_new]; rfl
    have c4 : W.cell? ⟨w.heap.size, 1, none⟩ = some (.bool aq) := by rw [hW, World.cell?_alloc_past _ _ _ (by simp), World.cell?_alloc_new]; rfl
    have c5 : W.cell? ⟨w.heap.size, 2, none⟩ = some (.int .i64 (-1)) := by rw [hW, World.cell?_alloc_past _ _ _ (by simp), World.cell?_alloc_new]; rfl
    have d3 : W.cell? ⟨w.heap.size + 1, 0, none⟩ = some (.bool cl) := by
      rw [hW]
      simp
    have d4 : W.cell? ⟨w.heap.size + 1, 1, none⟩ = some (.bool cq) := by
      rw [hW]
      simp
    have d5 : W.cell? ⟨w.heap.size + 1, 2, none⟩ = some (.int .i64 ch) := by
      rw [hW]
      simp
    replace c3 := Grown.cell c3
    replace c4 := Grown.cell c4
    replace c5 := Grown.cell c5
    replace d3 := Grown.cell d3
    replace d4 := Grown.cell d4
    replace d5 := Grown.cell d5
    have k4 := K4.out
    obtain ⟨z, hz⟩ : ∃ z, (al == cl && (aq == cq && (-1) == ch)) = z := ⟨_, rfl⟩
    have e4 := e1 al aq cl cq (-1) ch
    rw [hz] at k4 e4
    have HF := Lib.hid hF
    have e5 : ∀ w, (binOp .eql 23 (.agg #[.bool p0, .bool p1, .int .i64 ph]) (.agg #[.bool p0, .bool p1, .int .i64 ph])).run Tryd.prog w = .ok (.bool true) w := fun w => by rw [e1]; simp
    clear hW hz hF e1
    refine wp_region_grown W (Frm.refl _ _) (by kernel_rfl) (by kernel_rfl) ?_
    repeat (go_big_quiet_step (first
      | (go_at_call 15; with_reducible exact Calls.grown_of (K1.out _))
      | (go_at_call 15; with_reducible exact Calls.grown_of (K2.out _))
      | (go_at_call 18; with_reducible exact Calls.grown_of (K3.out _))))
    refine wpQuiet_nil ?_
    intro wq hq
    have F := Lib.hid (HF.out.then_ hq)
    clear hq c3 c4 c5 d3 d4 d5 k4 e4
    by_cases hu2 : (259 : Int) < (u : Int)
    · go_wp2_with (first
        | (go_at_call 15; refine (HPP.out _).mono ?_; rintro e w1 ⟨rfl, hf⟩; replace F := Lib.hid (F.out.then_ hf); clear hf)
        | (go_at_call 18; (with_reducible refine (HA.out _).mono ?_); rintro e w2 ⟨rfl, hf⟩; replace F := Lib.hid (F.out.then_ hf); clear hf)
        | (go_at_call 18; (with_reducible refine (HAP.out _).mono ?_); rintro e w3 ⟨rfl, hf⟩; replace F := Lib.hid (F.out.then_ hf); clear hf)
        | (go_at_call 20; refine (lives_any _ (HM.out.new_ F.out)).mono ?_; rintro e w4 ⟨rfl, hf⟩; replace F := Lib.hid (F.out.then_ hf); clear hf))
      go_ret
      exact ⟨rfl, F.out⟩
    · obtain rfl := HPU.out (by omega)
      have hu3 : (P : Int) ≤ 259 := by omega
      clear hu2
      go_wp2_with (first
        | (go_at_call 15; refine (HPP.out _).mono ?_; rintro e w1 ⟨rfl, hf⟩; replace F := Lib.hid (F.out.then_ hf); clear hf)
        | (go_at_call 18; (with_reducible refine (HAP.out _).mono ?_); rintro e w2 ⟨rfl, hf⟩; replace F := Lib.hid (F.out.then_ hf); clear hf)
        | (go_at_call 20; refine (lives_any _ (HM.out.new_ F.out)).mono ?_; rintro e w4 ⟨rfl, hf⟩; replace F := Lib.hid (F.out.then_ hf); clear hf))
      go_ret
      exact ⟨rfl, F.out⟩
  · obtain ⟨A, C, k1, k2, k3, k4⟩ := HK.out ah (-1) (.inl ⟨a0, a1⟩) (.inr rfl)
    have K1 := Lib.hid k1
    have K2 := Lib.hid k2
    have K3 := Lib.hid k3
    have K4 := Lib.hid k4
    clear k1 k2 k3 k4
    go_enter Tryd.func5, Tryd.ntmps5
    go_wp2_with fail
    refine at_world' ?_
    intro W hW
    have hF : Frm w W fun _ => False := by rw [hW]; exact ((Frm.refl _ _).alloc _).alloc _
    have c3 : W.cell? ⟨w.heap.size, 0, none⟩ = some (.bool al) := by rw [hW, World.cell?_alloc_past _ _ _ (by simp), World.cell?_alloc_new]; rfl
    have c4 : W.cell? ⟨w.heap.size, 1, none⟩ = some (.bool aq) := by rw [hW, World.cell?_alloc_past _ _ _ (by simp), World.cell?_alloc_new]; rfl
    have c5 : W.cell? ⟨w.heap.size, 2, none⟩ = some (.int .i64 ah) := by rw [hW, World.cell?_alloc_past _ _ _ (by simp), World.cell?_alloc_new]; rfl
    have d3 : W.cell? ⟨w.heap.size + 1, 0, none⟩ = some (.bool cl) := by
      rw [hW]
      simp
    have d4 : W.cell? ⟨w.heap.size + 1, 1, none⟩ = some (.bool cq) := by
      rw [hW]
      simp
    have d5 : W.cell? ⟨w.heap.size + 1, 2, none⟩ = some (.int .i64 (-1)) := by
      rw [hW]
      simp
    replace c3 := Grown.cell c3
    replace c4 := Grown.cell c4
    replace c5 := Grown.cell c5
    replace d3 := Grown.cell d3
    replace d4 := Grown.cell d4
    replace d5 := Grown.cell d5
    have k4 := K4.out
    obtain ⟨z, hz⟩ : ∃ z, (al == cl && (aq == cq && ah == (-1))) = z := ⟨_, rfl⟩
    have e4 := e1 al aq cl cq ah (-1)
    rw [hz] at k4 e4
    have HF := Lib.hid hF
    have e5 : ∀ w, (binOp .eql 23 (.agg #[.bool p0, .bool p1, .int .i64 ph]) (.agg #[.bool p0, .bool p1, .int .i64 ph])).run Tryd.prog w = .ok (.bool true) w := fun w => by rw [e1]; simp
    clear hW hz hF e1
    refine wp_region_grown W (Frm.refl _ _) (by kernel_rfl) (by kernel_rfl) ?_
    repeat (go_big_quiet_step (first
      | (go_at_call 15; with_reducible exact Calls.grown_of (K1.out _))
      | (go_at_call 15; with_reducible exact Calls.grown_of (K2.out _))
      | (go_at_call 18; with_reducible exact Calls.grown_of (K3.out _))))
    refine wpQuiet_nil ?_
    intro wq hq
    have F := Lib.hid (HF.out.then_ hq)
    clear hq c3 c4 c5 d3 d4 d5 k4 e4
    by_cases hu2 : (259 : Int) < (u : Int)
    · go_wp2_with (first
        | (go_at_call 15; refine (HPP.out _).mono ?_; rintro e w1 ⟨rfl, hf⟩; replace F := Lib.hid (F.out.then_ hf); clear hf)
        | (go_at_call 18; (with_reducible refine (HA.out _).mono ?_); rintro e w2 ⟨rfl, hf⟩; replace F := Lib.hid (F.out.then_ hf); clear hf)
        | (go_at_call 18; (with_reducible refine (HAP.out _).mono ?_); rintro e w3 ⟨rfl, hf⟩; replace F := Lib.hid (F.out.then_ hf); clear hf)
        | (go_at_call 20; refine (lives_any _ (HM.out.new_ F.out)).mono ?_; rintro e w4 ⟨rfl, hf⟩; replace F := Lib.hid (F.out.then_ hf); clear hf))
      go_ret
      exact ⟨rfl, F.out⟩
    · obtain rfl := HPU.out (by omega)
      have hu3 : (P : Int) ≤ 259 := by omega
      clear hu2
      go_wp2_with (first
        | (go_at_call 15; refine (HPP.out _).mono ?_; rintro e w1 ⟨rfl, hf⟩; replace F := Lib.hid (F.out.then_ hf); clear hf)
        | (go_at_call 18; (with_reducible refine (HAP.out _).mono ?_); rintro e w2 ⟨rfl, hf⟩; replace F := Lib.hid (F.out.then_ hf); clear hf)
        | (go_at_call 20; refine (lives_any _ (HM.out.new_ F.out)).mono ?_; rintro e w4 ⟨rfl, hf⟩; replace F := Lib.hid (F.out.then_ hf); clear hf))
      go_ret
      exact ⟨rfl, F.out⟩
  · obtain ⟨A, C, k1, k2, k3, k4⟩ := HK.out ah (-1) (.inl ⟨a0, a1⟩) (.inr rfl)
    have K1 := Lib.hid k1
    have K2 := Lib.hid k2
    have K3 := Lib.hid k3
    have K4 := Lib.hid k4
    clear k1 k2 k3 k4
    go_enter Tryd.func5, Tryd.ntmps5
    go_wp2_with fail
    refine at_world' ?_
    intro W hW
    have hF : Frm w W fun _ => False := by rw [hW]; exact ((Frm.refl _ _).alloc _).alloc _
    have c3 : W.cell? ⟨w.heap.size, 0, none⟩ = some (.bool al) := by rw [hW, World.cell?_alloc_past _ _ _ (by simp), World.cell?_alloc_new]; rfl
    have c4 : W.cell? ⟨w.heap.size, 1, none⟩ = some (.bool aq) := by rw [hW, World.cell?_alloc_past _ _ _ (by simp), World.cell?_alloc_new]; rfl
    have c5 : W.cell? ⟨w.heap.size, 2, none⟩ = some (.int .i64 ah) := by rw [hW, World.cell?_alloc_past _ _ _ (by simp), World.cell?_alloc_new]; rfl
    have d3 : W.cell? ⟨w.heap.size + 1, 0, none⟩ = some (.bool cl) := by
      rw [hW]
      simp
    have d4 : W.cell? ⟨w.heap.size + 1, 1, none⟩ = some (.bool cq) := by
      rw [hW]
      simp
    have d5 : W.cell? ⟨w.heap.size + 1, 2, none⟩ = some (.int .i64 (-1)) := by
      rw [hW]
      simp
    replace c3 := Grown.cell c3
    replace c4 := Grown.cell c4
    replace c5 := Grown.cell c5
    replace d3 := Grown.cell d3
    replace d4 := Grown.cell d4
    replace d5 := Grown.cell d5
    have k4 := K4.out
    obtain ⟨z, hz⟩ : ∃ z, (al == cl && (aq == cq && ah == (-1))) = z := ⟨_, rfl⟩
    have e4 := e1 al aq cl cq ah (-1)
    rw [hz] at k4 e4
    have HF := Lib.hid hF
    have e5 : ∀ w, (binOp .eql 23 (.agg #[.bool p0, .bool p1, .int .i64 ph]) (.agg #[.bool p0, .bool p1, .int .i64 ph])).run Tryd.prog w = .ok (.bool true) w := fun w => by rw [e1]; simp
    clear hW hz hF e1
    refine wp_region_grown W (Frm.refl _ _) (by kernel_rfl) (by kernel_rfl) ?_
    repeat (go_big_quiet_step (first
      | (go_at_call 15; with_reducible exact Calls.grown_of (K1.out _))
      | (go_at_call 15; with_reducible exact Calls.grown_of (K2.out _))
      | (go_at_call 18; with_reducible exact Calls.grown_of (K3.out _))))
    refine wpQuiet_nil ?_
    intro wq hq
    have F := Lib.hid (HF.out.then_ hq)
    clear hq c3 c4 c5 d3 d4 d5 k4 e4
    by_cases hu2 : (259 : Int) < (u : Int)
    · go_wp2_with (first
        | (go_at_call 15; refine (HPP.out _).mono ?_; rintro e w1 ⟨rfl, hf⟩; replace F := Lib.hid (F.out.then_ hf); clear hf)
        | (go_at_call 18; (with_reducible refine (HA.out _).mono ?_); rintro e w2 ⟨rfl, hf⟩; replace F := Lib.hid (F.out.then_ hf); clear hf)
        | (go_at_call 18; (with_reducible refine (HAP.out _).mono ?_); rintro e w3 ⟨rfl, hf⟩; replace F := Lib.hid (F.out.then_ hf); clear hf)
        | (go_at_call 20; refine (lives_any _ (HM.out.new_ F.out)).mono ?_; rintro e w4 ⟨rfl, hf⟩; replace F := Lib.hid (F.out.then_ hf); clear hf))
      go_ret
      exact ⟨rfl, F.out⟩
    · obtain rfl := HPU.out (by omega)
      have hu3 : (P : Int) ≤ 259 := by omega
      clear hu2
      go_wp2_with (first
        | (go_at_call 15; refine (HPP.out _).mono ?_; rintro e w1 ⟨rfl, hf⟩; replace F := Lib.hid (F.out.then_ hf); clear hf)
        | (go_at_call 18; (with_reducible refine (HAP.out _).mono ?_); rintro e w2 ⟨rfl, hf⟩; replace F := Lib.hid (F.out.then_ hf); clear hf)
        | (go_at_call 20; refine (lives_any _ (HM.out.new_ F.out)).mono ?_; rintro e w4 ⟨rfl, hf⟩; replace F := Lib.hid (F.out.then_ hf); clear hf))
      go_ret
      exact ⟨rfl, F.out⟩
  · obtain ⟨A, C, k1, k2, k3, k4⟩ := HK.out ah ch (.inl ⟨a0, a1⟩) (.inl ⟨c0, c1⟩)
    have K1 := Lib.hid k1
    have K2 := Lib.hid k2
    have K3 := Lib.hid k3
    have K4 := Lib.hid k4
    clear k1 k2 k3 k4
    go_enter Tryd.func5, Tryd.ntmps5
    go_wp2_with fail
    refine at_world' ?_
    intro W hW
    have hF : Frm w W fun _ => False := by rw [hW]; exact ((Frm.refl _ _).alloc _).alloc _
    have c3 : W.cell? ⟨w.heap.size, 0, none⟩ = some (.bool al) := by rw [hW, World.cell?_alloc_past _ _ _ (by simp), World.cell?_alloc_new]; rfl
    have c4 : W.cell? ⟨w.heap.size, 1, none⟩ = some (.bool aq) := by rw [hW, World.cell?_alloc_past _ _ _ (by simp), World.cell?_alloc_new]; rfl
    have c5 : W.cell? ⟨w.heap.size, 2, none⟩ = some (.int .i64 ah) := by rw [hW, World.cell?_alloc_past _ _ _ (by simp), World.cell?_alloc_new]; rfl
    have d3 : W.cell? ⟨w.heap.size + 1, 0, none⟩ = some (.bool cl) := by
      rw [hW]
      simp
    have d4 : W.cell? ⟨w.heap.size + 1, 1, none⟩ = some (.bool cq) := by
      rw [hW]
      simp
    have d5 : W.cell? ⟨w.heap.size + 1, 2, none⟩ = some (.int .i64 ch) := by
      rw [hW]
      simp
    replace c3 := Grown.cell c3
    replace c4 := Grown.cell c4
    replace c5 := Grown.cell c5
    replace d3 := Grown.cell d3
    replace d4 := Grown.cell d4
    replace d5 := Grown.cell d5
    have k4 := K4.out
    obtain ⟨z, hz⟩ : ∃ z, (al == cl && (aq == cq && ah == ch)) = z := ⟨_, rfl⟩
    have e4 := e1 al aq cl cq ah ch
    rw [hz] at k4 e4
    have HF := Lib.hid hF
    have e5 : ∀ w, (binOp .eql 23 (.agg #[.bool p0, .bool p1, .int .i64 ph]) (.agg #[.bool p0, .bool p1, .int .i64 ph])).run Tryd.prog w = .ok (.bool true) w := fun w => by rw [e1]; simp
    clear hW hz hF e1
    refine wp_region_grown W (Frm.refl _ _) (by kernel_rfl) (by kernel_rfl) ?_
    repeat (go_big_quiet_step (first
      | (go_at_call 15; with_reducible exact Calls.grown_of (K1.out _))
      | (go_at_call 15; with_reducible exact Calls.grown_of (K2.out _))
      | (go_at_call 18; with_reducible exact Calls.grown_of (K3.out _))))
    refine wpQuiet_nil ?_
    intro wq hq
    have F := Lib.hid (HF.out.then_ hq)
    clear hq c3 c4 c5 d3 d4 d5 k4 e4
    by_cases hu2 : (259 : Int) < (u : Int)
    · go_wp2_with (first
        | (go_at_call 15; refine (HPP.out _).mono ?_; rintro e w1 ⟨rfl, hf⟩; replace F := Lib.hid (F.out.then_ hf); clear hf)
        | (go_at_call 18; (with_reducible refine (HA.out _).mono ?_); rintro e w2 ⟨rfl, hf⟩; replace F := Lib.hid (F.out.then_ hf); clear hf)
        | (go_at_call 18; (with_reducible refine (HAP.out _).mono ?_); rintro e w3 ⟨rfl, hf⟩; replace F := Lib.hid (F.out.then_ hf); clear hf)
        | (go_at_call 20; refine (lives_any _ (HM.out.new_ F.out)).mono ?_; rintro e w4 ⟨rfl, hf⟩; replace F := Lib.hid (F.out.then_ hf); clear hf))
      go_ret
      exact ⟨rfl, F.out⟩
    · obtain rfl := HPU.out (by omega)
      have hu3 : (P : Int) ≤ 259 := by omega
      clear hu2
      go_wp2_with (first
        | (go_at_call 15; refine (HPP.out _).mono ?_; rintro e w1 ⟨rfl, hf⟩; replace F := Lib.hid (F.out.then_ hf); clear hf)
        | (go_at_call 18; (with_reducible refine (HAP.out _).mono ?_); rintro e w2 ⟨rfl, hf⟩; replace F := Lib.hid (F.out.then_ hf); clear hf)
        | (go_at_call 20; refine (lives_any _ (HM.out.new_ F.out)).mono ?_; rintro e w4 ⟨rfl, hf⟩; replace F := Lib.hid (F.out.then_ hf); clear hf))
      go_ret
      exact ⟨rfl, F.out⟩
end Go.Proofs.YtmjpaaippilioaaDoor

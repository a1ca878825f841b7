import Derived.Test.YtmjpaaippilioaaDoorMkA
namespace Go.Proofs.YtmjpaaippilioaaDoor
open Go.RowKit

theorem and_bit (w n : Nat) (hw : w < 18446744073709551616) (hn : n < 64) : (bits .and .u64 (w : Int) ((2 ^ n : Nat) : Int) != 0) = bt w n := by
  have h2 : 2 ^ n < 18446744073709551616 := by
    have := Nat.pow_lt_pow_right (a := 2) (by decide) hn
    exact this
  rw [bits_and_u64_nat w (2 ^ n) hw h2]
  have ht : (w &&& 2 ^ n).testBit n = w.testBit n := by rw [Nat.testBit_and, Nat.testBit_two_pow_self, Bool.and_true]
  have hb : bt w n = w.testBit n := by unfold bt; rw [Nat.testBit_eq_decide_div_mod_eq]
  rw [hb]
  cases h : w.testBit n with
  | true =>
    rw [h] at ht
    have hne : w &&& 2 ^ n ≠ 0 := fun e => by rw [e, Nat.zero_testBit] at ht; cases ht
    simp
    omega
  | false =>
    have hz : w &&& 2 ^ n = 0 := Nat.eq_of_testBit_eq fun i => by
      rw [Nat.testBit_and, Nat.testBit_two_pow, Nat.zero_testBit]
      by_cases hi : n = i
      · subst hi; rw [h]; rfl
      · simp [hi]
    rw [hz]; rfl
theorem shr_nat (w n : Nat) : (w : Int) / ((2 ^ n : Nat) : Int) = ((w / 2 ^ n : Nat) : Int) := by rw [Int.natCast_ediv]
set_option maxRecDepth 100000 in
theorem bit_any (w n : Nat) (hw : (w : Int) ≤ 18446744073709551615) (hn : (n : Int) ≤ 60) (W : World) : Calls Tryd.prog 54 #[.int .u64 w, .int .i64 n] W fun e w' => e = .returned (.bool (bt w n)) ∧ W = w' := by
  have HW := Lib.hid hw
  have HB := Lib.hid (show bt w n = decide (w / 2 ^ n % 2 = 1) from rfl)
  clear hw
  go_enter Tryd.func54, Tryd.ntmps54
  go_wp2_with fail
  go_loop [0, 5] (fun x i => ∃ k : Nat, i = .int .i64 k ∧ k ≤ n ∧ x = .int .u64 (w / 2 ^ k : Nat)) (fun _ i => n - (intOf i).toNat)
  case atStart => exact ⟨0, rfl, Nat.zero_le _, by simp⟩
  case round =>
    obtain ⟨k, rfl, hk, rfl⟩ := hrel
    obtain ⟨x, hx⟩ : ∃ x, w / 2 ^ k = x := ⟨_, rfl⟩
    have hxw : x ≤ w := by rw [← hx]; exact Nat.div_le_self _ _
    have x0 : (0 : Int) ≤ (x : Int) := by omega
    have x1 : (x : Int) ≤ 18446744073709551615 := by have := HW.out; omega
    rw [hx]
    have HX := Lib.hid hx
    clear hx hxw
    by_cases hlt : k < n
    · go_wp2_with fail
      go_round
      case rel => exact ⟨k + 1, by go_num, by omega, by rw [Nat.pow_succ, ← Nat.div_div_eq_div_mul, HX.out]; go_num⟩
      case measure => simp [intOf]; omega
    · obtain rfl : k = n := by omega
      go_wp2_with fail
      go_ret
      rw [HB.out, HX.out]
      refine ⟨?_, rfl⟩
      congr 2
      by_cases h : x % 2 = 1
      · simp [h]; omega
      · simp [h]; omega
set_option maxRecDepth 100000 in
theorem readers_any (w : Nat) (hw : (w : Int) ≤ 18446744073709551615) (W : World) : Calls Tryd.prog 27 #[.int .u64 w] W fun e w' => e = .returned (.int .u64 (w / 16 : Nat)) ∧ W = w' := by
  have w0 : (0 : Int) ≤ (w : Int) := by omega
  go_enter Tryd.func27, Tryd.ntmps27
  go_wp2
  go_ret
  exact ⟨rfl, rfl⟩
set_option maxRecDepth 100000 in
theorem rreaders_any (w : Nat) (hw : (w : Int) ≤ 18446744073709551615) (W : World) : Calls Tryd.prog 28 #[.int .u64 w] W fun e w' => e = .returned (.int .u64 (w / 16 : Nat)) ∧ W = w' := by
  have w0 : (0 : Int) ≤ (w : Int) := by omega
  go_enter Tryd.func28, Tryd.ntmps28
  go_wp2
  go_ret
  exact ⟨rfl, rfl⟩
def asH (w : Nat) : Int := if w / 4 ≤ 64 then ((w / 4 : Nat) : Int) - 1 else -1
set_option maxRecDepth 100000 in
theorem as_any (w : Nat) (hw : (w : Int) ≤ 18446744073709551615) (W : World) : Calls Tryd.prog 18 #[.int .u64 w] W fun e w' => e = .returned (.agg #[.bool (bt w 0), .bool (bt w 1), .int .i64 (asH w)]) ∧ Frm W w' fun _ => False := by
  have w0 : (0 : Int) ≤ (w : Int) := by omega
  have b0 : (bits .and .u64 (w : Int) 1 != 0) = bt w 0 := and_bit w 0 (by omega) (by omega)
  have b1 : (bits .and .u64 (w : Int) 2 != 0) = bt w 1 := and_bit w 1 (by omega) (by omega)
  obtain ⟨x, hx⟩ : ∃ x, bt w 0 = x := ⟨_, rfl⟩
  obtain ⟨y, hy⟩ : ∃ y, bt w 1 = y := ⟨_, rfl⟩
  rw [hx] at b0
  rw [hy] at b1
  have HX := Lib.hid hx
  have HY := Lib.hid hy
  have HA := Lib.hid (show asH w = if w / 4 ≤ 64 then ((w / 4 : Nat) : Int) - 1 else -1 from rfl)
  clear hx hy
  by_cases h : (w : Int) / 4 ≤ 64
  · go_enter Tryd.func18, Tryd.ntmps18
    go_wp2
    refine bodyPost_ret (v := .agg #[.bool x, .bool y, .int .i64 ((w : Int) / 4 - 1)]) (by simp [results, Tryd.results18, go_sem]) rfl ⟨?_, ?_⟩
    · rw [HX.out, HY.out, HA.out, if_pos (by omega)]; rfl
    · exact (((Frm.refl _ _).alloc _).alloc _)
  · have h' : 64 < (w : Int) / 4 := by omega
    go_enter Tryd.func18, Tryd.ntmps18
    go_wp2
    refine bodyPost_ret (v := .agg #[.bool x, .bool y, .int .i64 (-1)]) (by simp [results, Tryd.results18, go_sem]) rfl ⟨?_, ?_⟩
    · rw [HX.out, HY.out, HA.out, if_neg (by omega)]
    · exact (((Frm.refl _ _).alloc _).alloc _)
set_option maxRecDepth 100000 in
theorem ras_any (w : Nat) (hw : (w : Int) ≤ 18446744073709551615) (W : World) : Calls Tryd.prog 19 #[.int .u64 w] W fun e w' => e = .returned (.agg #[.bool (bt w 0), .bool (bt w 1), .int .i64 (asH w)]) ∧ Frm W w' fun _ => False := by
  have w0 : (0 : Int) ≤ (w : Int) := by omega
  have b0 : ∀ V, Calls Tryd.prog 54 #[.int .u64 w, .int .i64 0] V fun e w' => e = .returned (.bool (bt w 0)) ∧ V = w' := fun V => bit_any w 0 hw (by omega) V
  have b1 : ∀ V, Calls Tryd.prog 54 #[.int .u64 w, .int .i64 1] V fun e w' => e = .returned (.bool (bt w 1)) ∧ V = w' := fun V => bit_any w 1 hw (by omega) V
  have B0 := Lib.hid b0
  have B1 := Lib.hid b1
  have HA := Lib.hid (show asH w = if w / 4 ≤ 64 then ((w / 4 : Nat) : Int) - 1 else -1 from rfl)
  clear b0 b1
  by_cases h : (w : Int) / 4 ≤ 64
  · go_enter Tryd.func19, Tryd.ntmps19
    go_wp2_with (first
      | (go_at_call 54; (with_reducible refine (B0.out _).mono ?_); rintro e w' ⟨rfl, rfl⟩)
      | (go_at_call 54; (with_reducible refine (B1.out _).mono ?_); rintro e w' ⟨rfl, rfl⟩))
    refine bodyPost_ret (v := .agg #[.bool (bt w 0), .bool (bt w 1), .int .i64 ((w : Int) / 4 - 1)]) (by simp [results, Tryd.results19, go_sem]) rfl ⟨?_, ?_⟩
    · rw [HA.out, if_pos (by omega)]; rfl
    · exact ((Frm.refl _ _).alloc _)
  · have h' : 64 < (w : Int) / 4 := by omega
    go_enter Tryd.func19, Tryd.ntmps19
    go_wp2_with (first
      | (go_at_call 54; (with_reducible refine (B0.out _).mono ?_); rintro e w' ⟨rfl, rfl⟩)
      | (go_at_call 54; (with_reducible refine (B1.out _).mono ?_); rintro e w' ⟨rfl, rfl⟩))
    refine bodyPost_ret (v := .agg #[.bool (bt w 0), .bool (bt w 1), .int .i64 (-1)]) (by simp [results, Tryd.results19, go_sem]) rfl ⟨?_, ?_⟩
    · rw [HA.out, if_neg (by omega)]
    · exact ((Frm.refl _ _).alloc _)
/-- May a word be? -/
def mayN (w : Nat) : Bool := !(bt w 2 && bt w 3) && (!(bt w 2) || decide (0 < w / 16)) && (!(bt w 1) || bt w 3)
set_option maxRecDepth 100000 in
theorem may_any (w : Nat) (hw : (w : Int) ≤ 18446744073709551615) (W : World) : Calls Tryd.prog 29 #[.int .u64 w] W fun e w' => e = .returned (.bool (mayN w)) ∧ W = w' := by
  have w0 : (0 : Int) ≤ (w : Int) := by omega
  have b1 : (bits .and .u64 (w : Int) 2 != 0) = bt w 1 := and_bit w 1 (by omega) (by omega)
  have b2 : (bits .and .u64 (w : Int) 4 != 0) = bt w 2 := and_bit w 2 (by omega) (by omega)
  have b3 : (bits .and .u64 (w : Int) 8 != 0) = bt w 3 := and_bit w 3 (by omega) (by omega)
  have HM := Lib.hid (show mayN w = (!(bt w 2 && bt w 3) && (!(bt w 2) || decide (0 < w / 16)) && (!(bt w 1) || bt w 3)) from rfl)
  obtain ⟨r, hr⟩ : ∃ r, w / 16 = r := ⟨_, rfl⟩
  have r0 : (0 : Int) ≤ (r : Int) := by omega
  have HRD := Lib.hid (fun V => readers_any w hw V)
  have HR := Lib.hid hr
  clear hr
  rcases (show bt w 1 = true ∨ bt w 1 = false by cases bt w 1 <;> simp) with x1 | x1 <;> rcases (show bt w 2 = true ∨ bt w 2 = false by cases bt w 2 <;> simp) with x2 | x2 <;> rcases (show bt w 3 = true ∨ bt w 3 = false by cases bt w 3 <;> simp) with x3 | x3
  all_goals
    rw [x1] at b1
    rw [x2] at b2
    rw [x3] at b3
    have X1 := Lib.hid x1
    have X2 := Lib.hid x2
    have X3 := Lib.hid x3
    clear x1 x2 x3
    by_cases hrp : (0 : Int) < (r : Int)
    all_goals
      go_enter Tryd.func29, Tryd.ntmps29
      go_wp2_with (go_at_call 27; refine (HRD.out _).mono ?_; rw [HR.out]; rintro e w' ⟨rfl, rfl⟩)
      go_ret
      refine ⟨?_, rfl⟩
      rw [HM.out, X1.out, X2.out, X3.out, HR.out]
      first | rfl | (simp; done) | (simp; omega)
set_option maxRecDepth 100000 in
theorem rmay_any (w : Nat) (hw : (w : Int) ≤ 18446744073709551615) (W : World) : Calls Tryd.prog 30 #[.int .u64 w] W fun e w' => e = .returned (.bool (mayN w)) ∧ W = w' := by
  have HM := Lib.hid (show mayN w = (!(bt w 2 && bt w 3) && (!(bt w 2) || decide (0 < w / 16)) && (!(bt w 1) || bt w 3)) from rfl)
  have b1 : ∀ V, Calls Tryd.prog 54 #[.int .u64 w, .int .i64 1] V fun e w' => e = .returned (.bool (bt w 1)) ∧ V = w' := fun V => bit_any w 1 hw (by omega) V
  have b2 : ∀ V, Calls Tryd.prog 54 #[.int .u64 w, .int .i64 2] V fun e w' => e = .returned (.bool (bt w 2)) ∧ V = w' := fun V => bit_any w 2 hw (by omega) V
  have b3 : ∀ V, Calls Tryd.prog 54 #[.int .u64 w, .int .i64 3] V fun e w' => e = .returned (.bool (bt w 3)) ∧ V = w' := fun V => bit_any w 3 hw (by omega) V
  have B1 := Lib.hid b1
  have B2 := Lib.hid b2
  have B3 := Lib.hid b3
  obtain ⟨r, hr⟩ : ∃ r, w / 16 = r := ⟨_, rfl⟩
  have r0 : (0 : Int) ≤ (r : Int) := by omega
  have HRD := Lib.hid (fun V => rreaders_any w hw V)
  have HR := Lib.hid hr
  clear hr b1 b2 b3
  rcases (show bt w 1 = true ∨ bt w 1 = false by cases bt w 1 <;> simp) with x1 | x1 <;> rcases (show bt w 2 = true ∨ bt w 2 = false by cases bt w 2 <;> simp) with x2 | x2 <;> rcases (show bt w 3 = true ∨ bt w 3 = false by cases bt w 3 <;> simp) with x3 | x3
  all_goals
    have X1 := Lib.hid x1
    have X2 := Lib.hid x2
    have X3 := Lib.hid x3
    clear x1 x2 x3
    by_cases hrp : (r : Int) = 0
    all_goals
      go_enter Tryd.func30, Tryd.ntmps30
      go_wp2_with (first
        | (go_at_call 28; refine (HRD.out _).mono ?_; rw [HR.out]; rintro e w' ⟨rfl, rfl⟩)
        | (go_at_call 54; (with_reducible refine (B1.out _).mono ?_); rw [X1.out]; rintro e w' ⟨rfl, rfl⟩)
        | (go_at_call 54; (with_reducible refine (B2.out _).mono ?_); rw [X2.out]; rintro e w' ⟨rfl, rfl⟩)
        | (go_at_call 54; (with_reducible refine (B3.out _).mono ?_); rw [X3.out]; rintro e w' ⟨rfl, rfl⟩))
      go_ret
      refine ⟨?_, rfl⟩
      rw [HM.out, X1.out, X2.out, X3.out, HR.out]
      first | rfl | (simp; done) | (simp; omega)
end Go.Proofs.YtmjpaaippilioaaDoor

import Derived.Test.YtmjpaaippilioaaDoorMkI
namespace Go.Proofs.YtmjpaaippilioaaDoor
open Go.RowKit

theorem bt_low (w m i : Nat) (hi : i < 4) : bt (w + m * 16) i = bt w i := by
  unfold bt
  have : (w + m * 16) / 2 ^ i % 2 = w / 2 ^ i % 2 := by
    rcases (show i = 0 ∨ i = 1 ∨ i = 2 ∨ i = 3 by omega) with rfl | rfl | rfl | rfl <;> simp only [Nat.reducePow] <;> omega
  rw [this]
theorem may_same (w m : Nat) (h : bt w 2 = false) : mayN (w + m * 16) = mayN w := by
  unfold mayN
  rw [bt_low w m 1 (by omega), bt_low w m 2 (by omega), bt_low w m 3 (by omega), h]
  rfl
theorem may_up (w m : Nat) (h : mayN w = true) : mayN (w + m * 16) = true := by
  unfold mayN at h ⊢
  rw [bt_low w m 1 (by omega), bt_low w m 2 (by omega), bt_low w m 3 (by omega)]
  have : w / 16 ≤ (w + m * 16) / 16 := by omega
  simp only [Bool.and_eq_true, Bool.or_eq_true, decide_eq_true_eq] at h ⊢
  obtain ⟨⟨h1, h2⟩, h3⟩ := h
  exact ⟨⟨h1, h2.imp id (fun h => by omega)⟩, h3⟩
set_option maxRecDepth 100000 in
set_option maxHeartbeats 2000000 in
theorem readers_walk (u m : Nat) (_ : (u : Int) ≤ 18446744073709551615) (_ : (m : Int) ≤ 18446744073709551615) (w : World) (hm : Mk w) : Calls Tryd.prog 7 #[.int .u64 u, .int .u64 m] w fun e w' => e = .returned (.bool true) ∧ Frm w w' fun _ => False := by
  have HM := Lib.hid hm
  obtain ⟨x, hx⟩ : ∃ x, u % 1125899906842624 = x := ⟨_, rfl⟩
  obtain ⟨y, hy⟩ : ∃ y, m % 1099511627776 = y := ⟨_, rfl⟩
  have e1 : (u : Int) % 1125899906842624 = (x : Int) := by omega
  have e2 : (m : Int) % 1099511627776 = (y : Int) := by omega
  have x1 : (x : Int) < 1125899906842624 := by omega
  have y1 : (y : Int) < 1099511627776 := by omega
  have x0 : (0 : Int) ≤ (x : Int) := by omega
  have y0 : (0 : Int) ≤ (y : Int) := by omega
  have hz : ((x + y * 16 : Nat) : Int) ≤ 18446744073709551615 := by omega
  have hd : (x + y * 16) / 16 = x / 16 + y := by omega
  have hb2 : (bits .and .u64 (x : Int) 4 != 0) = bt x 2 := and_bit x 2 (by omega) (by omega)
  have hmd : ((x : Int) + (y : Int) * 16) % 16 = (x : Int) % 16 := by omega
  obtain ⟨r, hr⟩ : ∃ r, x / 16 = r := ⟨_, rfl⟩
  have h1 : ∀ V, Calls Tryd.prog 27 #[.int .u64 ((x : Int) + (y : Int) * 16)] V fun e w' => e = .returned (.int .u64 ((r : Int) + (y : Int))) ∧ V = w' := fun V => by
    have := readers_any (x + y * 16) hz V
    rw [hd, hr, Int.natCast_add, Int.natCast_mul, Int.natCast_add] at this
    exact this
  have h2 : ∀ V, Calls Tryd.prog 27 #[.int .u64 (x : Int)] V fun e w' => e = .returned (.int .u64 (r : Int)) ∧ V = w' := fun V => by
    have := readers_any x (by omega) V
    rw [hr] at this
    exact this
  have h3 : ∀ V, Calls Tryd.prog 29 #[.int .u64 ((x : Int) + (y : Int) * 16)] V fun e w' => e = .returned (.bool (mayN (x + y * 16))) ∧ V = w' := fun V => by
    have := may_any (x + y * 16) hz V
    rw [Int.natCast_add, Int.natCast_mul] at this
    exact this
  have h4 := fun V => may_any x (by omega) V
  have r0 : (0 : Int) ≤ (r : Int) := by omega
  have r1 : (r : Int) < 1125899906842624 := by omega
  have H1 := Lib.hid h1
  have H2 := Lib.hid h2
  obtain ⟨mx, hmx⟩ : ∃ b, mayN x = b := ⟨_, rfl⟩
  obtain ⟨mz, hmz⟩ : ∃ b, mayN (x + y * 16) = b := ⟨_, rfl⟩
  simp only [hmx] at h4
  simp only [hmz] at h3
  have H3 := Lib.hid h3
  have H4 := Lib.hid h4
  have hs := may_same x y
  have hp := may_up x y
  rw [hmx, hmz] at hs hp
  clear hm h1 h2 h3 h4 hx hy hd hr hmx hmz hz
  cases hb : bt x 2 with
  | true =>
    rw [hb] at hb2
    clear hb hs
    cases mx with
    | true =>
      obtain rfl := hp rfl
      clear hp
      go_enter Tryd.func7, Tryd.ntmps7
      go_wp2_with (first
        | (go_at_call 27; (with_reducible refine (H1.out _).mono ?_); rintro e w' ⟨rfl, rfl⟩)
        | (go_at_call 27; (with_reducible refine (H2.out _).mono ?_); rintro e w' ⟨rfl, rfl⟩)
        | (go_at_call 29; (with_reducible refine (H3.out _).mono ?_); rintro e w' ⟨rfl, rfl⟩)
        | (go_at_call 29; (with_reducible refine (H4.out _).mono ?_); rintro e w' ⟨rfl, rfl⟩)
        | (go_at_call 20; refine (lives_any _ HM.out).mono ?_; rintro e w' ⟨rfl, hf⟩))
      go_ret
      exact ⟨rfl, hf⟩
    | false =>
      clear hp
      cases mz
      all_goals
        go_enter Tryd.func7, Tryd.ntmps7
        go_wp2_with (first
          | (go_at_call 27; (with_reducible refine (H1.out _).mono ?_); rintro e w' ⟨rfl, rfl⟩)
          | (go_at_call 27; (with_reducible refine (H2.out _).mono ?_); rintro e w' ⟨rfl, rfl⟩)
          | (go_at_call 29; (with_reducible refine (H3.out _).mono ?_); rintro e w' ⟨rfl, rfl⟩)
          | (go_at_call 29; (with_reducible refine (H4.out _).mono ?_); rintro e w' ⟨rfl, rfl⟩)
          | (go_at_call 20; refine (lives_any _ HM.out).mono ?_; rintro e w' ⟨rfl, hf⟩))
        go_ret
        exact ⟨rfl, hf⟩
  | false =>
    rw [hb] at hb2
    obtain rfl := hs hb
    clear hs hp hb
    cases mz
    all_goals
      go_enter Tryd.func7, Tryd.ntmps7
      go_wp2_with (first
        | (go_at_call 27; (with_reducible refine (H1.out _).mono ?_); rintro e w' ⟨rfl, rfl⟩)
        | (go_at_call 27; (with_reducible refine (H2.out _).mono ?_); rintro e w' ⟨rfl, rfl⟩)
        | (go_at_call 29; (with_reducible refine (H3.out _).mono ?_); rintro e w' ⟨rfl, rfl⟩)
        | (go_at_call 29; (with_reducible refine (H4.out _).mono ?_); rintro e w' ⟨rfl, rfl⟩)
        | (go_at_call 20; refine (lives_any _ HM.out).mono ?_; rintro e w' ⟨rfl, hf⟩))
      go_ret
      exact ⟨rfl, hf⟩
end Go.Proofs.YtmjpaaippilioaaDoor

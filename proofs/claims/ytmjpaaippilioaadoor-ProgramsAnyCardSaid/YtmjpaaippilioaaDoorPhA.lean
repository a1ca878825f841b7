import Derived.Test.YtmjpaaippilioaaDoorPgW
namespace Go.Proofs.YtmjpaaippilioaaDoor
open Go.RowKit

/-! ### choices -/
def chO (c r : Nat) : Nat := min (c / 4 ^ r % 4) 2
theorem ch_bits : ∀ c : Nat, c < 256 → ∀ r : Fin 4, bits .and .i64 ((c : Int) / 2 ^ (2 * r.val)) 3 = ((c / 4 ^ r.val % 4 : Nat) : Int) := by decide +kernel
set_option maxRecDepth 100000 in
theorem choose37 (c t : Nat) (hc : (c : Int) ≤ 255) (ht : (t : Int) ≤ 18446744073709551615) (w : World) : Calls Tryd.prog 37 #[.int .i64 c, .int .u64 t] w fun e w' => e = .returned (.int .u8 (chO c (t % 4) : Nat)) ∧ w = w' := by
  have c0 : (0 : Int) ≤ (c : Int) := by omega
  have t0 : (0 : Int) ≤ (t : Int) := by omega
  obtain ⟨r, hr, hr4⟩ : ∃ r : Nat, t % 4 = r ∧ r < 4 := ⟨_, rfl, Nat.mod_lt _ (by decide)⟩
  go_enter Tryd.func37, Tryd.ntmps37
  go_wp2_with fail
  go_ret
  refine ⟨?_, rfl⟩
  have := ch_bits c (by omega) ⟨r, hr4⟩
  simp only at this
  rw [this, hr]
  congr 2
  unfold chO
  have hq : c / 4 ^ r % 4 < 4 := Nat.mod_lt _ (by decide)
  generalize c / 4 ^ r % 4 = q at hq ⊢
  obtain rfl | rfl | rfl | rfl : q = 0 ∨ q = 1 ∨ q = 2 ∨ q = 3 := by omega
  all_goals rfl
/-- The document's. -/
theorem ref_end : ∀ c : Nat, c < 256 → ∀ r : Fin 4, (if c / 4 ^ r.val % 4 = 3 then 2 else c / 4 ^ r.val % 4) = chO c r.val := by decide +kernel
set_option maxRecDepth 100000 in
theorem choose38 (c t : Nat) (hc : (c : Int) ≤ 255) (ht : (t : Int) ≤ 18446744073709551615) (w : World) : Calls Tryd.prog 38 #[.int .i64 c, .int .u64 t] w fun e w' => e = .returned (.int .i64 (chO c (t % 4) : Nat)) ∧ w = w' := by
  have c0 : (0 : Int) ≤ (c : Int) := by omega
  have t0 : (0 : Int) ≤ (t : Int) := by omega
  obtain ⟨r, hr, hr4⟩ : ∃ r : Nat, t % 4 = r ∧ r < 4 := ⟨_, rfl, Nat.mod_lt _ (by decide)⟩
  have hq := ref_end c (by omega) ⟨r, hr4⟩
  have HQ := Lib.hid hq
  have HR := Lib.hid hr
  clear hq
  go_enter Tryd.func38, Tryd.ntmps38
  go_wp2_with fail
  go_loopw [0, 5] (fun q i wr => ∃ j : Nat, i = .int .u64 j ∧ j ≤ r ∧ q = .int .i64 ((c / 4 ^ j : Nat) : Int) ∧ wr = w) (fun _ i _ => r - (intOf i).toNat)
  case atStart => exact ⟨0, rfl, Nat.zero_le _, by simp, rfl⟩
  case round =>
    obtain ⟨j, rfl, hj, rfl, rfl⟩ := hrel
    have j0 : (0 : Int) ≤ (j : Int) := by omega
    have jr : (j : Int) ≤ 4 := by omega
    obtain ⟨d, hd⟩ : ∃ d, c / 4 ^ j = d := ⟨_, rfl⟩
    have hd8 : d ≤ c := by rw [← hd]; exact Nat.div_le_self _ _
    have d0 : (0 : Int) ≤ (d : Int) := by omega
    have d1 : (d : Int) ≤ 255 := by omega
    rw [hd]
    have HD := Lib.hid hd
    clear hd
    by_cases hlt : j < r
    · go_wp2_with fail
      go_roundw
      case rel => exact ⟨j + 1, by go_num, by omega, by rw [Nat.pow_succ, ← Nat.div_div_eq_div_mul, HD.out]; go_num, trivial⟩
      case measure => simp [intOf]; omega
    · obtain rfl : j = r := by omega
      by_cases h3 : d % 4 = 3
      · have e3 : ((d : Int) % 4 == 3) = true := by simp; omega
        go_wp2_with fail
        go_ret
        exact ⟨by rw [HR.out, ← HQ.out, HD.out, if_pos h3]; rfl, rfl⟩
      · have e3 : ((d : Int) % 4 == 3) = false := by simp; omega
        go_wp2_with fail
        go_ret
        exact ⟨by rw [HR.out, ← HQ.out, HD.out, if_neg h3]; rfl, rfl⟩
theorem chO_le (c r : Nat) : chO c r ≤ 2 := Nat.min_le_right _ _
/-! ### the laws' walks -/
set_option maxRecDepth 100000 in
theorem choose_law (c t : Nat) (hc : (c : Int) ≤ 255) (ht : (t : Int) ≤ 18446744073709551615) (w : World) (h : T2 w) : Calls Tryd.prog 10 #[.int .u8 c, .int .u64 t] w fun e w' => e = .returned (.bool true) ∧ Frm w w' fun _ => False := by
  have c0 : (0 : Int) ≤ (c : Int) := by omega
  have t0 : (0 : Int) ≤ (t : Int) := by omega
  have hx := chO_le c (t % 4)
  have H1 := Lib.hid (choose37 c t hc ht w)
  have H2 := Lib.hid (choose38 c t hc ht w)
  have H3 : Calls Tryd.prog 37 #[.int .i64 8, .int .u64 0] w fun e w' => e = .returned (.int .u8 0) ∧ w = w' := choose37 8 0 (by decide) (by decide) w
  have H3 := Lib.hid H3
  obtain ⟨x, hxe⟩ : ∃ x, chO c (t % 4) = x := ⟨_, rfl⟩
  rw [hxe] at H1 H2 hx
  have x0 : (0 : Int) ≤ (x : Int) := by omega
  have x1 : (x : Int) ≤ 2 := by omega
  have HL := Lib.hid (livesP_any w h)
  clear hxe h
  go_enter Tryd.func10, Tryd.ntmps10
  go_wp2_with (first
    | (go_at_call 37; with_reducible refine H1.out.mono ?_; rintro e w' ⟨rfl, rfl⟩)
    | (go_at_call 38; with_reducible refine H2.out.mono ?_; rintro e w' ⟨rfl, rfl⟩)
    | (go_at_call 37; with_reducible refine H3.out.mono ?_; rintro e w' ⟨rfl, rfl⟩)
    | (go_at_call 31; with_reducible refine HL.out.mono ?_; rintro e w' ⟨rfl, hf⟩))
  go_ret
  exact ⟨rfl, hf⟩
theorem sum_ch : ∀ c : Nat, c < 256 → ((((chO c 0 + chO c 1 + chO c 2 + chO c 3 : Nat) : Int) == 0) = ((c : Int) == 0)) := by decide +kernel
theorem ch_0 : ∀ r : Fin 4, chO 0 r.val = 0 := by decide
theorem ch_85 : ∀ r : Fin 4, chO 85 r.val = 1 := by decide
theorem ch_255 : ∀ r : Fin 4, chO 255 r.val = 2 := by decide
/-- The sum of the first choices. -/
def chS (c j : Nat) : Nat := ((List.range j).map (chO c)).sum
theorem chS_succ (c j : Nat) : chS c (j + 1) = chS c j + chO c j := by simp [chS, List.range_succ]
set_option maxRecDepth 100000 in
set_option maxHeartbeats 1000000 in
theorem filter_law (c t : Nat) (hc : (c : Int) ≤ 255) (ht : (t : Int) ≤ 18446744073709551615) (w : World) (h : T2 w) : Calls Tryd.prog 11 #[.int .u8 c, .int .u64 t] w fun e w' => e = .returned (.bool true) ∧ Frm w w' fun _ => False := by
  have c0 : (0 : Int) ≤ (c : Int) := by omega
  have t0 : (0 : Int) ≤ (t : Int) := by omega
  have h4 : t % 4 < 4 := Nat.mod_lt _ (by decide)
  have hx := chO_le c (t % 4)
  have H1 := Lib.hid (choose37 c t hc ht w)
  have H2 : Calls Tryd.prog 37 #[.int .i64 c, .int .u64 ((t : Int) % 4)] w fun e w' => e = .returned (.int .u8 (chO c (t % 4) : Nat)) ∧ w = w' := by
    have := choose37 c (t % 4) hc (by omega) w
    rw [Nat.mod_mod] at this
    exact this
  have H2 := Lib.hid H2
  have H3 : Calls Tryd.prog 37 #[.int .i64 0, .int .u64 t] w fun e w' => e = .returned (.int .u8 0) ∧ w = w' := by
    have := choose37 0 t (by decide) ht w
    rw [ch_0 ⟨t % 4, h4⟩] at this
    exact this
  have H3 := Lib.hid H3
  have H4 : Calls Tryd.prog 37 #[.int .i64 85, .int .u64 t] w fun e w' => e = .returned (.int .u8 1) ∧ w = w' := by
    have := choose37 85 t (by decide) ht w
    rw [ch_85 ⟨t % 4, h4⟩] at this
    exact this
  have H4 := Lib.hid H4
  have H5 : Calls Tryd.prog 37 #[.int .i64 255, .int .u64 t] w fun e w' => e = .returned (.int .u8 2) ∧ w = w' := by
    have := choose37 255 t (by decide) ht w
    rw [ch_255 ⟨t % 4, h4⟩] at this
    exact this
  have H5 := Lib.hid H5
  have H6 := Lib.hid (fun (j : Nat) (hj : j < 4) => show Calls Tryd.prog 37 #[.int .i64 c, .int .u64 j] w fun e w' => e = .returned (.int .u8 (chO c j : Nat)) ∧ w = w' by
    have := choose37 c j hc (by omega) w
    rw [Nat.mod_eq_of_lt hj] at this
    exact this)
  obtain ⟨x, hxe⟩ : ∃ x, chO c (t % 4) = x := ⟨_, rfl⟩
  rw [hxe] at H1 H2 hx
  have x0 : (0 : Int) ≤ (x : Int) := by omega
  have x1 : (x : Int) ≤ 2 := by omega
  have xx : ((x : Int) != (x : Int)) = false := by simp
  have HL := Lib.hid (livesP_any w h)
  clear hxe h h4
  go_enter Tryd.func11, Tryd.ntmps11
  go_wp2_with (first
    | (go_at_call 37; with_reducible refine H1.out.mono ?_; rintro e w' ⟨rfl, rfl⟩)
    | (go_at_call 37; with_reducible refine H2.out.mono ?_; rintro e w' ⟨rfl, rfl⟩)
    | (go_at_call 37; with_reducible refine H3.out.mono ?_; rintro e w' ⟨rfl, rfl⟩)
    | (go_at_call 37; with_reducible refine H4.out.mono ?_; rintro e w' ⟨rfl, rfl⟩)
    | (go_at_call 37; with_reducible refine H5.out.mono ?_; rintro e w' ⟨rfl, rfl⟩))
  go_loopw [6, 7] (fun s i wr => ∃ j : Nat, i = .int .u64 j ∧ j ≤ 4 ∧ s = .int .i64 (chS c j : Nat) ∧ w = wr) (fun _ i _ => 4 - (intOf i).toNat)
  case atStart => exact ⟨0, rfl, Nat.zero_le _, rfl, rfl⟩
  case round =>
    obtain ⟨j, rfl, hj, rfl, hwr⟩ := hrel
    subst hwr
    have j0 : (0 : Int) ≤ (j : Int) := by omega
    have jr : (j : Int) ≤ 4 := by omega
    by_cases hlt : j < 4
    · have hs : chS c j ≤ 6 := by
        have h : ∀ j, chS c j ≤ 2 * j := by
          intro j
          induction j with
          | zero => exact Nat.le_refl _
          | succ j ih => rw [chS_succ]; have := chO_le c j; omega
        have := h j
        omega
      have hsn := chS_succ c j
      have hy := chO_le c j
      have H7 := Lib.hid (H6.out j hlt)
      obtain ⟨y, hye⟩ : ∃ y, chO c j = y := ⟨_, rfl⟩
      obtain ⟨s, hse⟩ : ∃ s, chS c j = s := ⟨_, rfl⟩
      rw [hye] at H7 hy hsn
      rw [hse] at hs hsn ⊢
      have y0 : (0 : Int) ≤ (y : Int) := by omega
      have y1 : (y : Int) ≤ 2 := by omega
      have s0 : (0 : Int) ≤ (s : Int) := by omega
      have s1 : (s : Int) ≤ 6 := by omega
      have HSN := Lib.hid hsn
      clear hye hse hsn
      go_wp2_with (go_at_call 37; refine H7.out.mono ?_; rintro e w' ⟨rfl, rfl⟩)
      go_roundw
      case rel => exact ⟨j + 1, by go_num, by omega, by rw [HSN.out]; go_num, trivial⟩
      case measure => simp [intOf]; omega
    · obtain rfl : j = 4 := by omega
      have hsum := sum_ch c (by omega)
      have hse : chS c 4 = chO c 0 + chO c 1 + chO c 2 + chO c 3 := by rw [chS_succ, chS_succ, chS_succ, chS_succ]; show 0 + _ + _ + _ + _ = _; omega
      rw [← hse] at hsum
      obtain ⟨s, hs⟩ : ∃ s, chS c 4 = s := ⟨_, rfl⟩
      rw [hs] at hsum ⊢
      by_cases hc0 : c = 0
      · have e1 : ((c : Int) == 0) = true := by simp [hc0]
        have e2 : ((s : Int) == 0) = true := by rw [hsum, e1]
        clear hse hsum hs hc0
        go_wp2_with (go_at_call 31; refine HL.out.mono ?_; rintro e w' ⟨rfl, hf⟩)
        go_ret
        exact ⟨rfl, hf⟩
      · have e1 : ((c : Int) == 0) = false := by simp; omega
        have e2 : ((s : Int) == 0) = false := by rw [hsum, e1]
        clear hse hsum hs
        go_wp2_with (go_at_call 31; refine HL.out.mono ?_; rintro e w' ⟨rfl, hf⟩)
        go_ret
        exact ⟨rfl, hf⟩
end Go.Proofs.YtmjpaaippilioaaDoor

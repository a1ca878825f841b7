import Derived.Test.YtaenclbbiodhfaaHsB
import Derived.Deep.RegionHeld3
namespace Go.Proofs.Ytaenclbbiodhfaa
open Go.RowKit
set_option maxRecDepth 100000 in
theorem len_2 (w : World) : Calls Try.prog 85 #[.int .u64 2] w fun e w' => e = .returned (.int .i64 2) ∧ w = w' := by
  go_enter Try.func85, Try.ntmps85
  go_wp2
  go_ret
  exact ⟨by kernel_rfl, rfl⟩
set_option maxRecDepth 100000 in
theorem len_5 (w : World) : Calls Try.prog 85 #[.int .u64 5] w fun e w' => e = .returned (.int .i64 3) ∧ w = w' := by
  go_enter Try.func85, Try.ntmps85
  go_wp2
  go_ret
  exact ⟨by kernel_rfl, rfl⟩
set_option maxRecDepth 100000 in
theorem len_191 (w : World) : Calls Try.prog 85 #[.int .u64 191] w fun e w' => e = .returned (.int .i64 8) ∧ w = w' := by
  go_enter Try.func85, Try.ntmps85
  go_wp2
  go_ret
  exact ⟨by kernel_rfl, rfl⟩
theorem bits_1 (w : World) : Calls Try.prog 72 #[.int .i64 1] w fun e w' => e = .returned (.int .i64 2) ∧ w = w' := by
  go_enter Try.func72, Try.ntmps72
  go_wp2_with (first | (go_at_call 79; go_in) | (go_at_call 85; refine (len_2 _).mono ?_; rintro e w' ⟨rfl, rfl⟩))
  go_ret
  exact ⟨rfl, rfl⟩
theorem bits_2 (w : World) : Calls Try.prog 72 #[.int .i64 2] w fun e w' => e = .returned (.int .i64 3) ∧ w = w' := by
  go_enter Try.func72, Try.ntmps72
  go_wp2_with (first | (go_at_call 79; go_in) | (go_at_call 85; refine (len_5 _).mono ?_; rintro e w' ⟨rfl, rfl⟩))
  go_ret
  exact ⟨rfl, rfl⟩
theorem bits_64 (w : World) : Calls Try.prog 72 #[.int .i64 64] w fun e w' => e = .returned (.int .i64 8) ∧ w = w' := by
  go_enter Try.func72, Try.ntmps72
  go_wp2_with (first | (go_at_call 79; go_in) | (go_at_call 85; refine (len_191 _).mono ?_; rintro e w' ⟨rfl, rfl⟩))
  go_ret
  exact ⟨rfl, rfl⟩
theorem tbl2 : tbl 2 = true := rfl
theorem hlives_any (w : World) : Calls Try.prog 51 #[] w fun e w' => e = .returned (.bool true) ∧ w = w' := by
  have s7 : sz ((7 : Nat) : Int) = 128 := by decide
  have s8 : sz ((8 : Nat) : Int) = 256 := by decide
  have h0 : hs 0 (2 : Int).toNat = 0 := by decide
  have o511 := fun w => of_in 511 7 (by decide) (by decide) (by decide) (by rw [s7]; decide) (by rw [s7]; decide) w
  have o767 := fun w => of_in 767 8 (by decide) (by decide) (by decide) (by rw [s8]; decide) (by rw [s8]; decide) w
  simp only [s7] at o511
  simp only [s8] at o767
  have O1 := Lib.hid o511
  have O2 := Lib.hid o767
  clear o511 o767 s7 s8
  have s8 : sz 8 = 256 := by decide
  have s2 : sz 2 = 4 := by decide
  go_enter Try.func51, Try.ntmps51
  go_wp2_with (first
    | (go_at_call_of 53 (Value.int IntKind.u32 511); refine (O1.out _).mono ?_; rintro e w' ⟨rfl, rfl⟩)
    | (go_at_call_of 53 (Value.int IntKind.u32 767); refine (O2.out _).mono ?_; rintro e w' ⟨rfl, rfl⟩)
    | (go_at_call 49; refine (hash_any 0 (by decide) 2 tbl2 _).mono ?_; rw [h0]; rintro e w' ⟨rfl, rfl⟩)
    | (go_at_call_of 72 (Value.int IntKind.i64 1); refine (bits_1 _).mono ?_; rintro e w' ⟨rfl, rfl⟩)
    | (go_at_call_of 72 (Value.int IntKind.i64 2); refine (bits_2 _).mono ?_; rintro e w' ⟨rfl, rfl⟩)
    | (go_at_call_of 72 (Value.int IntKind.i64 64); refine (bits_64 _).mono ?_; rintro e w' ⟨rfl, rfl⟩)
    | (go_at_call 50; refine (size_any _ _).mono ?_; rw [s8]; rintro e w' ⟨rfl, rfl⟩)
    | (go_at_call 52; refine (lock_in 2 3 (by decide) _).mono ?_; rw [s2]; rintro e w' ⟨rfl, rfl⟩))
  go_ret
  exact ⟨rfl, rfl⟩
theorem hash_nb (a nb : Nat) (ha : (a : Int) ≤ 4294967295) (h2 : 2 ≤ nb) (h8 : nb ≤ 8) (w : World) : Calls Try.prog 49 #[.int .u32 a, .int .i64 nb] w fun e w' => e = .returned (.int .i64 (hs a nb : Nat)) ∧ w = w' := by
  have := hash_any a ha (nb : Int) ((tbl_iff _).2 (by omega)) w
  rwa [Int.toNat_natCast] at this
theorem hash_nb1 (a nb : Nat) (ha : (a : Int) ≤ 4294967295) (h2 : 2 ≤ nb) (h8 : nb < 8) (w : World) : Calls Try.prog 49 #[.int .u32 a, .int .i64 ((nb : Int) + 1)] w fun e w' => e = .returned (.int .i64 (hs a (nb + 1) : Nat)) ∧ w = w' :=
  hash_nb a (nb + 1) ha (by omega) (by omega) w
theorem size_nb (nb : Nat) (w : World) : Calls Try.prog 50 #[.int .i64 nb] w fun e w' => e = .returned (.int .i64 (sz nb : Nat)) ∧ w = w' := size_any _ w
theorem hs_lt (a nb : Nat) (h2 : 2 ≤ nb) (h8 : nb ≤ 8) : hs a nb < sz (nb : Int) := by
  rw [sz_pow nb h2 h8]
  unfold hs
  rw [Nat.div_lt_iff_lt_mul (Nat.two_pow_pos _), ← Nat.pow_add, show nb + (64 - nb) = 64 from by omega]
  exact Nat.mod_lt _ (by decide)
theorem hs_half (a nb : Nat) (h8 : nb < 64) : hs a (nb + 1) / 2 = hs a nb := by
  unfold hs
  rw [Nat.div_div_eq_div_mul, ← Nat.pow_succ, show (64 - (nb + 1)).succ = 64 - nb from by omega]
end Go.Proofs.Ytaenclbbiodhfaa

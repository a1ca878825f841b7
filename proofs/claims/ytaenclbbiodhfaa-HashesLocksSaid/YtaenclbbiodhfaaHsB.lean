import Derived.Test.YtaenclbbiodhfaaHsA
import Derived.LoopTactic
namespace Go.Proofs.Ytaenclbbiodhfaa
open Go.RowKit

theorem sz_pow (k : Nat) (h2 : 2 ≤ k) (h8 : k ≤ 8) : sz (k : Int) = 2 ^ k := by
  unfold sz
  rw [if_pos ((tbl_iff _).2 (by omega))]
  simp
theorem sz_succ (k j : Nat) (h2 : 2 ≤ j) (hjk : j < k) (h8 : k ≤ 8) : 2 * sz (j : Int) ≤ sz (k : Int) := by
  rw [sz_pow j h2 (by omega), sz_pow k (by omega) h8, Nat.mul_comm, ← Nat.pow_succ]
  exact Nat.pow_le_pow_right (by decide) (by omega)
/-- A round of Of: what is known of the table of j bits. -/
theorem of_round (j : Nat) (h2 : 2 ≤ j) (h8 : j ≤ 8) (w : World) : Calls Try.prog 52 #[.int .i64 j, .int .i64 0] w fun e w' => e = .returned (.int .u32 (256 + sz j : Nat)) ∧ w = w' := by
  have := lock_in (j : Int) 0 (by have := sz_ge ((tbl_iff (j : Int)).2 (by omega)); omega) w
  exact this
set_option maxRecDepth 100000 in
set_option maxHeartbeats 1000000 in
theorem of_in (a k : Nat) (ha : (a : Int) ≤ 4294967295) (h2 : 2 ≤ k) (h8 : k ≤ 8) (hlo : 256 + sz k ≤ a) (hhi : a < 256 + 2 * sz k) (w : World) :
    Calls Try.prog 53 #[.int .u32 a] w fun e w' => e = .returned (.tuple #[.int .i64 k, .int .i64 (a - (256 + sz k) : Nat)]) ∧ w = w' := by
  obtain ⟨r, hr⟩ : ∃ r, a - (256 + sz k) = r := ⟨_, rfl⟩
  rw [hr]
  have HR := Lib.hid hr
  have HLO := Lib.hid hlo
  have HHI := Lib.hid hhi
  clear hr hlo hhi
  go_enter Try.func53, Try.ntmps53
  go_wp2_with fail
  go_loop [4, 5, 6] (fun _ _ i => ∃ j : Nat, i = .int .i64 j ∧ j ≤ k) (fun _ _ i => 9 - (intOf i).toNat)
  case atStart => exact ⟨0, rfl, by omega⟩
  case round =>
    obtain ⟨j, rfl, hj⟩ := hrel
    have j0 : (0 : Int) ≤ (j : Int) := by omega
    have j9 : (j : Int) < 9 := by omega
    by_cases hj2 : j < 2
    · have ht : tbl (j : Int) = false := by simp [tbl]; omega
      go_wp2_with (go_at_call 52; refine (lock_out _ ht _).mono ?_; rintro e w' ⟨rfl, rfl⟩)
      go_round
      case rel => exact ⟨j + 1, by go_num, by omega⟩
      case measure => simp [intOf]; omega
    · have hs4 := sz_ge ((tbl_iff (j : Int)).2 (by omega))
      have hs256 := sz_le (j : Int)
      obtain ⟨s, hs⟩ : ∃ s, sz (j : Int) = s := ⟨_, rfl⟩
      have HS := Lib.hid hs
      have s0 : (4 : Int) ≤ (s : Int) := by omega
      have s1 : (s : Int) ≤ 256 := by omega
      by_cases hjk : j = k
      · subst hjk
        have b1 : 256 + s ≤ a := by have := HLO.out; omega
        have b2 : a < 256 + s + s := by have := HHI.out; omega
        have e1 : (a : Int) - (256 + (s : Int)) = (r : Int) := by have := HR.out; omega
        have b3 : ((256 : Int) + (s : Int) != 0) = true := by simp; omega
        have b4 : (256 : Int) + (s : Int) ≤ (a : Int) := by omega
        have b5 : (a : Int) < 256 + (s : Int) + (s : Int) := by omega
        clear hs hs4 hs256
        go_wp2_with (first
          | (go_at_call 52; refine (of_round _ (by omega) (by omega) _).mono ?_; rw [HS.out]; rintro e w' ⟨rfl, rfl⟩)
          | (go_at_call 50; refine (size_any _ _).mono ?_; rw [HS.out]; rintro e w' ⟨rfl, rfl⟩))
        go_ret2
        exact ⟨rfl, rfl⟩
      · have hss := sz_succ k j (by omega) (by omega) h8
        have b1 : 256 + s ≤ a := by have := HLO.out; omega
        have b2 : ¬ a < 256 + s + s := by have := HLO.out; omega
        have b3 : ((256 : Int) + (s : Int) != 0) = true := by simp; omega
        have b4 : (256 : Int) + (s : Int) ≤ (a : Int) := by omega
        have b5 : 256 + (s : Int) + (s : Int) ≤ (a : Int) := by omega
        clear hs hs4 hs256 hss
        go_wp2_with (first
          | (go_at_call 52; refine (of_round _ (by omega) (by omega) _).mono ?_; rw [HS.out]; rintro e w' ⟨rfl, rfl⟩)
          | (go_at_call 50; refine (size_any _ _).mono ?_; rw [HS.out]; rintro e w' ⟨rfl, rfl⟩))
        go_round
        case rel => exact ⟨j + 1, by go_num, by omega⟩
        case measure => simp [intOf]; omega
set_option maxRecDepth 100000 in
set_option maxHeartbeats 1000000 in
theorem of_out (a : Nat) (ha : (a : Int) ≤ 4294967295) (h : a < 260 ∨ 768 ≤ a) (w : World) :
    Calls Try.prog 53 #[.int .u32 a] w fun e w' => e = .returned (.tuple #[.int .i64 (-1), .int .i64 (-1)]) ∧ w = w' := by
  have H := Lib.hid h
  clear h
  go_enter Try.func53, Try.ntmps53
  go_wp2_with fail
  go_loop [4, 5, 6] (fun _ _ i => ∃ j : Nat, i = .int .i64 j ∧ j ≤ 9) (fun _ _ i => 9 - (intOf i).toNat)
  case atStart => exact ⟨0, rfl, by omega⟩
  case round =>
    obtain ⟨j, rfl, hj⟩ := hrel
    have j0 : (0 : Int) ≤ (j : Int) := by omega
    by_cases hj9 : j = 9
    · subst hj9
      go_wp2_with fail
      go_ret2
      exact ⟨rfl, rfl⟩
    have j9 : (j : Int) < 9 := by omega
    by_cases hj2 : j < 2
    · have ht : tbl (j : Int) = false := by simp [tbl]; omega
      clear hj9
      go_wp2_with (go_at_call 52; refine (lock_out _ ht _).mono ?_; rintro e w' ⟨rfl, rfl⟩)
      go_round
      case rel => exact ⟨j + 1, by go_num, by omega⟩
      case measure => simp [intOf]; omega
    · have hs4 := sz_ge ((tbl_iff (j : Int)).2 (by omega))
      have hs256 := sz_le (j : Int)
      obtain ⟨s, hs⟩ : ∃ s, sz (j : Int) = s := ⟨_, rfl⟩
      have HS := Lib.hid hs
      have s0 : (4 : Int) ≤ (s : Int) := by omega
      have s1 : (s : Int) ≤ 256 := by omega
      have b3 : ((256 : Int) + (s : Int) != 0) = true := by simp; omega
      rcases H.out with h | h
      · have b4 : (a : Int) < 256 + (s : Int) := by omega
        clear hs hs4 hs256 hj9 h
        go_wp2_with (first
          | (go_at_call 52; refine (of_round _ (by omega) (by omega) _).mono ?_; rw [HS.out]; rintro e w' ⟨rfl, rfl⟩)
          | (go_at_call 50; refine (size_any _ _).mono ?_; rw [HS.out]; rintro e w' ⟨rfl, rfl⟩))
        go_round
        case rel => exact ⟨j + 1, by go_num, by omega⟩
        case measure => simp [intOf]; omega
      · have b4 : (256 : Int) + (s : Int) ≤ (a : Int) := by omega
        have b5 : 256 + (s : Int) + (s : Int) ≤ (a : Int) := by omega
        clear hs hs4 hs256 hj9 h
        go_wp2_with (first
          | (go_at_call 52; refine (of_round _ (by omega) (by omega) _).mono ?_; rw [HS.out]; rintro e w' ⟨rfl, rfl⟩)
          | (go_at_call 50; refine (size_any _ _).mono ?_; rw [HS.out]; rintro e w' ⟨rfl, rfl⟩))
        go_round
        case rel => exact ⟨j + 1, by go_num, by omega⟩
        case measure => simp [intOf]; omega
end Go.Proofs.Ytaenclbbiodhfaa

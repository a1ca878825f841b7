import Derived.Test.YtaenclbbiodhfaaRows
import Derived.Test.YtaenclbbiodhfaaGrw
import Derived.WalkKit
import Derived.WalkSpells
import Derived.WalkLawsBesides
namespace Go.Proofs.Ytaenclbbiodhfaa
open Go.RowKit

/-- Where an address hashes to. -/
def hs (a nb : Nat) : Nat := a * 11400714819323198485 % 18446744073709551616 / 2 ^ (64 - nb)
/-- Are there tables of so many bits? -/
def tbl (n : Int) : Bool := decide (2 ≤ n) && decide (n ≤ 8)
/-- The size of a table. -/
def sz (n : Int) : Nat := if tbl n then 2 ^ n.toNat else 0
theorem tbl_iff (n : Int) : tbl n = true ↔ 2 ≤ n ∧ n ≤ 8 := by simp [tbl]
theorem tbl_cases {n : Int} (h : tbl n = true) : n = 2 ∨ n = 3 ∨ n = 4 ∨ n = 5 ∨ n = 6 ∨ n = 7 ∨ n = 8 := by have := (tbl_iff n).1 h; omega

theorem table_any (n : Int) (w : World) : Calls Try.prog 71 #[.int .i64 n] w fun e w' => e = .returned (.bool (tbl n)) ∧ w = w' := by
  have e1 : Hid (tbl n = (decide (2 ≤ n) && decide (n ≤ 8))) := rfl
  by_cases h : 2 ≤ n
  · go_enter Try.func71, Try.ntmps71
    go_wp2
    go_ret
    rw [e1.out]
    exact ⟨by simp [h], rfl⟩
  · have h' : n < 2 := by omega
    go_enter Try.func71, Try.ntmps71
    go_wp2
    go_ret
    rw [e1.out]
    exact ⟨by simp; omega, rfl⟩
theorem size_any (n : Int) (w : World) : Calls Try.prog 50 #[.int .i64 n] w fun e w' => e = .returned (.int .i64 (sz n : Nat)) ∧ w = w' := by
  by_cases h : tbl n = true
  · have e1 : Hid (sz n = 2 ^ n.toNat) := by show _ = _; unfold sz; rw [if_pos h]
    rcases tbl_cases h with rfl | rfl | rfl | rfl | rfl | rfl | rfl
    all_goals
      go_enter Try.func50, Try.ntmps50
      go_wp2_with (go_at_call 71; refine (table_any _ _).mono ?_; rw [h]; rintro e w' ⟨rfl, rfl⟩)
      go_ret
      rw [e1.out]
      exact ⟨rfl, rfl⟩
  · have h' : tbl n = false := by simpa using h
    have e1 : Hid (sz n = 0) := by show _ = _; unfold sz; rw [h']; rfl
    clear h
    go_enter Try.func50, Try.ntmps50
    go_wp2_with (go_at_call 71; refine (table_any _ _).mono ?_; rw [h']; rintro e w' ⟨rfl, rfl⟩)
    go_ret
    rw [e1.out]
    exact ⟨rfl, rfl⟩
theorem hash_any (a : Nat) (ha : (a : Int) ≤ 4294967295) (n : Int) (h : tbl n = true) (w : World) : Calls Try.prog 49 #[.int .u32 a, .int .i64 n] w fun e w' => e = .returned (.int .i64 (hs a n.toNat : Nat)) ∧ w = w' := by
  have e1 : ∀ k : Nat, Hid (hs a k = a * 11400714819323198485 % 18446744073709551616 / 2 ^ (64 - k)) := fun _ => rfl
  have a0 : (0 : Int) ≤ (a : Int) := by omega
  rcases tbl_cases h with rfl | rfl | rfl | rfl | rfl | rfl | rfl
  all_goals
    go_enter Try.func49, Try.ntmps49
    go_wp2_with (go_at_call 71; refine (table_any _ _).mono ?_; rw [h]; rintro e w' ⟨rfl, rfl⟩)
    go_ret
    rw [(e1 _).out]
    refine ⟨?_, rfl⟩
    congr 1
    simp [IntKind.wrap, IntKind.bits, IntKind.signed]
    refine (IntWalk.wrap64_in _ ?_).trans ?_ <;> omega
theorem sz_le (n : Int) : sz n ≤ 256 := by
  unfold sz
  split
  · rename_i h
    rcases tbl_cases h with rfl | rfl | rfl | rfl | rfl | rfl | rfl <;> decide
  · omega
theorem sz_ge {n : Int} (h : tbl n = true) : 4 ≤ sz n := by
  unfold sz
  rw [if_pos h]
  rcases tbl_cases h with rfl | rfl | rfl | rfl | rfl | rfl | rfl <;> decide
theorem lock_in (n : Int) (i : Nat) (hi : i < sz n) (w : World) : Calls Try.prog 52 #[.int .i64 n, .int .i64 i] w fun e w' => e = .returned (.int .u32 (256 + sz n + i : Nat)) ∧ w = w' := by
  have hle := sz_le n
  obtain ⟨s, hs⟩ : ∃ s, sz n = s := ⟨_, rfl⟩
  have HS := Lib.hid hs
  rw [hs] at hi hle
  clear hs
  have i0 : (0 : Int) ≤ (i : Int) := by omega
  have i1 : (i : Int) < (s : Int) := by omega
  have i2 : (s : Int) ≤ 256 := by omega
  clear hle
  go_enter Try.func52, Try.ntmps52
  go_wp2_with (go_at_call 50; refine (size_any _ _).mono ?_; rw [HS.out]; rintro e w' ⟨rfl, rfl⟩)
  go_ret
  rw [HS.out]
  exact ⟨by go_num, rfl⟩
theorem lock_out (n : Int) (h : tbl n = false) (w : World) : Calls Try.prog 52 #[.int .i64 n, .int .i64 0] w fun e w' => e = .returned (.int .u32 0) ∧ w = w' := by
  have HS : Hid (sz n = 0) := by show _ = _; unfold sz; rw [h]; rfl
  go_enter Try.func52, Try.ntmps52
  go_wp2_with (go_at_call 50; refine (size_any _ _).mono ?_; rw [HS.out]; rintro e w' ⟨rfl, rfl⟩)
  go_ret
  exact ⟨rfl, rfl⟩
end Go.Proofs.Ytaenclbbiodhfaa

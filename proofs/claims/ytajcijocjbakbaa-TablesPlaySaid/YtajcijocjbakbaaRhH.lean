import Derived.Test.YtajcijocjbakbaaRows
import Derived.Test.YtajcijocjbakbaaGrw
import Derived.WalkKit
import Derived.WalkSpells
import Derived.WalkLawsBesides
namespace Go.Proofs.Ytajcijocjbakbaa
open Go.RowKit

/-- Where an address hashes to. -/
def hs (a nb : Nat) : Nat := a * 11400714819323198485 % 18446744073709551616 / 2 ^ (64 - nb)
/-- Are there tables of so many bits? -/
def tbl (n : Int) : Bool := decide (2 ≤ n) && decide (n ≤ 8)
/-- The size of a table. -/
def sz (n : Int) : Nat := if tbl n then 2 ^ n.toNat else 0
theorem tbl_iff (n : Int) : tbl n = true ↔ 2 ≤ n ∧ n ≤ 8 := by simp [tbl]
theorem tbl_cases {n : Int} (h : tbl n = true) : n = 2 ∨ n = 3 ∨ n = 4 ∨ n = 5 ∨ n = 6 ∨ n = 7 ∨ n = 8 := by have := (tbl_iff n).1 h; omega

theorem table_any (n : Int) (w : World) : Calls Try.prog 29 #[.int .i64 n] w fun e w' => e = .returned (.bool (tbl n)) ∧ w = w' := by
  have e1 : Hid (tbl n = (decide (2 ≤ n) && decide (n ≤ 8))) := rfl
  by_cases h : 2 ≤ n
  · go_enter Try.func29, Try.ntmps29
    go_wp2
    go_ret
    rw [e1.out]
    exact ⟨by simp [h], rfl⟩
  · have h' : n < 2 := by omega
    go_enter Try.func29, Try.ntmps29
    go_wp2
    go_ret
    rw [e1.out]
    exact ⟨by simp; omega, rfl⟩
theorem size_any (n : Int) (w : World) : Calls Try.prog 13 #[.int .i64 n] w fun e w' => e = .returned (.int .i64 (sz n : Nat)) ∧ w = w' := by
  by_cases h : tbl n = true
  · have e1 : Hid (sz n = 2 ^ n.toNat) := by show _ = _; unfold sz; rw [if_pos h]
    rcases tbl_cases h with rfl | rfl | rfl | rfl | rfl | rfl | rfl
    all_goals
      go_enter Try.func13, Try.ntmps13
      go_wp2_with (go_at_call 29; refine (table_any _ _).mono ?_; rw [h]; rintro e w' ⟨rfl, rfl⟩)
      go_ret
      rw [e1.out]
      exact ⟨rfl, rfl⟩
  · have h' : tbl n = false := by simpa using h
    have e1 : Hid (sz n = 0) := by show _ = _; unfold sz; rw [h']; rfl
    clear h
    go_enter Try.func13, Try.ntmps13
    go_wp2_with (go_at_call 29; refine (table_any _ _).mono ?_; rw [h']; rintro e w' ⟨rfl, rfl⟩)
    go_ret
    rw [e1.out]
    exact ⟨rfl, rfl⟩
theorem hash_any (a : Nat) (ha : (a : Int) ≤ 4294967295) (n : Int) (h : tbl n = true) (w : World) : Calls Try.prog 26 #[.int .u32 a, .int .i64 n] w fun e w' => e = .returned (.int .i64 (hs a n.toNat : Nat)) ∧ w = w' := by
  have e1 : ∀ k : Nat, Hid (hs a k = a * 11400714819323198485 % 18446744073709551616 / 2 ^ (64 - k)) := fun _ => rfl
  have a0 : (0 : Int) ≤ (a : Int) := by omega
  rcases tbl_cases h with rfl | rfl | rfl | rfl | rfl | rfl | rfl
  all_goals
    go_enter Try.func26, Try.ntmps26
    go_wp2_with (go_at_call 29; refine (table_any _ _).mono ?_; rw [h]; rintro e w' ⟨rfl, rfl⟩)
    go_ret
    rw [(e1 _).out]
    refine ⟨?_, rfl⟩
    congr 1
    simp [IntKind.wrap, IntKind.bits, IntKind.signed]
    refine (IntWalk.wrap64_in _ ?_).trans ?_ <;> omega
theorem sz_le (n : Int) : sz n ≤ 256 := by
  unfold sz
  split
  · rename_i h
    rcases tbl_cases h with rfl | rfl | rfl | rfl | rfl | rfl | rfl <;> decide
  · omega
theorem sz_ge {n : Int} (h : tbl n = true) : 4 ≤ sz n := by
  unfold sz
  rw [if_pos h]
  rcases tbl_cases h with rfl | rfl | rfl | rfl | rfl | rfl | rfl <;> decide
end Go.Proofs.Ytajcijocjbakbaa

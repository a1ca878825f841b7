import Derived.Test.YtaenclbbiodhfaaRows
import Derived.Test.YtaenclbbiodhfaaGrw
import Derived.WalkKit
import Derived.WalkSpells
import Derived.WalkLawsBesides
import Derived.Laws.Externs
import Derived.Laws.CopyOwn
import Derived.Deep.RegionLaw
namespace Go.Proofs.Ytaenclbbiodhfaa
open Go.RowKit

/-- A number of 64 bits. -/
structure U (n : Nat) : Prop where
  lt : n < 18446744073709551616
/-- A sum that stays at the greatest number. -/
def plus (a b : Nat) : Nat := if a + b < 18446744073709551616 then a + b else 18446744073709551615
theorem U.plus (a b : Nat) : U (plus a b) := ⟨by unfold Ytaenclbbiodhfaa.plus; split <;> omega⟩
theorem U.zero : U 0 := ⟨by decide⟩

theorem add64 (x y : Nat) (w : World) : (callFunc 78 #[.int .u64 x, .int .u64 y, .int .u64 0]).run Try.prog w =
      .ok (.value (.tuple #[.int .u64 (((x + y) % 18446744073709551616 : Nat) : Int), .int .u64 (((x + y) / 18446744073709551616 : Nat) : Int)])) w := by
  have h := run_add64 (P := Try.prog) (x : Int) (y : Int) 0 (by omega) (by omega) (by omega) (by omega) w
  rw [run_callFunc_extern Try.func78 (by kernel_rfl) (by kernel_rfl) (by kernel_rfl) (e := add64Entry) (by kernel_rfl), h]
  simp only [Result.andThen]
  congr 5 <;> omega

theorem plus_any (a b : Nat) (ha : U a) (hb : U b) (w : World) : Calls Try.prog 67 #[.int .u64 a, .int .u64 b] w fun e w' => e = .returned (.int .u64 (plus a b : Nat)) ∧ w = w' := by
  have A := ha.lt
  have B := hb.lt
  have hadd := add64 a b
  by_cases h : a + b < 18446744073709551616
  · have e1 : Hid (plus a b = a + b) := by show _ = _; unfold plus; rw [if_pos h]
    rw [show (a + b) % 18446744073709551616 = a + b by omega, show (a + b) / 18446744073709551616 = 0 by omega] at hadd
    clear A B h ha hb
    go_enter Try.func67, Try.ntmps67
    go_wp2
    go_ret
    rw [e1.out]
    exact ⟨by go_num, rfl⟩
  · have e1 : Hid (plus a b = 18446744073709551615) := by show _ = _; unfold plus; rw [if_neg h]
    rw [show (a + b) / 18446744073709551616 = 1 by omega] at hadd
    clear A B h ha hb
    go_enter Try.func67, Try.ntmps67
    go_wp2
    go_ret
    rw [e1.out]
    exact ⟨by go_num, rfl⟩
theorem rplus_any (a b : Nat) (ha : U a) (hb : U b) (w : World) : Calls Try.prog 68 #[.int .u64 a, .int .u64 b] w fun e w' => e = .returned (.int .u64 (plus a b : Nat)) ∧ w = w' := by
  have A := ha.lt
  have B := hb.lt
  have ew : IntKind.u64.wrap (18446744073709551615 - (b : Int)) = ((18446744073709551615 - b : Nat) : Int) := by rw [IntKind.wrap_u64]; omega
  by_cases h : a + b < 18446744073709551616
  · have e1 : Hid (plus a b = a + b) := by show _ = _; unfold plus; rw [if_pos h]
    have e2 : IntKind.u64.wrap ((a : Int) + (b : Int)) = ((a + b : Nat) : Int) := by rw [IntKind.wrap_u64]; omega
    have e3 : ¬ (18446744073709551615 - b < a) := by omega
    generalize 18446744073709551615 - b = m at *
    clear A B h ha hb
    go_enter Try.func68, Try.ntmps68
    go_wp2
    go_ret
    rw [e1.out]
    exact ⟨by go_num, rfl⟩
  · have e1 : Hid (plus a b = 18446744073709551615) := by show _ = _; unfold plus; rw [if_neg h]
    have e3 : 18446744073709551615 - b < a := by omega
    generalize 18446744073709551615 - b = m at *
    clear A B h ha hb
    go_enter Try.func68, Try.ntmps68
    go_wp2
    go_ret
    rw [e1.out]
    exact ⟨by go_num, rfl⟩
end Go.Proofs.Ytaenclbbiodhfaa

import Derived.Test.YtllicaibgjjidaaDoorRows
import Derived.Test.YtllicaibgjjidaaDoorSl
import Derived.WalkKit
import Derived.WalkSpells
import Derived.WalkLawsBesides
import Derived.Deep.QuietTactic
import Derived.BigQuiet
import Derived.Deep.RegionHeld3
namespace Go.Proofs.YtllicaibgjjidaaDoor
open Go.RowKit

/-- The names of the kinds, as bytes. -/
def nmL : List (List UInt8) := [[], [112, 97, 114, 107], [116, 97, 107, 101], [112, 105, 99, 107], [109, 111, 118, 101], [103, 111, 110, 101], [], [], [], [], [], [], [], [], [], [], [108, 111, 99, 107], [102, 114, 101, 101], [104, 97, 110, 100], [98, 117, 115, 121], [108, 97, 116, 101], [114, 101, 97, 100], [117, 112, 103, 114], [99, 108, 97, 105, 109], [119, 114, 105, 116, 101], [117, 110, 114, 101, 97, 100], [117, 110, 117, 112, 103, 114], [117, 110, 99, 108, 97, 105, 109], [117, 110, 119, 114, 105, 116, 101], [119, 97, 105, 116], [119, 97, 107, 101], [103, 105, 118, 101], [110, 111, 98, 111, 100, 121], [98, 101, 103, 105, 110], [101, 110, 100], [102, 97, 105, 108], [100, 111, 110, 101], [115, 105, 99, 107]]
def nm (i : Nat) : ByteArray := ⟨(nmL.getD i []).toArray⟩
def nmI (k : Int) : ByteArray := if k < 38 then nm k.toNat else ⟨#[]⟩
def isK (k : Int) : Bool := decide (1 ≤ k) && decide (k ≤ 5) || decide (16 ≤ k) && decide (k ≤ 37)
/-- The table of names lies as the program's text lays it. -/
def Tab (w : World) : Prop := 0 < w.heap.size ∧ ∀ i, i < 38 → w.cell? ⟨0, i, none⟩ = some (.string (nm i))
theorem Tab.frm {w w' : World} {S : Nat → Prop} (h : Tab w) (k : Frm w w' S) (hS : ¬ S 0) : Tab w' := ⟨Nat.lt_of_lt_of_le h.1 k.size, fun i hi => k.cell (h.2 i hi) hS⟩
theorem Tab.below {w w' : World} {B : Nat} (h : Tab w) (k : Below B w w') (hB : 0 < B) : Tab w' := ⟨Nat.lt_of_lt_of_le h.1 k.size, fun i hi => (k.cell (p := ⟨0, i, none⟩) hB).trans (h.2 i hi)⟩
theorem nm_empty : ∀ i, i < 38 → (nm i).toList.isEmpty = !(isK i) := by decide +kernel
theorem nmI_empty (k : Int) (h0 : 0 ≤ k) : (nmI k).toList.isEmpty = !(isK k) := by
  unfold nmI
  split
  · obtain ⟨n, rfl⟩ := Int.eq_ofNat_of_zero_le h0
    exact nm_empty n (by omega)
  · have : isK k = false := by unfold isK; simp; omega
    rw [this]; show (⟨#[]⟩ : ByteArray).toList.isEmpty = true; decide +kernel
theorem nm_inj : ∀ i : Nat, i < 38 → ∀ j : Nat, j < 38 → isK (i : Int) = true → nmL.getD i [] = nmL.getD j [] → i = j := by decide +kernel

theorem name_any (k : Int) (k0 : 0 ≤ k) (k1 : k ≤ 255) (w : World) (hT : Tab w) : Calls Tryd.prog 7 #[.int .u8 k] w fun e w' => e = .returned (.string (nmI k)) ∧ w = w' := by
  by_cases h : k < 38
  · have c := hT.2 k.toNat (by omega)
    have e : Hid (nmI k = nm k.toNat) := by show _ = _; unfold nmI; rw [if_pos h]
    go_enter Tryd.func7, Tryd.ntmps7
    go_wp2
    go_ret
    rw [e.out]
    exact ⟨rfl, rfl⟩
  · have e : Hid (nmI k = ⟨#[]⟩) := by show _ = _; unfold nmI; rw [if_neg h]
    go_enter Tryd.func7, Tryd.ntmps7
    go_wp2
    go_ret
    rw [e.out]
    exact ⟨rfl, rfl⟩
theorem lot_any (k : Int) (w : World) : Calls Tryd.prog 10 #[.int .u8 k] w fun e w' => e = .returned (.bool (decide (1 ≤ k) && decide (k ≤ 5))) ∧ w = w' := by
  by_cases h : 1 ≤ k <;> by_cases h' : k ≤ 5
  all_goals
    go_enter Tryd.func10, Tryd.ntmps10
    go_wp2
    go_ret
    exact ⟨by simp [h, h'], rfl⟩
theorem rlot_any (k : Int) (w : World) : Calls Tryd.prog 19 #[.int .i64 k] w fun e w' => e = .returned (.bool (decide (1 ≤ k) && decide (k ≤ 5))) ∧ w = w' := by
  by_cases h : 1 ≤ k <;> by_cases h' : k ≤ 5
  all_goals
    go_enter Tryd.func19, Tryd.ntmps19
    go_wp2
    go_ret
    exact ⟨by simp [h, h'], rfl⟩
theorem new_any (w : World) : Calls Tryd.prog 8 #[] w fun e w' => e = .returned (.pointer (some ⟨w.heap.size, 0, none⟩)) ∧ w' = w.alloc (.cells #[.slice none 0 0] 54) := by
  go_enter Tryd.func8, Tryd.ntmps8
  go_wp2
  go_ret
  exact ⟨rfl, rfl⟩
theorem count_any (b n cap : Nat) (A : Option Addr) (w : World) (h : w.cell? ⟨b, 0, none⟩ = some (.slice A n cap)) : Calls Tryd.prog 14 #[.pointer (some ⟨b, 0, none⟩)] w fun e w' => e = .returned (.int .i64 n) ∧ w = w' := by
  go_enter Tryd.func14, Tryd.ntmps14
  go_wp2
  go_ret
  exact ⟨rfl, rfl⟩
theorem count_nil (w : World) : Calls Tryd.prog 14 #[.pointer none] w fun e w' => e = .returned (.int .i64 0) ∧ w = w' := by
  go_enter Tryd.func14, Tryd.ntmps14
  go_wp2
  go_ret
  exact ⟨rfl, rfl⟩
end Go.Proofs.YtllicaibgjjidaaDoor

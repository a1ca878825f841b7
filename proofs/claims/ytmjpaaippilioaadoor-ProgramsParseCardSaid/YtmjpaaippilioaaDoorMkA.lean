import Derived.Test.YtmjpaaippilioaaDoorRows
import Derived.Test.YtmjpaaippilioaaDoorGrw
import Derived.Test.YtmjpaaippilioaaDoorSlc
import Derived.WalkKit
import Derived.WalkSpells
import Derived.WalkLawsBesides
import Derived.LoopTactic
import Derived.Laws.BitsAllLaws
import Derived.Laws.BitsLemmas
import Derived.Laws.Bits64b
import Derived.Laws.StructEq
namespace Go.Proofs.YtmjpaaippilioaaDoor
open Go.RowKit

/-- Is a bit there? -/
def bt (w n : Nat) : Bool := decide (w / 2 ^ n % 2 = 1)
def thr (h : Int) : Bool := decide (0 ≤ h) && decide (h < 64)
/-- A lock's word. -/
def putN (l q : Bool) (h : Int) : Nat := (if l then 1 else 0) + (if q then 2 else 0) + (if thr h then 4 * (h.toNat + 1) else 0)
set_option maxRecDepth 100000 in
theorem thr_any (h : Int) (w : World) : Calls Tryd.prog 53 #[.int .i64 h] w fun e w' => e = .returned (.bool (thr h)) ∧ w = w' := by
  have e1 : Hid (thr h = (decide (0 ≤ h) && decide (h < 64))) := rfl
  by_cases h0 : 0 ≤ h
  · go_enter Tryd.func53, Tryd.ntmps53
    go_wp2
    go_ret
    rw [e1.out]
    exact ⟨by simp [h0], rfl⟩
  · have h' : h < 0 := by omega
    go_enter Tryd.func53, Tryd.ntmps53
    go_wp2
    go_ret
    rw [e1.out]
    exact ⟨by simp; omega, rfl⟩
theorem or_c : ∀ k : Nat, k < 65 → ∀ c : Nat, c < 4 → c ||| k * 4 = c + k * 4 := by decide +kernel
theorem or0 (k : Int) (h0 : 0 ≤ k) (h : k < 65) (c : Nat) (hc : c < 4) : bits .or .u64 (c : Int) (k * 4) = (c : Int) + k * 4 := by
  obtain ⟨n, rfl⟩ := Int.eq_ofNat_of_zero_le h0
  have := bits_or_u64_nat c (n * 4) (by omega) (by omega)
  rw [Int.natCast_mul] at this
  rw [show ((4 : Nat) : Int) = 4 from rfl] at this
  rw [this, or_c n (by omega) c hc]
  omega
theorem or01 : bits .or .u64 0 1 = 1 := by decide +kernel
theorem or02 : bits .or .u64 0 2 = 2 := by decide +kernel
theorem or12 : bits .or .u64 1 2 = 3 := by decide +kernel
set_option maxRecDepth 100000 in
theorem put_any (l q : Bool) (h : Int) (w : World) : Calls Tryd.prog 15 #[.agg #[.bool l, .bool q, .int .i64 h]] w fun e w' => e = .returned (.int .u64 (putN l q h : Nat)) ∧ Frm w w' fun _ => False := by
  have r1 := or01
  have r2 := or02
  have r3 := or12
  cases l <;> cases q
  all_goals
    by_cases ht : thr h = true
    · have hb : 0 ≤ h ∧ h < 64 := by simpa [thr] using ht
      have n0 : (0 : Int) ≤ h := hb.1
      have n1 : h < 64 := hb.2
      have o0 : bits .or .u64 0 ((h + 1) * 4) = 0 + (h + 1) * 4 := or0 (h + 1) (by omega) (by omega) 0 (by omega)
      have o1 : bits .or .u64 1 ((h + 1) * 4) = 1 + (h + 1) * 4 := or0 (h + 1) (by omega) (by omega) 1 (by omega)
      have o2 : bits .or .u64 2 ((h + 1) * 4) = 2 + (h + 1) * 4 := or0 (h + 1) (by omega) (by omega) 2 (by omega)
      have o3 : bits .or .u64 3 ((h + 1) * 4) = 3 + (h + 1) * 4 := or0 (h + 1) (by omega) (by omega) 3 (by omega)
      have HT := Lib.hid ht
      clear hb ht
      go_enter Tryd.func15, Tryd.ntmps15
      go_wp2_with (go_at_call 53; refine (thr_any _ _).mono ?_; rw [HT.out]; rintro e w' ⟨rfl, rfl⟩)
      go_ret
      refine ⟨?_, (Frm.refl _ _).alloc _⟩
      have e1 : ∀ l q, putN l q h = (if l then 1 else 0) + (if q then 2 else 0) + (if thr h then 4 * (h.toNat + 1) else 0) := fun _ _ => rfl
      rw [e1, HT.out]
      congr 2
      simp
      omega
    · have HT : Hid (thr h = false) := by show _ = _; simpa using ht
      clear ht
      go_enter Tryd.func15, Tryd.ntmps15
      go_wp2_with (go_at_call 53; refine (thr_any _ _).mono ?_; rw [HT.out]; rintro e w' ⟨rfl, rfl⟩)
      go_ret
      refine ⟨?_, (Frm.refl _ _).alloc _⟩
      have e1 : ∀ l q, putN l q h = (if l then 1 else 0) + (if q then 2 else 0) + (if thr h then 4 * (h.toNat + 1) else 0) := fun _ _ => rfl
      rw [e1, HT.out]
      rfl
set_option maxRecDepth 100000 in
theorem rput_any (l q : Bool) (h : Int) (w : World) : Calls Tryd.prog 16 #[.agg #[.bool l, .bool q, .int .i64 h]] w fun e w' => e = .returned (.int .u64 (putN l q h : Nat)) ∧ Frm w w' fun _ => False := by
  have e1 : ∀ l q, Hid (putN l q h = (if l then 1 else 0) + (if q then 2 else 0) + (if thr h then 4 * (h.toNat + 1) else 0)) := fun _ _ => rfl
  cases l <;> cases q
  all_goals
    by_cases h0 : 0 ≤ h
    · by_cases h1 : h ≤ 63
      · have HT : Hid (thr h = true) := by show _ = _; simp [thr]; omega
        go_enter Tryd.func16, Tryd.ntmps16
        go_wp2
        go_ret
        refine ⟨?_, (Frm.refl _ _).alloc _⟩
        rw [(e1 _ _).out, HT.out]
        congr 2
        simp
        omega
      · have HT : Hid (thr h = false) := by show _ = _; simp [thr]; omega
        go_enter Tryd.func16, Tryd.ntmps16
        go_wp2
        go_ret
        refine ⟨?_, (Frm.refl _ _).alloc _⟩
        rw [(e1 _ _).out, HT.out]
        rfl
    · have h' : h < 0 := by omega
      have HT : Hid (thr h = false) := by show _ = _; simp [thr]; omega
      go_enter Tryd.func16, Tryd.ntmps16
      go_wp2
      go_ret
      refine ⟨?_, (Frm.refl _ _).alloc _⟩
      rw [(e1 _ _).out, HT.out]
      rfl
end Go.Proofs.YtmjpaaippilioaaDoor

import Derived.Test.YtmjpaaippilioaaDoorRows
import Derived.Test.YtmjpaaippilioaaDoorGrw
import Derived.Test.YtmjpaaippilioaaDoorSlc
import Derived.WalkKit
import Derived.WalkSpells
import Derived.WalkLawsBesides
import Derived.LoopTactic
import Derived.Laws.BitsAllLaws
import Derived.Laws.BitsLemmas
import Derived.Laws.Bits64b
import Derived.Laws.StructEq
import Derived.Test.YtmjpaaippilioaaDoorShelf
import Derived.Lib.Walk
import Derived.Lib.ItoaMem
import Derived.Lib.LaidTab
import Derived.BigCall
import Derived.BigGuard
import Derived.Lib.Join
import Derived.Deep.RegionLaw
import Derived.Deep.RegionWith
import Derived.Laws.Concat
namespace Go.Proofs.YtmjpaaippilioaaDoor
open Go.RowKit

/-- Is a bit there? -/
def bt (w n : Nat) : Bool := decide (w / 2 ^ n % 2 = 1)
def thr (h : Int) : Bool := decide (0 ≤ h) && decide (h < 64)
/-- A lock's word. -/
def putN (l q : Bool) (h : Int) : Nat := (if l then 1 else 0) + (if q then 2 else 0) + (if thr h then 4 * (h.toNat + 1) else 0)
set_option maxRecDepth 100000 in
theorem thr_any (h : Int) (w : World) : Calls Tryd.prog 53 #[.int .i64 h] w fun e w' => e = .returned (.bool (thr h)) ∧ w = w' := by
  have e1 : Hid (thr h = (decide (0 ≤ h) && decide (h < 64))) := rfl
  by_cases h0 : 0 ≤ h
  · go_enter Tryd.func53, Tryd.ntmps53
    go_wp2
    go_ret
    rw [e1.out]
    exact ⟨by simp [h0], rfl⟩
  · have h' : h < 0 := by omega
    go_enter Tryd.func53, Tryd.ntmps53
    go_wp2
    go_ret
    rw [e1.out]
    exact ⟨by simp; omega, rfl⟩
theorem or_c : ∀ k : Nat, k < 65 → ∀ c : Nat, c < 4 → c ||| k * 4 = c + k * 4 := by decide +kernel
theorem or0 (k : Int) (h0 : 0 ≤ k) (h : k < 65) (c : Nat) (hc : c < 4) : bits .or .u64 (c : Int) (k * 4) = (c : Int) + k * 4 := by
  obtain ⟨n, rfl⟩ := Int.eq_ofNat_of_zero_le h0
  have := bits_or_u64_nat c (n * 4) (by omega) (by omega)
  rw [Int.natCast_mul] at this
  rw [show ((4 : Nat) : Int) = 4 from rfl] at this
  rw [this, or_c n (by omega) c hc]
  omega
theorem or01 : bits .or .u64 0 1 = 1 := by decide +kernel
theorem or02 : bits .or .u64 0 2 = 2 := by decide +kernel
theorem or12 : bits .or .u64 1 2 = 3 := by decide +kernel
set_option maxRecDepth 100000 in
theorem put_any (l q : Bool) (h : Int) (w : World) : Calls Tryd.prog 15 #[.agg #[.bool l, .bool q, .int .i64 h]] w fun e w' => e = .returned (.int .u64 (putN l q h : Nat)) ∧ Frm w w' fun _ => False := by
  have r1 := or01
  have r2 := or02
  have r3 := or12
  cases l <;> cases q
  all_goals
    by_cases ht : thr h = true
    · have hb : 0 ≤ h ∧ h < 64 := by simpa [thr] using ht
      have n0 : (0 : Int) ≤ h := hb.1
      have n1 : h < 64 := hb.2
      have o0 : bits .or .u64 0 ((h + 1) * 4) = 0 + (h + 1) * 4 := or0 (h + 1) (by omega) (by omega) 0 (by omega)
      have o1 : bits .or .u64 1 ((h + 1) * 4) = 1 + (h + 1) * 4 := or0 (h + 1) (by omega) (by omega) 1 (by omega)
      have o2 : bits .or .u64 2 ((h + 1) * 4) = 2 + (h + 1) * 4 := or0 (h + 1) (by omega) (by omega) 2 (by omega)
      have o3 : bits .or .u64 3 ((h + 1) * 4) = 3 + (h + 1) * 4 := or0 (h + 1) (by omega) (by omega) 3 (by omega)
      have HT := Lib.hid ht
      clear hb ht
      go_enter Tryd.func15, Tryd.ntmps15
      go_wp2_with (go_at_call 53; refine (thr_any _ _).mono ?_; rw [HT.out]; rintro e w' ⟨rfl, rfl⟩)
      go_ret
      refine ⟨?_, (Frm.refl _ _).alloc _⟩
      have e1 : ∀ l q, putN l q h = (if l then 1 else 0) + (if q then 2 else 0) + (if thr h then 4 * (h.toNat + 1) else 0) := fun _ _ => rfl
      rw [e1, HT.out]
      congr 2
      simp
      omega
    · have HT : Hid (thr h = false) := by show _ = _; simpa using ht
      clear ht
      go_enter Tryd.func15, Tryd.ntmps15
      go_wp2_with (go_at_call 53; refine (thr_any _ _).mono ?_; rw [HT.out]; rintro e w' ⟨rfl, rfl⟩)
      go_ret
      refine ⟨?_, (Frm.refl _ _).alloc _⟩
      have e1 : ∀ l q, putN l q h = (if l then 1 else 0) + (if q then 2 else 0) + (if thr h then 4 * (h.toNat + 1) else 0) := fun _ _ => rfl
      rw [e1, HT.out]
      rfl
set_option maxRecDepth 100000 in
theorem rput_any (l q : Bool) (h : Int) (w : World) : Calls Tryd.prog 16 #[.agg #[.bool l, .bool q, .int .i64 h]] w fun e w' => e = .returned (.int .u64 (putN l q h : Nat)) ∧ Frm w w' fun _ => False := by
  have e1 : ∀ l q, Hid (putN l q h = (if l then 1 else 0) + (if q then 2 else 0) + (if thr h then 4 * (h.toNat + 1) else 0)) := fun _ _ => rfl
  cases l <;> cases q
  all_goals
    by_cases h0 : 0 ≤ h
    · by_cases h1 : h ≤ 63
      · have HT : Hid (thr h = true) := by show _ = _; simp [thr]; omega
        go_enter Tryd.func16, Tryd.ntmps16
        go_wp2
        go_ret
        refine ⟨?_, (Frm.refl _ _).alloc _⟩
        rw [(e1 _ _).out, HT.out]
        congr 2
        simp
        omega
      · have HT : Hid (thr h = false) := by show _ = _; simp [thr]; omega
        go_enter Tryd.func16, Tryd.ntmps16
        go_wp2
        go_ret
        refine ⟨?_, (Frm.refl _ _).alloc _⟩
        rw [(e1 _ _).out, HT.out]
        rfl
    · have h' : h < 0 := by omega
      have HT : Hid (thr h = false) := by show _ = _; simp [thr]; omega
      go_enter Tryd.func16, Tryd.ntmps16
      go_wp2
      go_ret
      refine ⟨?_, (Frm.refl _ _).alloc _⟩
      rw [(e1 _ _).out, HT.out]
      rfl
end Go.Proofs.YtmjpaaippilioaaDoor
namespace Go.Proofs.YtmjpaaippilioaaDoor
open Go.RowKit

theorem and_bit (w n : Nat) (hw : w < 18446744073709551616) (hn : n < 64) : (bits .and .u64 (w : Int) ((2 ^ n : Nat) : Int) != 0) = bt w n := by
  have h2 : 2 ^ n < 18446744073709551616 := by
    have := Nat.pow_lt_pow_right (a := 2) (by decide) hn
    exact this
  rw [bits_and_u64_nat w (2 ^ n) hw h2]
  have ht : (w &&& 2 ^ n).testBit n = w.testBit n := by rw [Nat.testBit_and, Nat.testBit_two_pow_self, Bool.and_true]
  have hb : bt w n = w.testBit n := by unfold bt; rw [Nat.testBit_eq_decide_div_mod_eq]
  rw [hb]
  cases h : w.testBit n with
  | true =>
    rw [h] at ht
    have hne : w &&& 2 ^ n ≠ 0 := fun e => by rw [e, Nat.zero_testBit] at ht; cases ht
    simp
    omega
  | false =>
    have hz : w &&& 2 ^ n = 0 := Nat.eq_of_testBit_eq fun i => by
      rw [Nat.testBit_and, Nat.testBit_two_pow, Nat.zero_testBit]
      by_cases hi : n = i
      · subst hi; rw [h]; rfl
      · simp [hi]
    rw [hz]; rfl
theorem shr_nat (w n : Nat) : (w : Int) / ((2 ^ n : Nat) : Int) = ((w / 2 ^ n : Nat) : Int) := by rw [Int.natCast_ediv]
set_option maxRecDepth 100000 in
theorem bit_any (w n : Nat) (hw : (w : Int) ≤ 18446744073709551615) (hn : (n : Int) ≤ 60) (W : World) : Calls Tryd.prog 54 #[.int .u64 w, .int .i64 n] W fun e w' => e = .returned (.bool (bt w n)) ∧ W = w' := by
  have HW := Lib.hid hw
  have HB := Lib.hid (show bt w n = decide (w / 2 ^ n % 2 = 1) from rfl)
  clear hw
  go_enter Tryd.func54, Tryd.ntmps54
  go_wp2_with fail
  go_loop [0, 5] (fun x i => ∃ k : Nat, i = .int .i64 k ∧ k ≤ n ∧ x = .int .u64 (w / 2 ^ k : Nat)) (fun _ i => n - (intOf i).toNat)
  case atStart => exact ⟨0, rfl, Nat.zero_le _, by simp⟩
  case round =>
    obtain ⟨k, rfl, hk, rfl⟩ := hrel
    obtain ⟨x, hx⟩ : ∃ x, w / 2 ^ k = x := ⟨_, rfl⟩
    have hxw : x ≤ w := by rw [← hx]; exact Nat.div_le_self _ _
    have x0 : (0 : Int) ≤ (x : Int) := by omega
    have x1 : (x : Int) ≤ 18446744073709551615 := by have := HW.out; omega
    rw [hx]
    have HX := Lib.hid hx
    clear hx hxw
    by_cases hlt : k < n
    · go_wp2_with fail
      go_round
      case rel => exact ⟨k + 1, by go_num, by omega, by rw [Nat.pow_succ, ← Nat.div_div_eq_div_mul, HX.out]; go_num⟩
      case measure => simp [intOf]; omega
    · obtain rfl : k = n := by omega
      go_wp2_with fail
      go_ret
      rw [HB.out, HX.out]
      refine ⟨?_, rfl⟩
      congr 2
      by_cases h : x % 2 = 1
      · simp [h]; omega
      · simp [h]; omega
set_option maxRecDepth 100000 in
theorem readers_any (w : Nat) (hw : (w : Int) ≤ 18446744073709551615) (W : World) : Calls Tryd.prog 27 #[.int .u64 w] W fun e w' => e = .returned (.int .u64 (w / 16 : Nat)) ∧ W = w' := by
  have w0 : (0 : Int) ≤ (w : Int) := by omega
  go_enter Tryd.func27, Tryd.ntmps27
  go_wp2
  go_ret
  exact ⟨rfl, rfl⟩
set_option maxRecDepth 100000 in
theorem rreaders_any (w : Nat) (hw : (w : Int) ≤ 18446744073709551615) (W : World) : Calls Tryd.prog 28 #[.int .u64 w] W fun e w' => e = .returned (.int .u64 (w / 16 : Nat)) ∧ W = w' := by
  have w0 : (0 : Int) ≤ (w : Int) := by omega
  go_enter Tryd.func28, Tryd.ntmps28
  go_wp2
  go_ret
  exact ⟨rfl, rfl⟩
def asH (w : Nat) : Int := if w / 4 ≤ 64 then ((w / 4 : Nat) : Int) - 1 else -1
set_option maxRecDepth 100000 in
theorem as_any (w : Nat) (hw : (w : Int) ≤ 18446744073709551615) (W : World) : Calls Tryd.prog 18 #[.int .u64 w] W fun e w' => e = .returned (.agg #[.bool (bt w 0), .bool (bt w 1), .int .i64 (asH w)]) ∧ Frm W w' fun _ => False := by
  have w0 : (0 : Int) ≤ (w : Int) := by omega
  have b0 : (bits .and .u64 (w : Int) 1 != 0) = bt w 0 := and_bit w 0 (by omega) (by omega)
  have b1 : (bits .and .u64 (w : Int) 2 != 0) = bt w 1 := and_bit w 1 (by omega) (by omega)
  obtain ⟨x, hx⟩ : ∃ x, bt w 0 = x := ⟨_, rfl⟩
  obtain ⟨y, hy⟩ : ∃ y, bt w 1 = y := ⟨_, rfl⟩
  rw [hx] at b0
  rw [hy] at b1
  have HX := Lib.hid hx
  have HY := Lib.hid hy
  have HA := Lib.hid (show asH w = if w / 4 ≤ 64 then ((w / 4 : Nat) : Int) - 1 else -1 from rfl)
  clear hx hy
  by_cases h : (w : Int) / 4 ≤ 64
  · go_enter Tryd.func18, Tryd.ntmps18
    go_wp2
    refine bodyPost_ret (v := .agg #[.bool x, .bool y, .int .i64 ((w : Int) / 4 - 1)]) (by simp [results, Tryd.results18, go_sem]) rfl ⟨?_, ?_⟩
    · rw [HX.out, HY.out, HA.out, if_pos (by omega)]; rfl
    · exact (((Frm.refl _ _).alloc _).alloc _)
  · have h' : 64 < (w : Int) / 4 := by omega
    go_enter Tryd.func18, Tryd.ntmps18
    go_wp2
    refine bodyPost_ret (v := .agg #[.bool x, .bool y, .int .i64 (-1)]) (by simp [results, Tryd.results18, go_sem]) rfl ⟨?_, ?_⟩
    · rw [HX.out, HY.out, HA.out, if_neg (by omega)]
    · exact (((Frm.refl _ _).alloc _).alloc _)
set_option maxRecDepth 100000 in
theorem ras_any (w : Nat) (hw : (w : Int) ≤ 18446744073709551615) (W : World) : Calls Tryd.prog 19 #[.int .u64 w] W fun e w' => e = .returned (.agg #[.bool (bt w 0), .bool (bt w 1), .int .i64 (asH w)]) ∧ Frm W w' fun _ => False := by
  have w0 : (0 : Int) ≤ (w : Int) := by omega
  have b0 : ∀ V, Calls Tryd.prog 54 #[.int .u64 w, .int .i64 0] V fun e w' => e = .returned (.bool (bt w 0)) ∧ V = w' := fun V => bit_any w 0 hw (by omega) V
  have b1 : ∀ V, Calls Tryd.prog 54 #[.int .u64 w, .int .i64 1] V fun e w' => e = .returned (.bool (bt w 1)) ∧ V = w' := fun V => bit_any w 1 hw (by omega) V
  have B0 := Lib.hid b0
  have B1 := Lib.hid b1
  have HA := Lib.hid (show asH w = if w / 4 ≤ 64 then ((w / 4 : Nat) : Int) - 1 else -1 from rfl)
  clear b0 b1
  by_cases h : (w : Int) / 4 ≤ 64
  · go_enter Tryd.func19, Tryd.ntmps19
    go_wp2_with (first
      | (go_at_call 54; (with_reducible refine (B0.out _).mono ?_); rintro e w' ⟨rfl, rfl⟩)
      | (go_at_call 54; (with_reducible refine (B1.out _).mono ?_); rintro e w' ⟨rfl, rfl⟩))
    refine bodyPost_ret (v := .agg #[.bool (bt w 0), .bool (bt w 1), .int .i64 ((w : Int) / 4 - 1)]) (by simp [results, Tryd.results19, go_sem]) rfl ⟨?_, ?_⟩
    · rw [HA.out, if_pos (by omega)]; rfl
    · exact ((Frm.refl _ _).alloc _)
  · have h' : 64 < (w : Int) / 4 := by omega
    go_enter Tryd.func19, Tryd.ntmps19
    go_wp2_with (first
      | (go_at_call 54; (with_reducible refine (B0.out _).mono ?_); rintro e w' ⟨rfl, rfl⟩)
      | (go_at_call 54; (with_reducible refine (B1.out _).mono ?_); rintro e w' ⟨rfl, rfl⟩))
    refine bodyPost_ret (v := .agg #[.bool (bt w 0), .bool (bt w 1), .int .i64 (-1)]) (by simp [results, Tryd.results19, go_sem]) rfl ⟨?_, ?_⟩
    · rw [HA.out, if_neg (by omega)]
    · exact ((Frm.refl _ _).alloc _)
/-- May a word be? -/
def mayN (w : Nat) : Bool := !(bt w 2 && bt w 3) && (!(bt w 2) || decide (0 < w / 16)) && (!(bt w 1) || bt w 3)
set_option maxRecDepth 100000 in
theorem may_any (w : Nat) (hw : (w : Int) ≤ 18446744073709551615) (W : World) : Calls Tryd.prog 29 #[.int .u64 w] W fun e w' => e = .returned (.bool (mayN w)) ∧ W = w' := by
  have w0 : (0 : Int) ≤ (w : Int) := by omega
  have b1 : (bits .and .u64 (w : Int) 2 != 0) = bt w 1 := and_bit w 1 (by omega) (by omega)
  have b2 : (bits .and .u64 (w : Int) 4 != 0) = bt w 2 := and_bit w 2 (by omega) (by omega)
  have b3 : (bits .and .u64 (w : Int) 8 != 0) = bt w 3 := and_bit w 3 (by omega) (by omega)
  have HM := Lib.hid (show mayN w = (!(bt w 2 && bt w 3) && (!(bt w 2) || decide (0 < w / 16)) && (!(bt w 1) || bt w 3)) from rfl)
  obtain ⟨r, hr⟩ : ∃ r, w / 16 = r := ⟨_, rfl⟩
  have r0 : (0 : Int) ≤ (r : Int) := by omega
  have HRD := Lib.hid (fun V => readers_any w hw V)
  have HR := Lib.hid hr
  clear hr
  rcases (show bt w 1 = true ∨ bt w 1 = false by cases bt w 1 <;> simp) with x1 | x1 <;> rcases (show bt w 2 = true ∨ bt w 2 = false by cases bt w 2 <;> simp) with x2 | x2 <;> rcases (show bt w 3 = true ∨ bt w 3 = false by cases bt w 3 <;> simp) with x3 | x3
  all_goals
    rw [x1] at b1
    rw [x2] at b2
    rw [x3] at b3
    have X1 := Lib.hid x1
    have X2 := Lib.hid x2
    have X3 := Lib.hid x3
    clear x1 x2 x3
    by_cases hrp : (0 : Int) < (r : Int)
    all_goals
      go_enter Tryd.func29, Tryd.ntmps29
      go_wp2_with (go_at_call 27; refine (HRD.out _).mono ?_; rw [HR.out]; rintro e w' ⟨rfl, rfl⟩)
      go_ret
      refine ⟨?_, rfl⟩
      rw [HM.out, X1.out, X2.out, X3.out, HR.out]
      first | rfl | (simp; done) | (simp; omega)
set_option maxRecDepth 100000 in
theorem rmay_any (w : Nat) (hw : (w : Int) ≤ 18446744073709551615) (W : World) : Calls Tryd.prog 30 #[.int .u64 w] W fun e w' => e = .returned (.bool (mayN w)) ∧ W = w' := by
  have HM := Lib.hid (show mayN w = (!(bt w 2 && bt w 3) && (!(bt w 2) || decide (0 < w / 16)) && (!(bt w 1) || bt w 3)) from rfl)
  have b1 : ∀ V, Calls Tryd.prog 54 #[.int .u64 w, .int .i64 1] V fun e w' => e = .returned (.bool (bt w 1)) ∧ V = w' := fun V => bit_any w 1 hw (by omega) V
  have b2 : ∀ V, Calls Tryd.prog 54 #[.int .u64 w, .int .i64 2] V fun e w' => e = .returned (.bool (bt w 2)) ∧ V = w' := fun V => bit_any w 2 hw (by omega) V
  have b3 : ∀ V, Calls Tryd.prog 54 #[.int .u64 w, .int .i64 3] V fun e w' => e = .returned (.bool (bt w 3)) ∧ V = w' := fun V => bit_any w 3 hw (by omega) V
  have B1 := Lib.hid b1
  have B2 := Lib.hid b2
  have B3 := Lib.hid b3
  obtain ⟨r, hr⟩ : ∃ r, w / 16 = r := ⟨_, rfl⟩
  have r0 : (0 : Int) ≤ (r : Int) := by omega
  have HRD := Lib.hid (fun V => rreaders_any w hw V)
  have HR := Lib.hid hr
  clear hr b1 b2 b3
  rcases (show bt w 1 = true ∨ bt w 1 = false by cases bt w 1 <;> simp) with x1 | x1 <;> rcases (show bt w 2 = true ∨ bt w 2 = false by cases bt w 2 <;> simp) with x2 | x2 <;> rcases (show bt w 3 = true ∨ bt w 3 = false by cases bt w 3 <;> simp) with x3 | x3
  all_goals
    have X1 := Lib.hid x1
    have X2 := Lib.hid x2
    have X3 := Lib.hid x3
    clear x1 x2 x3
    by_cases hrp : (r : Int) = 0
    all_goals
      go_enter Tryd.func30, Tryd.ntmps30
      go_wp2_with (first
        | (go_at_call 28; refine (HRD.out _).mono ?_; rw [HR.out]; rintro e w' ⟨rfl, rfl⟩)
        | (go_at_call 54; (with_reducible refine (B1.out _).mono ?_); rw [X1.out]; rintro e w' ⟨rfl, rfl⟩)
        | (go_at_call 54; (with_reducible refine (B2.out _).mono ?_); rw [X2.out]; rintro e w' ⟨rfl, rfl⟩)
        | (go_at_call 54; (with_reducible refine (B3.out _).mono ?_); rw [X3.out]; rintro e w' ⟨rfl, rfl⟩))
      go_ret
      refine ⟨?_, rfl⟩
      rw [HM.out, X1.out, X2.out, X3.out, HR.out]
      first | rfl | (simp; done) | (simp; omega)
end Go.Proofs.YtmjpaaippilioaaDoor
namespace Go.Proofs.YtmjpaaippilioaaDoor
open Go.RowKit Go.Sort

theorem gPow : Tryd.prog.globalNamed "internal/strconv.uint64pow10" = some 5 := by kernel_rfl
/-- The table of the powers of ten lies as the library lays it. -/
def Pow (w : World) : Prop := Lib.TabIs Tryd.prog w "internal/strconv.uint64pow10" .u64 Lib.pow10Tab
theorem Pow.frm {w w' : World} {S : Nat → Prop} (h : Pow w) (hf : Frm w w' S) (hS : ¬ S 5) : Pow w' := by
  unfold Pow Lib.TabIs World.var? at h ⊢
  rw [gPow] at h ⊢
  simp only [Option.bind_some] at h ⊢
  have hlt : 5 < w.heap.size := by
    rcases Nat.lt_or_ge 5 w.heap.size with h' | h'
    · exact h'
    · rw [Array.getElem?_eq_none h'] at h; cases h
  rw [hf.block 5 hlt hS]
  exact h
theorem zeros_at0 (w : World) (nd : Nat) (hs : nd ≤ 24) : Holds (fun (b : UInt8) => Value.int .u8 (b.toNat : Int)) (w.alloc (.cells Lib.zeros24 139)) w.heap.size 0 (Array.replicate nd (0 : UInt8)) := fun j hj => by
  have hj' : j < nd := by simpa using hj
  refine ⟨?_, World.frozen?_alloc_new _ _ _ _⟩
  rw [World.cell?_alloc_new, Lib.zeros24_at _ (by omega), getElem!_pos _ j hj]
  simp
theorem frm_row (w : World) (o : Obj) (dk : Array UInt8) (k : Nat) : Frm w ((putRow (fun (b : UInt8) => Value.int .u8 (b.toNat : Int)) (w.alloc o) w.heap.size 0 dk).drewN k) fun _ => False := by
  rw [alloc_eq_grow]
  obtain ⟨os', _, e⟩ := putRow_grow_new (fun (b : UInt8) => Value.int .u8 (b.toNat : Int)) w #[o] w.heap.size 0 dk (Nat.le_refl _)
  rw [e]
  exact ⟨rfl, rfl, rfl, by show w.heap.size ≤ (w.heap ++ os').size; rw [Array.size_append]; omega, fun j hj _ => heap_grow_old w os' hj⟩
set_option maxHeartbeats 4000000 in
set_option maxRecDepth 100000 in
theorem uint_in (u : Nat) (hu : (u : Int) ≤ 18446744073709551615) (w : World) (ht : Pow w) :
    Calls Tryd.prog 82 #[.int .u64 u, .int .i64 10] w fun e w' => e = .returned (.string ⟨(Lib.decDigits u).toArray⟩) ∧ Frm w w' fun _ => False := by
  have u0 : (0 : Int) ≤ (u : Int) := by omega
  by_cases hs : u < 100
  · have HS := Lib.hid hs
    have hs' : (u : Int) < 100 := by omega
    go_enter Tryd.func82, Tryd.ntmps82
    go_wp2_with (go_at_call 90; refine (Tryd.internal_strconv_small u HS.out _).mono ?_; rintro e w' ⟨rfl, rfl⟩)
    go_ret
    exact ⟨rfl, Frm.refl _ _⟩
  · have hu1 : 1 ≤ u := by omega
    have hu64 : u < 18446744073709551616 := by omega
    have hnd20 : Lib.nDigits u ≤ 20 := by have := Lib.numDigits_eq u hu1 hu64; split at this <;> omega
    have hb3 : Lib.nDigits u ≤ 24 := by omega
    have hal : Tryd.prog.arrayLen 139 = 24 := by kernel_rfl
    have hsl1 : ∀ W, (Instr.sliceAt 139 (.pointer (some ⟨w.heap.size, 0, none⟩)) none (some (.int .i64 (Lib.nDigits u : Int))) none).run Tryd.prog W = .ok (.slice (some ⟨w.heap.size, 0, none⟩) (Lib.nDigits u) 24) W := fun W => by
      rw [run_sliceAt_array_h W 139 ⟨w.heap.size, 0, none⟩ (by kernel_rfl) .i64 (Lib.nDigits u : Int) (by omega) (by rw [hal]; omega)]
      go_simp
    have hH0 := zeros_at0 w (Lib.nDigits u) (by omega)
    have hfmt := Tryd.internal_strconv_formatBase10 w.heap.size 0 24 u (Array.replicate (Lib.nDigits u) 0) (w.alloc (.cells Lib.zeros24 139)) hH0 (by rw [Array.size_replicate]; exact Lib.lt_pow_nDigits u) hu64 (by rw [Array.size_replicate]; omega)
    rw [Array.size_replicate] at hfmt
    have HH0 := Lib.hid hH0
    have HF := Lib.hid hfmt
    have HT := Lib.hid ht
    have h100 : ¬ (u : Int) < 100 := by omega
    clear hH0 hal hfmt ht hs
    go_enter Tryd.func82, Tryd.ntmps82
    go_wp2_with (first
      | (go_at_call 91; refine (Tryd.internal_strconv_numDigits u hu1 hu64 _ (Lib.tabIs_alloc HT.out _)).mono ?_; rintro e w' ⟨rfl, rfl⟩))
    go_at_call 92
    refine HF.out.mono ?_
    rintro e w' ⟨rfl, k, v', dk, rfl, hF⟩
    have hcv : (convert 38 9 (.slice (some ⟨w.heap.size, 0, none⟩) (Lib.nDigits u) 24)).run Tryd.prog ((putRow (fun (b : UInt8) => Value.int .u8 (b.toNat : Int)) (w.alloc (.cells Lib.zeros24 139)) w.heap.size 0 dk).drewN k) = .ok (.string ⟨(Lib.decDigits u).toArray⟩) ((putRow (fun (b : UInt8) => Value.int .u8 (b.toNat : Int)) (w.alloc (.cells Lib.zeros24 139)) w.heap.size 0 dk).drewN k) := by
      have h := run_convert_bytes_back (P := Tryd.prog) ((putRow (fun (b : UInt8) => Value.int .u8 (b.toNat : Int)) (w.alloc (.cells Lib.zeros24 139)) w.heap.size 0 dk).drewN k) 38 9 5 ⟨w.heap.size, 0, none⟩ 24 (Lib.decDigits u) Tryd.underlying38 Tryd.underlying5 Tryd.underlying9 (fun j hj => by
        rw [Lib.row_is_numeral hF j hj, Lib.add_plain, World.cell?_drewN]
        exact cell?_putRow (fun (b : UInt8) => Value.int .u8 (b.toNat : Int)) _ w.heap.size 0 _ dk HH0.out (by rw [hF.size, Array.size_replicate]) j (by rw [hF.size]; rw [Lib.decDigits_length] at hj; exact hj))
      rw [Lib.decDigits_length] at h
      exact h
    go_wp2
    go_ret
    exact ⟨rfl, frm_row w _ dk k⟩
set_option maxRecDepth 100000 in
theorem uint_any (u : Nat) (hu : (u : Int) ≤ 18446744073709551615) (w : World) (ht : Pow w) :
    Calls Tryd.prog 59 #[.int .u64 u, .int .i64 10] w fun e w' => e = .returned (.string ⟨(Lib.decDigits u).toArray⟩) ∧ Frm w w' fun _ => False := by
  go_enter Tryd.func59, Tryd.ntmps59
  go_wp2_with (go_at_call 82; refine (uint_in u hu _ ht).mono ?_; rintro e w' ⟨rfl, hf⟩)
  go_ret
  exact ⟨rfl, hf⟩
end Go.Proofs.YtmjpaaippilioaaDoor
namespace Go.Proofs.YtmjpaaippilioaaDoor
open Go.RowKit

/-- Of a list those of some places. -/
def sel {α : Type} (so : Nat → Bool) (xs : List α) (k : Nat) : List α := ((xs.take k).zipIdx.filter fun p => so p.2).map (·.1)
section
variable {α : Type}
theorem sel_zero (so : Nat → Bool) (xs : List α) : sel so xs 0 = [] := rfl
theorem sel_succ (so : Nat → Bool) (xs : List α) (k : Nat) (h : k < xs.length) : sel so xs (k + 1) = sel so xs k ++ if so k then [xs[k]] else [] := by
  unfold sel
  rw [List.take_succ_eq_append_getElem h, List.zipIdx_append, List.filter_append, List.map_append]
  congr 1
  have : (xs.take k).length = k := by rw [List.length_take]; omega
  simp [this, List.filter_cons]
  split <;> simp
theorem sel_le (so : Nat → Bool) (xs : List α) (k : Nat) : (sel so xs k).length ≤ k := by
  unfold sel
  rw [List.length_map]
  refine Nat.le_trans (List.length_filter_le _ _) ?_
  rw [List.length_zipIdx, List.length_take]
  omega
end
/-- Strings as cells. -/
def strs (xs : List ByteArray) : List Value := xs.map Value.string
theorem strs_len (xs : List ByteArray) : (strs xs).length = xs.length := List.length_map _
theorem strs_app (xs ys : List ByteArray) : strs (xs ++ ys) = strs xs ++ strs ys := List.map_append
theorem strs_one (xs : List ByteArray) : ∀ u ∈ strs xs, u.oneCell' = true := by
  intro u hu
  obtain ⟨s, _, rfl⟩ := List.mem_map.1 hu
  rfl
theorem info9 : (Tryd.prog.info? 9).map (fun i => (i.zero, i.size, i.bytes)) = some (some (.string ⟨#[]⟩), 1, 16) := by kernel_rfl
theorem Rd.strs {w : World} {B n : Nat} {A : Option Addr} {xs : List ByteArray} (h : Rd w B 1 A n (strs xs)) : n = xs.length ∧ (0 < n → ∃ g off, A = some ⟨g, off, none⟩ ∧ g < B ∧ ∀ i (hi : i < xs.length), w.cell? ⟨g, off + i, none⟩ = some (.string xs[i])) := by
  have hl := h.1
  rw [strs_len, Nat.mul_one] at hl
  refine ⟨hl.symm, fun hp => ?_⟩
  obtain ⟨g, off, e, hb, hc⟩ := h.2 (by rw [strs_len]; omega)
  exact ⟨g, off, e, hb, fun i hi => hc i _ (by unfold Go.Proofs.YtmjpaaippilioaaDoor.strs; rw [List.getElem?_map, List.getElem?_eq_getElem hi]; rfl)⟩
theorem Rd.fresh_at (w : World) (t : TypeId) (c : Array Value) {size n g : Nat} (hn : c.size = n * size) (hg : g = w.heap.size) : Rd (w.alloc (.cells c t)) (w.alloc (.cells c t)).heap.size size (some ⟨g, 0, none⟩) n c.toList := by subst hg; exact Rd.fresh w t c hn
def bytesOf' (s : ByteArray) : List UInt8 := s.data.toList
/-- Names, joined; none: "0". -/
def textB (l : List ByteArray) : ByteArray := if l = [] then ⟨#[48]⟩ else ⟨(Lib.join (l.map bytesOf') [43]).toArray⟩
theorem shr_bt (u k : Nat) (hu : u < 18446744073709551616) : bits .and .u64 ((u : Int) / (2 : Int) ^ k) 1 = if bt u k then 1 else 0 := by
  have h2 : (u : Int) / (2 : Int) ^ k = ((u / 2 ^ k : Nat) : Int) := by
    rw [Int.natCast_ediv]; congr 1
  have hle : u / 2 ^ k ≤ u := Nat.div_le_self _ _
  rw [h2, show (1 : Int) = ((1 : Nat) : Int) from rfl, bits_and_u64_nat _ 1 (by omega) (by omega), Nat.and_one_is_mod]
  unfold bt
  by_cases h : u / 2 ^ k % 2 = 1
  · simp [h]
  · have : u / 2 ^ k % 2 = 0 := by omega
    simp [this]
set_option maxRecDepth 100000 in
set_option maxHeartbeats 1000000 in
theorem named_any (u : Nat) (A X : Option Addr) (n c m cx : Nat) (xs ys : List ByteArray) (w : World) (hu : (u : Int) ≤ 18446744073709551615) (hr : Rd w w.heap.size 1 A n (strs xs)) (hy : Rd w w.heap.size 1 X m (strs ys)) (hn : (n : Int) ≤ 50) (hm : (m : Int) ≤ 50)
    (hl : (Lib.join ((sel (bt u) xs n ++ ys).map bytesOf') [43]).length ≤ 140737488355328) :
    Calls Tryd.prog 55 #[.int .u64 u, .slice A n c, .slice X m cx] w fun e w' => e = .returned (.string (textB (sel (bt u) xs n ++ ys))) ∧ Frm w w' fun _ => False := by
  obtain ⟨hlen, hcells⟩ := Rd.strs hr
  have HR := Lib.hid hr
  have HY := Lib.hid hy
  have HL := Lib.hid hlen
  have HCE := Lib.hid hcells
  have HJ := Lib.hid hl
  have HU := Lib.hid hu
  have u0 : (0 : Int) ≤ (u : Int) := by omega
  obtain ⟨i9, hi, hz0, hz1, hz2⟩ := info_parts info9
  clear hr hy hlen hcells hl
  go_enter Tryd.func55, Tryd.ntmps55
  go_wp2_with fail
  go_loopw [7, 8, 9, 12] (fun o _ _ i wr => ∃ (k : Nat) (Ao : Option Addr) (co l : Nat), i = .int .i64 k ∧ k ≤ n ∧ o = .slice Ao l co ∧ l ≤ k ∧ Sl wr w.heap.size 1 Ao l co (strs (sel (bt u) xs k)) ∧ Frm w wr fun _ => False) (fun _ _ _ i _ => n - (intOf i).toNat)
  case atStart => exact ⟨0, none, 0, 0, rfl, Nat.zero_le _, rfl, Nat.le_refl _, Sl.nil _ _ _, Frm.refl _ _⟩
  case round =>
    obtain ⟨k, Ao, co, l, rfl, hk, rfl, hlk, hS, hF⟩ := hrel
    have S := Lib.hid hS
    have F := Lib.hid hF
    clear hS hF
    by_cases hlt : k < n
    · obtain ⟨g, off, rfl, hg, hcell⟩ := HCE.out (by omega)
      have hkl : k < xs.length := by have := HL.out; omega
      have q0 := F.out.cell (hcell k hkl) id
      obtain ⟨x, hx⟩ : ∃ x, xs[k] = x := ⟨_, rfl⟩
      rw [hx] at q0
      have HX := Lib.hid hx
      have i0 : (0 : Int) ≤ (k : Int) := by omega
      have i1 : (k : Int) < (n : Int) := by omega
      have i2 : (k : Int) ≤ 50 := by omega
      clear hx hcell
      obtain ⟨h63, hby⟩ : l + 1 ≤ maxLen ∧ (l + 1) * 16 ≤ 140737488355328 := by unfold maxLen; omega
      have eb := shr_bt u k (by omega)
      cases hb : bt u k with
      | true =>
        rw [hb] at eb
        have e1 : (bits .and .u64 ((u : Int) / 2 ^ k) 1 == 1) = true := by rw [eb]; rfl
        have HB := Lib.hid hb
        clear eb hb
        go_wp2_with (first
          | (at_builtin; refine wpList_append_sl _ rfl (.tmp 22) (.tmp 24) 84 rfl w.heap.size 9 i9 _ 1 16 Tryd.underlying84 hi hz0 hz1 hz2 rfl (by decide) _ _ _ _ rfl (S.out.alloc _) _ 1 1 [.string x] rfl (Rd.fresh_at _ 9 #[.string x] rfl rfl) (by intro u hu; simp at hu; subst hu; rfl) h63 hby (Nat.le_trans F.out.size (by simp)) ?_; intro A' cap' w3 hap; replace hap := Lib.hid hap))
        go_roundw
        case rel =>
          obtain ⟨hs3, hf3, hA3⟩ := hap.out
          refine ⟨k + 1, A', cap', l + 1, by go_num, by omega, rfl, by omega, ?_, ?_⟩
          · rw [sel_succ _ xs k hkl, HB.out, strs_app, HX.out]; exact hs3
          · exact (F.out.then_ ((Frm.refl _ _).alloc _)).fresh hf3 (fun j hj => (S.out.ge hj).1)
        case measure => simp [intOf]; omega
      | false =>
        rw [hb] at eb
        have e1 : (bits .and .u64 ((u : Int) / 2 ^ k) 1 == 1) = false := by rw [eb]; rfl
        have HB := Lib.hid hb
        clear eb hb
        go_wp2_with fail
        go_roundw
        case rel => exact ⟨k + 1, Ao, co, l, by go_num, by omega, rfl, by omega, by rw [sel_succ _ xs k hkl, HB.out]; simpa using S.out, F.out⟩
        case measure => simp [intOf]; omega
    · obtain rfl : k = n := by omega
      obtain ⟨h63, hby⟩ : l + m ≤ maxLen ∧ (l + m) * 16 ≤ 140737488355328 := by unfold maxLen; omega
      have hll : (sel (bt u) xs k).length = l := by have := S.out.len; rw [strs_len] at this; omega
      have HLL := Lib.hid hll
      have hml := (Rd.strs HY.out).1
      have HML := Lib.hid hml
      clear hll hml
      by_cases h0 : l + m = 0
      · obtain ⟨rfl, rfl⟩ : l = 0 ∧ m = 0 := by omega
        clear h0
        go_wp2_with (first
          | (at_builtin; refine wpList_append_sl _ rfl (.tmp 27) (.tmp 28) 84 rfl w.heap.size 9 i9 _ 1 16 Tryd.underlying84 hi hz0 hz1 hz2 rfl (by decide) _ _ _ _ rfl S.out _ _ _ (strs ys) rfl (HY.out.new_ F.out) (strs_one _) h63 hby F.out.size ?_; intro A' cap' w3 hap; replace hap := Lib.hid hap))
        go_ret
        obtain ⟨hs3, hf3, hA3⟩ := hap.out
        refine ⟨?_, F.out.fresh hf3 (fun j hj => (S.out.ge hj).1)⟩
        rw [List.eq_nil_of_length_eq_zero HLL.out, List.eq_nil_of_length_eq_zero HML.out.symm]
        rfl
      · have h0' : ¬ ((l : Int) + (m : Int) = 0) := by omega
        have h1' : (((l : Int) + (m : Int)) == 0) = false := by simp; omega
        have h2' : ¬ (l = 0 ∧ m = 0) := by omega
        go_wp2_with (first
          | (at_builtin; refine wpList_append_sl _ rfl (.tmp 27) (.tmp 28) 84 rfl w.heap.size 9 i9 _ 1 16 Tryd.underlying84 hi hz0 hz1 hz2 rfl (by decide) _ _ _ _ rfl S.out _ _ _ (strs ys) rfl (HY.out.new_ F.out) (strs_one _) h63 hby F.out.size ?_; intro A' cap' w3 hap; replace hap := Lib.hid hap))
        obtain ⟨hs3, hf3, hA3⟩ := hap.out
        have hF3 := Lib.hid (F.out.fresh hf3 (fun j hj => (S.out.ge hj).1))
        have hle := hs3.le
        obtain ⟨g', off', rfl, _, hlt', hc', _⟩ := hs3.form (by omega)
        rw [← strs_app] at hc'
        have hlen : (sel (bt u) xs k ++ ys).length = l + m := by rw [List.length_append, HLL.out, ← HML.out]
        have hj := Tryd.strings_Join g' off' cap' (sel (bt u) xs k ++ ys) ⟨#[43]⟩ w3 (fun j y hy => hc' j _ (by unfold strs; rw [List.getElem?_map, hy]; rfl)) hlt' (by omega) (by omega) HJ.out
        rw [hlen] at hj
        have HLEN := Lib.hid hlen
        have HJJ := Lib.hid hj
        clear hs3 hf3 hA3 hle hlt' hc' hlen hj hap
        refine HJJ.out.mono ?_
        rintro e w4 ⟨rfl, hb4⟩
        have F4 := Lib.hid (hF3.out.then_ (S := fun _ => False) ⟨hb4.os, hb4.tape, hb4.output, hb4.size, fun j hj _ => hb4.block j hj⟩)
        clear hb4
        go_wp2_with fail
        go_ret
        refine ⟨?_, F4.out⟩
        have hne : sel (bt u) xs k ++ ys ≠ [] := fun e => by have := HLEN.out; rw [e] at this; simp at this; omega
        unfold textB
        rw [if_neg hne, List.map_append]
        rfl
/-- What is told of bits without names. -/
def restL (u nb : Nat) : List ByteArray := if u / 2 ^ nb = 0 then [] else [⟨(Lib.decDigits (u / 2 ^ nb * 2 ^ nb)).toArray⟩]
theorem shl_cut (u nb : Nat) (hu : u < 18446744073709551616) : u / 2 ^ nb * 2 ^ nb < 18446744073709551616 := Nat.lt_of_le_of_lt (Nat.div_mul_le_self _ _) hu
set_option maxRecDepth 100000 in
theorem rest_any (u nb : Nat) (w : World) (hu : (u : Int) ≤ 18446744073709551615) (hn : nb = 2 ∨ nb = 4) (hp : Pow w) :
    Calls Tryd.prog 56 #[.int .u64 u, .int .i64 nb] w fun e w' => ∃ A, e = .returned (.slice A (restL u nb).length (restL u nb).length) ∧ Rd w' w'.heap.size 1 A (restL u nb).length (strs (restL u nb)) ∧ Frm w w' fun _ => False := by
  have u0 : (0 : Int) ≤ (u : Int) := by omega
  have HP := Lib.hid hp
  clear hp
  rcases hn with rfl | rfl
  all_goals
    obtain ⟨x, hx⟩ : ∃ x : Nat, u / 2 ^ 2 = x := ⟨_, rfl⟩
    obtain ⟨y, hy⟩ : ∃ y : Nat, u / 2 ^ 4 = y := ⟨_, rfl⟩
    have x1 : (u : Int) / 4 = (x : Int) := by omega
    have y1 : (u : Int) / 16 = (y : Int) := by omega
    have x2 : (x : Int) * 4 ≤ 18446744073709551615 := by omega
    have y2 : (y : Int) * 16 ≤ 18446744073709551615 := by omega
    have HX := Lib.hid hx
    have HY := Lib.hid hy
    clear hx hy
  · by_cases h0 : x = 0
    · subst h0
      have HR : Hid (restL u 2 = []) := by show _ = _; unfold restL; rw [HX.out, if_pos rfl]
      go_enter Tryd.func56, Tryd.ntmps56
      go_wp2_with fail
      go_ret
      rw [HR.out]
      exact ⟨none, rfl, Rd.nil _ _ _ _, Frm.refl _ _⟩
    · have h1 : ¬ ((x : Int) * 4 = 0) := by omega
      have h2 : (((x : Int) * 4) == 0) = false := by simp; omega
      have h3 : ((x : Int) == 0) = false := by simp; omega
      have HR : Hid (restL u 2 = [⟨(Lib.decDigits (x * 4)).toArray⟩]) := by show _ = _; unfold restL; rw [HX.out, if_neg h0]
      have hU := uint_any (x * 4) (by omega) w HP.out
      rw [Int.natCast_mul] at hU
      have HU := Lib.hid hU
      clear hU h0
      go_enter Tryd.func56, Tryd.ntmps56
      go_wp2_with (go_at_call 59; refine HU.out.mono ?_; rintro e w2 ⟨rfl, hf2⟩)
      go_ret
      rw [HR.out]
      exact ⟨_, rfl, Rd.fresh_at _ 9 #[_] rfl rfl, hf2.alloc _⟩
  · by_cases h0 : y = 0
    · subst h0
      have HR : Hid (restL u 4 = []) := by show _ = _; unfold restL; rw [HY.out, if_pos rfl]
      go_enter Tryd.func56, Tryd.ntmps56
      go_wp2_with fail
      go_ret
      rw [HR.out]
      exact ⟨none, rfl, Rd.nil _ _ _ _, Frm.refl _ _⟩
    · have h1 : ¬ ((y : Int) * 16 = 0) := by omega
      have h2 : (((y : Int) * 16) == 0) = false := by simp; omega
      have h3 : ((y : Int) == 0) = false := by simp; omega
      have HR : Hid (restL u 4 = [⟨(Lib.decDigits (y * 16)).toArray⟩]) := by show _ = _; unfold restL; rw [HY.out, if_neg h0]
      have hU := uint_any (y * 16) (by omega) w HP.out
      rw [Int.natCast_mul] at hU
      have HU := Lib.hid hU
      clear hU h0
      go_enter Tryd.func56, Tryd.ntmps56
      go_wp2_with (go_at_call 59; refine HU.out.mono ?_; rintro e w2 ⟨rfl, hf2⟩)
      go_ret
      rw [HR.out]
      exact ⟨_, rfl, Rd.fresh_at _ 9 #[_] rfl rfl, hf2.alloc _⟩
end Go.Proofs.YtmjpaaippilioaaDoor
namespace Go.Proofs.YtmjpaaippilioaaDoor
open Go.RowKit

def mutexN : List ByteArray := [⟨#[108, 111, 99, 107, 101, 100]⟩, ⟨#[112, 97, 114, 107, 101, 100]⟩]
def rwN : List ByteArray := [⟨#[112, 97, 114, 107, 101, 100]⟩, ⟨#[119, 97, 105, 116, 115]⟩, ⟨#[117, 112, 103, 114]⟩, ⟨#[119, 114, 105, 116, 101, 114]⟩]
def onceN : List ByteArray := [⟨#[100, 111, 110, 101]⟩, ⟨#[112, 111, 105, 115, 111, 110]⟩, ⟨#[108, 111, 99, 107, 101, 100]⟩, ⟨#[112, 97, 114, 107, 101, 100]⟩]
/-- The variables lie as the program's text lays them. -/
structure Mk (w : World) : Prop where
  pow : Pow w
  t0 : Rd w w.heap.size 1 (some ⟨0, 0, none⟩) 2 (strs mutexN)
  t1 : Rd w w.heap.size 1 (some ⟨1, 0, none⟩) 4 (strs rwN)
  t2 : Rd w w.heap.size 1 (some ⟨2, 0, none⟩) 4 (strs onceN)
theorem Mk.new_ {w w' : World} (h : Mk w) (hf : Frm w w' fun _ => False) : Mk w' := ⟨h.pow.frm hf id, h.t0.new_ hf, h.t1.new_ hf, h.t2.new_ hf⟩
set_option maxRecDepth 100000 in
theorem cut85 (W : World) : (Instr.sliceAt 85 (.pointer (some ⟨0, 0, none⟩)) none none none).run Tryd.prog W = .ok (.slice (some ⟨0, 0, none⟩) 2 2) W := by
  rw [run_sliceAt_array_all W 85 ⟨0, 0, none⟩ (by kernel_rfl)]
  rw [show Tryd.prog.arrayLen 85 = 2 from by kernel_rfl]
  rfl
set_option maxRecDepth 100000 in
theorem cut88 (g : Nat) (W : World) : (Instr.sliceAt 88 (.pointer (some ⟨g, 0, none⟩)) none none none).run Tryd.prog W = .ok (.slice (some ⟨g, 0, none⟩) 4 4) W := by
  rw [run_sliceAt_array_all W 88 ⟨g, 0, none⟩ (by kernel_rfl)]
  rw [show Tryd.prog.arrayLen 88 = 4 from by kernel_rfl]
  rfl
theorem dec_len (u : Nat) (hu : u ≤ 18446744073709551615) : (Lib.decDigits u).length ≤ 20 := by
  rw [Lib.decDigits_length]
  by_cases h : 1 ≤ u
  · have := Lib.numDigits_eq u h (by omega); split at this <;> omega
  · obtain rfl : u = 0 := by omega
    decide +kernel
theorem join_le (l : List (List UInt8)) (s : List UInt8) : (Lib.join l s).length ≤ (l.map fun x => x.length + s.length).sum := by
  cases l with
  | nil => simp [Lib.join]
  | cons x r =>
    rw [Lib.join_cons, Lib.joinTail]
    simp only [List.length_append, List.length_flatten, List.map_map, List.map_cons, List.sum_cons]
    have : ∀ r : List (List UInt8), (r.map (List.length ∘ fun x => s ++ x)).sum = (r.map fun x => x.length + s.length).sum := by
      intro r
      congr 1
      refine List.map_congr_left fun y _ => ?_
      simp [Nat.add_comm]
    rw [this]; omega
theorem sum_le (l : List (List UInt8)) (f : List UInt8 → Nat) (b : Nat) (h : ∀ x ∈ l, f x ≤ b) : (l.map f).sum ≤ l.length * b := by
  induction l with
  | nil => simp
  | cons x r ih =>
    have := ih (fun y hy => h y (List.mem_cons_of_mem _ hy))
    have := h x List.mem_cons_self
    simp only [List.map_cons, List.sum_cons, List.length_cons, Nat.add_mul]; omega
theorem join_few (l : List ByteArray) (n b : Nat) (hn : l.length ≤ n) (h : ∀ x ∈ l, (bytesOf' x).length ≤ b) : (Lib.join (l.map bytesOf') [43]).length ≤ n * (b + 1) := by
  refine Nat.le_trans (join_le _ _) (Nat.le_trans (sum_le _ _ (b + 1) ?_) ?_)
  · intro x hx
    obtain ⟨y, hy, rfl⟩ := List.mem_map.1 hx
    have := h y hy
    simp only [List.length_cons, List.length_nil]; omega
  · rw [List.length_map]; exact Nat.mul_le_mul_right _ hn
theorem sel_mem {α : Type} (so : Nat → Bool) (xs : List α) (k : Nat) : ∀ x ∈ sel so xs k, x ∈ xs := by
  intro x hx
  unfold sel at hx
  obtain ⟨p, hp, rfl⟩ := List.mem_map.1 hx
  have h1 := (List.mem_filter.1 hp).1
  have h2 := List.mem_of_mem_take (i := k) (l := xs) (a := p.1) (by
    have := List.fst_mem_of_mem_zipIdx h1
    exact this)
  exact h2
theorem names_few (u : Nat) (xs ys : List ByteArray) (n : Nat) (hn : n ≤ 4) (hy : ys.length ≤ 1) (h1 : ∀ x ∈ xs, (bytesOf' x).length ≤ 21) (h2 : ∀ x ∈ ys, (bytesOf' x).length ≤ 21) : (Lib.join ((sel (bt u) xs n ++ ys).map bytesOf') [43]).length ≤ 140737488355328 := by
  refine Nat.le_trans (join_few _ 5 21 ?_ ?_) (by decide)
  · rw [List.length_append]; have := sel_le (bt u) xs n; omega
  · intro x hx
    rcases List.mem_append.1 hx with h | h
    · exact h1 x (sel_mem _ _ _ x h)
    · exact h2 x h
theorem rest_few (u nb : Nat) (hu : u ≤ 18446744073709551615) : (restL u nb).length ≤ 1 ∧ ∀ x ∈ restL u nb, (bytesOf' x).length ≤ 21 := by
  unfold restL
  split
  · exact ⟨by simp, fun x hx => by cases hx⟩
  · refine ⟨by simp, fun x hx => ?_⟩
    simp at hx
    subst hx
    have := dec_len (u / 2 ^ nb * 2 ^ nb) (by have := Nat.div_mul_le_self u (2 ^ nb); omega)
    show (Lib.decDigits _).toArray.toList.length ≤ 21
    simp; omega
theorem mutexN_few : ∀ x ∈ mutexN, (bytesOf' x).length ≤ 21 := by decide +kernel
theorem rwN_few : ∀ x ∈ rwN, (bytesOf' x).length ≤ 21 := by decide +kernel
theorem onceN_few : ∀ x ∈ onceN, (bytesOf' x).length ≤ 21 := by decide +kernel
set_option maxRecDepth 100000 in
set_option maxHeartbeats 1000000 in
theorem mutex_any (u : Nat) (w : World) (hu : (u : Int) ≤ 18446744073709551615) (hm : Mk w) :
    Calls Tryd.prog 21 #[.int .u64 u] w fun e w' => e = .returned (.string (textB (sel (bt u) mutexN 2 ++ restL u 2))) ∧ Frm w w' fun _ => False := by
  have hc := cut85
  have HM := Lib.hid hm
  have HR := Lib.hid (rest_any u 2 · hu (.inl rfl))
  clear hm
  go_enter Tryd.func21, Tryd.ntmps21
  go_wp2_with fail
  go_region_with (first
    | (go_at_call 56; refine (HR.out _ (HM.out.new_ (Frm.refl w _).drew).pow).mono ?_; rintro e w2 ⟨A, rfl, hrd, hf⟩; have RD := Lib.hid hrd; have F := Lib.hid (((Frm.refl w fun _ => False).drew).then_ hf); clear hrd hf)
    | (go_at_call 55; refine (named_any u (some ⟨0, 0, none⟩) A 2 2 (restL u 2).length (restL u 2).length mutexN (restL u 2) _ hu (HM.out.t0.new_ F.out) RD.out (by omega) (by have := (rest_few u 2 (by omega)).1; omega) (names_few u mutexN _ 2 (by omega) (rest_few u 2 (by omega)).1 mutexN_few (rest_few u 2 (by omega)).2)).mono ?_; rintro e w3 ⟨rfl, hf3⟩; replace F := Lib.hid (F.out.then_ hf3); clear hf3))
  all_goals
    go_wp2_with fail
    go_ret
    exact ⟨rfl, F.out⟩
set_option maxRecDepth 100000 in
set_option maxHeartbeats 1000000 in
theorem once_any (u : Nat) (w : World) (hu : (u : Int) ≤ 18446744073709551615) (hm : Mk w) :
    Calls Tryd.prog 25 #[.int .u64 u] w fun e w' => e = .returned (.string (textB (sel (bt u) onceN 4 ++ restL u 4))) ∧ Frm w w' fun _ => False := by
  have hc := cut88 2
  have HM := Lib.hid hm
  have HR := Lib.hid (rest_any u 4 · hu (.inr rfl))
  clear hm
  go_enter Tryd.func25, Tryd.ntmps25
  go_wp2_with fail
  go_region_with (first
    | (go_at_call 56; refine (HR.out _ (HM.out.new_ (Frm.refl w _).drew).pow).mono ?_; rintro e w2 ⟨A, rfl, hrd, hf⟩; have RD := Lib.hid hrd; have F := Lib.hid (((Frm.refl w fun _ => False).drew).then_ hf); clear hrd hf)
    | (go_at_call 55; refine (named_any u (some ⟨2, 0, none⟩) A 4 4 (restL u 4).length (restL u 4).length onceN (restL u 4) _ hu (HM.out.t2.new_ F.out) RD.out (by omega) (by have := (rest_few u 4 (by omega)).1; omega) (names_few u onceN _ 4 (by omega) (rest_few u 4 (by omega)).1 onceN_few (rest_few u 4 (by omega)).2)).mono ?_; rintro e w3 ⟨rfl, hf3⟩; replace F := Lib.hid (F.out.then_ hf3); clear hf3))
  all_goals
    go_wp2_with fail
    go_ret
    exact ⟨rfl, F.out⟩
/-- What is told of readers. -/
def readL (u : Nat) : List ByteArray := if u / 16 = 0 then [] else [⟨(114 :: Lib.decDigits (u / 16)).toArray⟩]
theorem read_few (u : Nat) (hu : u ≤ 18446744073709551615) : (readL u).length ≤ 1 ∧ ∀ x ∈ readL u, (bytesOf' x).length ≤ 21 := by
  unfold readL
  split
  · exact ⟨by simp, fun x hx => by cases hx⟩
  · refine ⟨by simp, fun x hx => ?_⟩
    simp at hx
    subst hx
    have := dec_len (u / 16) (by omega)
    show (114 :: Lib.decDigits _).toArray.toList.length ≤ 21
    simp; omega
theorem r_app (l : List UInt8) : (⟨#[114]⟩ : ByteArray) ++ (⟨l.toArray⟩ : ByteArray) = ⟨(114 :: l).toArray⟩ := by
  apply ByteArray.ext
  rw [ByteArray.data_append]
  simp
set_option maxRecDepth 100000 in
set_option maxHeartbeats 1000000 in
theorem rw_any (u : Nat) (w : World) (hu : (u : Int) ≤ 18446744073709551615) (hm : Mk w) :
    Calls Tryd.prog 23 #[.int .u64 u] w fun e w' => e = .returned (.string (textB (sel (bt u) rwN 4 ++ readL u))) ∧ Frm w w' fun _ => False := by
  have hc := cut88 1
  have HM := Lib.hid hm
  have HRD := Lib.hid (fun V => readers_any u hu V)
  obtain ⟨r, hr⟩ : ∃ r, u / 16 = r := ⟨_, rfl⟩
  have r0 : (0 : Int) ≤ (r : Int) := by omega
  have HR := Lib.hid hr
  have hU := fun V hp => uint_any r (by omega) V hp
  have HU := Lib.hid hU
  clear hm hr hU
  by_cases h0 : r = 0
  · subst h0
    have HL : Hid (readL u = []) := by show _ = _; unfold readL; rw [HR.out, if_pos rfl]
    go_enter Tryd.func23, Tryd.ntmps23
    go_wp2_with (first
      | (go_at_call 27; refine (HRD.out _).mono ?_; rw [HR.out]; rintro e w' ⟨rfl, rfl⟩)
      | (go_at_call 55; refine (named_any u (some ⟨1, 0, none⟩) none 4 4 0 0 rwN [] _ hu HM.out.t1 (Rd.nil _ _ _ _) (by omega) (by omega) (names_few u rwN _ 4 (by omega) (by simp) rwN_few (fun x hx => by cases hx))).mono ?_; rintro e w3 ⟨rfl, hf3⟩))
    go_ret
    rw [HL.out, List.append_nil]
    exact ⟨rfl, hf3⟩
  · have h1 : (0 : Int) < (r : Int) := by omega
    have HL : Hid (readL u = [⟨(114 :: Lib.decDigits r).toArray⟩]) := by show _ = _; unfold readL; rw [HR.out, if_neg h0]
    have hf := read_few u (by omega)
    rw [HL.out] at hf
    have hfew := names_few u rwN [⟨(114 :: Lib.decDigits r).toArray⟩] 4 (by omega) hf.1 rwN_few hf.2
    have HFW := Lib.hid hfew
    have hrap := r_app (Lib.decDigits r)
    have hsz : ¬ (9223372036854775807 < (⟨#[114]⟩ : ByteArray).size + (⟨(Lib.decDigits r).toArray⟩ : ByteArray).size) := by
      have := dec_len r (by have := HR.out; omega)
      simp [ByteArray.size]; omega
    have hcc : ∀ W, (Op.stringOp .add ⟨#[114]⟩ ⟨(Lib.decDigits r).toArray⟩).run Tryd.prog W = .ok (.string ⟨(114 :: Lib.decDigits r).toArray⟩) W := fun W => by
      rw [run_string_add_sum W _ _ (by omega), hrap]
    clear h0 hf hfew
    go_enter Tryd.func23, Tryd.ntmps23
    go_wp2_with (first
      | (go_at_call 27; refine (HRD.out _).mono ?_; rw [HR.out]; rintro e w' ⟨rfl, rfl⟩))
    go_region_with (first
      | (go_at_call 59; refine (HU.out _ (HM.out.new_ (Frm.refl w _).drew).pow).mono ?_; rintro e w2 ⟨rfl, hf⟩; have F := Lib.hid (((Frm.refl w fun _ => False).drew).then_ hf); clear hf)
      | (go_at_call 55; refine (named_any u (some ⟨1, 0, none⟩) _ 4 4 1 1 rwN [⟨(114 :: Lib.decDigits r).toArray⟩] _ hu ((HM.out.t1.new_ F.out).new_ ((Frm.refl _ _).alloc _)) (Rd.fresh_at _ 9 #[_] rfl rfl) (by omega) (by omega) HFW.out).mono ?_; rintro e w3 ⟨rfl, hf3⟩; replace F := Lib.hid (F.out.then_ (((Frm.refl _ _).alloc _).then_ hf3)); clear hf3))
    all_goals
      go_wp2_with fail
      go_ret
      rw [HL.out]
      exact ⟨rfl, F.out⟩
end Go.Proofs.YtmjpaaippilioaaDoor

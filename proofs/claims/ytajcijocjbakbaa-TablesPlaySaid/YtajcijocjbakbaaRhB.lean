import Derived.Test.YtajcijocjbakbaaRhA
import Derived.Test.YtajcijocjbakbaaRhH
namespace Go.Proofs.Ytajcijocjbakbaa
open Go.RowKit

theorem sz_pow (nb : Nat) (h2 : 2 ≤ nb) (h8 : nb ≤ 8) : sz (nb : Int) = 2 ^ nb := by
  unfold sz
  rw [if_pos ((tbl_iff _).2 (by omega)), Int.toNat_natCast]
theorem hs_lt (a nb : Nat) (h2 : 2 ≤ nb) (h8 : nb ≤ 8) : hs a nb < 2 ^ nb := by
  unfold hs
  rw [Nat.div_lt_iff_lt_mul (Nat.two_pow_pos _), ← Nat.pow_add, show nb + (64 - nb) = 64 from by omega]
  exact Nat.mod_lt _ (by decide)
theorem hs_half (a nb : Nat) (h8 : nb < 64) : hs a (nb + 1) / 2 = hs a nb := by
  unfold hs
  rw [Nat.div_div_eq_div_mul, ← Nat.pow_succ, show (64 - (nb + 1)).succ = 64 - nb from by omega]
/-- Where an entry hashes to. -/
def hk (nb : Nat) (x : En) : Nat := hs x.k.toNat nb
/-- What is known of an entry that came in. -/
structure EnOk (e : En) : Prop where
  k : 0 ≤ e.k ∧ e.k ≤ 4294967295
  tok : 0 ≤ e.tok
theorem hash_en (x : En) (h : EnOk x) (nb : Nat) (h2 : 2 ≤ nb) (h8 : nb ≤ 8) (w : World) : Calls Try.prog 26 #[.int .u32 x.k, .int .i64 nb] w fun e w' => e = .returned (.int .i64 (hk nb x : Nat)) ∧ w = w' := by
  have := hash_any x.k.toNat (by have := h.k; omega) (nb : Int) ((tbl_iff _).2 (by omega)) w
  rw [Int.toNat_natCast, Int.toNat_of_nonneg h.k.1] at this
  exact this
set_option maxRecDepth 100000 in
theorem rsize_in (nb : Nat) (h2 : 2 ≤ nb) (h8 : nb ≤ 8) (w : World) : Calls Try.prog 48 #[.int .i64 nb] w fun e w' => e = .returned (.int .i64 (sz nb : Nat)) ∧ w = w' := by
  have E := Lib.hid (sz_pow nb h2 h8)
  have n2 : (2 : Int) ≤ (nb : Int) := by omega
  have n8 : (nb : Int) ≤ 8 := by omega
  go_enter Try.func48, Try.ntmps48
  go_wp2_with fail
  go_loopw [3, 4] (fun v i wr => ∃ j : Nat, v = .int .i64 (2 ^ j : Nat) ∧ i = .int .i64 (j : Nat) ∧ j ≤ nb ∧ w = wr) (fun _ i _ => nb - (intOf i).toNat)
  case atStart => exact ⟨0, rfl, rfl, by omega, rfl⟩
  case round =>
    obtain ⟨j, rfl, rfl, hj, rfl⟩ := hrel
    by_cases hlt : j < nb
    · obtain ⟨p, hp⟩ : ∃ p, 2 ^ j = p := ⟨_, rfl⟩
      have hp2 : 2 ^ (j + 1) = 2 * p := by rw [Nat.pow_succ, hp]; omega
      have hp1 : p ≤ 128 := by rw [← hp]; exact Nat.pow_le_pow_right (n := 2) (by decide) (show j ≤ 7 by omega)
      have HP := Lib.hid hp2
      rw [hp]
      have i0 : (j : Int) < (nb : Int) := by omega
      have i1 : (0 : Int) ≤ (p : Int) := by omega
      clear hp hp2
      go_wp2_with fail
      go_roundw
      case rel => exact ⟨j + 1, by rw [HP.out]; go_num, by go_num, by omega, trivial⟩
      case measure => simp [intOf]; omega
    · obtain rfl : j = nb := by omega
      go_wp2_with fail
      go_ret
      rw [E.out]
      exact ⟨rfl, rfl⟩
theorem rsize_out (n : Int) (h : tbl n = false) (w : World) : Calls Try.prog 48 #[.int .i64 n] w fun e w' => e = .returned (.int .i64 (sz n : Nat)) ∧ w = w' := by
  have e1 : Hid (sz n = 0) := by show _ = _; unfold sz; rw [h]; rfl
  by_cases h2 : n < 2
  · go_enter Try.func48, Try.ntmps48
    go_wp2
    go_ret
    rw [e1.out]
    exact ⟨rfl, rfl⟩
  · have h8 : 8 < n := by
      rcases Int.lt_or_le 8 n with h8 | h8
      · exact h8
      · rw [(tbl_iff n).2 ⟨by omega, h8⟩] at h; cases h
    have h2' : 2 ≤ n := by omega
    clear h
    go_enter Try.func48, Try.ntmps48
    go_wp2
    go_ret
    rw [e1.out]
    exact ⟨rfl, rfl⟩
theorem rsize_any (n : Int) (w : World) : Calls Try.prog 48 #[.int .i64 n] w fun e w' => e = .returned (.int .i64 (sz n : Nat)) ∧ w = w' := by
  cases h : tbl n with
  | true =>
    have h1 := (tbl_iff n).1 h
    have := rsize_in n.toNat (by omega) (by omega) w
    rwa [Int.toNat_of_nonneg (by omega)] at this
  | false => exact rsize_out n h w
set_option maxRecDepth 100000 in
theorem rhash_en (x : En) (h : EnOk x) (nb : Nat) (h2 : 2 ≤ nb) (h8 : nb ≤ 8) (w : World) : Calls Try.prog 49 #[.int .u32 x.k, .int .i64 nb] w fun e w' => e = .returned (.int .i64 (hk nb x : Nat)) ∧ w = w' := by
  obtain ⟨a, ha⟩ : ∃ a : Nat, x.k = a := ⟨x.k.toNat, by have := h.k; omega⟩
  have e1 : hk nb x = a * 11400714819323198485 % 18446744073709551616 / 2 ^ (64 - nb) := by unfold hk hs; rw [ha, Int.toNat_natCast]
  obtain ⟨m, hm⟩ : ∃ m, a * 11400714819323198485 % 18446744073709551616 = m := ⟨_, rfl⟩
  have ha' : (a : Int) ≤ 4294967295 := by have := h.k; omega
  rw [hm] at e1
  have hml : m < 18446744073709551616 := by omega
  have E := Lib.hid e1
  have hmi : (a : Int) * 11400714819323198485 % 18446744073709551616 = (m : Int) := by omega
  have hd : ∀ j, m / 2 ^ (j + 1) = m / 2 ^ j / 2 := fun j => by rw [Nat.div_div_eq_div_mul, Nat.pow_succ]
  have HD := Lib.hid hd
  have n2 : (2 : Int) ≤ (nb : Int) := by omega
  have n8 : (nb : Int) ≤ 8 := by omega
  have a0 : (0 : Int) ≤ (a : Int) := by omega
  have hfin : m / 2 ^ (64 - nb) ≤ 255 := by
    refine Nat.le_of_lt_succ ((Nat.div_lt_iff_lt_mul (Nat.two_pow_pos _)).2 ?_)
    have : 2 ^ 56 ≤ 2 ^ (64 - nb) := Nat.pow_le_pow_right (by decide) (by omega)
    omega
  rw [ha]
  clear ha hm e1 hd h
  go_enter Try.func49, Try.ntmps49
  go_wp2_with fail
  go_loopw [5, 6] (fun v i wr => ∃ q : Nat, v = .int .u64 (m / 2 ^ (q - nb) : Nat) ∧ i = .int .i64 (q : Nat) ∧ nb ≤ q ∧ q ≤ 64 ∧ w = wr) (fun _ i _ => 64 - (intOf i).toNat)
  case atStart => exact ⟨nb, by rw [Nat.sub_self, Nat.pow_zero, Nat.div_one]; show Value.int .u64 (IntKind.u64.wrap _) = _; rw [show IntKind.u64.wrap ((a : Int) * 11400714819323198485) = (m : Int) from hmi], rfl, by omega, by omega, rfl⟩
  case round =>
    obtain ⟨q, rfl, rfl, hq, hq', rfl⟩ := hrel
    obtain ⟨p, hp⟩ : ∃ p, m / 2 ^ (q - nb) = p := ⟨_, rfl⟩
    have hp1 : p ≤ m := by rw [← hp]; exact Nat.div_le_self _ _
    have i1 : (0 : Int) ≤ (p : Int) := by omega
    by_cases hlt : q < 64
    · have hp2 : m / 2 ^ (q + 1 - nb) = p / 2 := by rw [show q + 1 - nb = q - nb + 1 from by omega, HD.out, hp]
      have HP := Lib.hid hp2
      have HW : Hid (IntKind.u64.wrap ((p : Int) / 2) = ((p / 2 : Nat) : Int)) := by show (p : Int) / 2 % 18446744073709551616 = _; omega
      rw [hp]
      clear hp hp2 hml hmi hp1 hfin ha'
      go_wp2_with fail
      go_roundw
      case rel => exact ⟨q + 1, by rw [HP.out, HW.out], by go_num, by omega, by omega, trivial⟩
      case measure => simp [intOf]; omega
    · obtain rfl : q = 64 := by omega
      rw [hp] at hfin E
      rw [hp]
      have i2 : (p : Int) ≤ 255 := by omega
      clear hp hml hmi hp1 hfin ha'
      go_wp2_with fail
      go_ret
      rw [E.out]
      exact ⟨by go_num, rfl⟩
end Go.Proofs.Ytajcijocjbakbaa

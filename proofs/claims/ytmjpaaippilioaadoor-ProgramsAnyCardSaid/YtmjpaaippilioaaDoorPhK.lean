import Derived.Test.YtmjpaaippilioaaDoorPhJ
import Derived.Test.YtmjpaaippilioaaDoorPhC
namespace Go.Proofs.YtmjpaaippilioaaDoor
open Go.RowKit

theorem opsV_one (xs : List OpR) : ∀ u ∈ opsV xs, u.oneCell' = true := by
  intro u hu
  obtain ⟨x, _, hx⟩ := List.mem_flatMap.1 hu
  exact OpR.cs_one x u hx
theorem flat_drop {α : Type} (c : α → List Value) (m : Nat) (hc : ∀ x, (c x).length = m) : ∀ (xs : List α) (k : Nat), (xs.flatMap c).drop (k * m) = (xs.drop k).flatMap c
  | [], k => by simp
  | x :: r, 0 => by simp
  | x :: r, k + 1 => by
    rw [List.flatMap_cons, List.drop_succ_cons, ← flat_drop c m hc r k, List.drop_append, hc, List.drop_eq_nil_of_le (by rw [hc, Nat.add_mul]; omega), List.nil_append]
    congr 1
    rw [Nat.add_mul]; omega
/-- One of a row. -/
theorem Rd.one {w : World} {B n : Nat} {A : Option Addr} {xs : List OpR} (h : Rd w B 7 A n (opsV xs)) {i : Nat} (hi : i < xs.length) (hn : xs.length = n) : ∃ g off, A = some ⟨g, off, none⟩ ∧ Rd w B 7 (some ⟨g, off + i * 7, none⟩) 1 (opsV [xs[i]]) := by
  obtain ⟨g, off, e, h2⟩ := h.cut (k := i) (by omega) (by decide)
  refine ⟨g, off, e, ?_⟩
  have h3 := h2.short (m := 1) (by omega)
  rw [flat_drop OpR.cs 7 OpR.cs_len xs i, flat_take OpR.cs 7 OpR.cs_len _ 1] at h3
  rw [show [xs[i]] = (xs.drop i).take 1 by rw [List.drop_eq_getElem_cons hi]; rfl]
  exact h3
theorem Rd.first {w : World} {B n : Nat} {A : Option Addr} {xs : List OpR} (h : Rd w B 7 A n (opsV xs)) {i : Nat} (hi : i ≤ n) : Rd w B 7 A i (opsV (xs.take i)) := by
  have h3 := h.short hi
  rw [flat_take OpR.cs 7 OpR.cs_len] at h3
  exact h3
theorem Rd.rest {w : World} {B n : Nat} {A : Option Addr} {xs : List OpR} (h : Rd w B 7 A n (opsV xs)) {i : Nat} (hi : i < n) : ∃ g off, A = some ⟨g, off, none⟩ ∧ Rd w B 7 (some ⟨g, off + i * 7, none⟩) (n - i) (opsV (xs.drop i)) := by
  obtain ⟨g, off, e, h2⟩ := h.cut (k := i) hi (by decide)
  rw [flat_drop OpR.cs 7 OpR.cs_len xs i] at h2
  exact ⟨g, off, e, h2⟩
/-! ### how many take, and how many give back -/
theorem cntT_snoc (xs : List OpR) (x : OpR) : cntT (xs ++ [x]) = cntT xs + oneB (isT x.k.toNat) := by rw [cntT_app]; simp [cntT]
theorem cntG_snoc (xs : List OpR) (x : OpR) : cntG (xs ++ [x]) = cntG xs + oneB (isG x.k.toNat) := by rw [cntG_app]; simp [cntG]
theorem cntT_le (xs : List OpR) : cntT xs ≤ xs.length := by
  induction xs with
  | nil => exact Nat.le_refl _
  | cons x r ih =>
    have : oneB (isT x.k.toNat) ≤ 1 := by unfold oneB; split <;> decide
    simp only [cntT, List.map_cons, List.sum_cons, List.length_cons] at ih ⊢
    omega
theorem cntG_le (xs : List OpR) : cntG xs ≤ xs.length := by
  induction xs with
  | nil => exact Nat.le_refl _
  | cons x r ih =>
    have : oneB (isG x.k.toNat) ≤ 1 := by unfold oneB; split <;> decide
    simp only [cntG, List.map_cons, List.sum_cons, List.length_cons] at ih ⊢
    omega
set_option maxRecDepth 100000 in
set_option maxHeartbeats 4000000 in
theorem takes_any (A : Option Addr) (n c : Nat) (xs : List OpR) (w : World) (hr : Rd w w.heap.size 7 A n (opsV xs)) (hk : KOk xs) (hn : (n : Int) ≤ 1000) :
    Calls Tryd.prog 36 #[.slice A n c] w fun e w' => e = .returned (.tuple #[.int .i64 (cntT xs : Nat), .int .i64 (cntG xs : Nat)]) ∧ w = w' := by
  obtain ⟨hxl, hxc⟩ := Rd.rows OpR.cs_len (by decide) hr
  have HXL := Lib.hid hxl
  have HXC := Lib.hid hxc
  have HK := Lib.hid hk
  clear hxl hxc hk hr
  go_enter Tryd.func36, Tryd.ntmps36
  go_wp2_with fail
  go_loopw [4, 5, 6] (fun a b i wr => ∃ j : Nat, i = .int .i64 j ∧ j ≤ n ∧ a = .int .i64 (cntT (xs.take j) : Nat) ∧ b = .int .i64 (cntG (xs.take j) : Nat) ∧ w = wr) (fun _ _ i _ => n - (intOf i).toNat)
  case atStart => exact ⟨0, rfl, Nat.zero_le _, rfl, rfl, rfl⟩
  case round =>
    obtain ⟨j, rfl, hj, rfl, rfl, hwr⟩ := hrel
    subst hwr
    have j0 : (0 : Int) ≤ (j : Int) := by omega
    have j1 : (j : Int) ≤ (n : Int) := by omega
    by_cases hlt : j < n
    · have j2 : (j : Int) < (n : Int) := by omega
      obtain ⟨g, off, rfl, -, hc⟩ := HXC.out (by omega)
      have hjl : j < xs.length := by have := HXL.out; omega
      have e : xs.take (j + 1) = xs.take j ++ [xs[j]] := List.take_succ_eq_append_getElem hjl
      have eT := cntT_snoc (xs.take j) xs[j]
      have eG := cntG_snoc (xs.take j) xs[j]
      rw [← e] at eT eG
      have lT := Nat.le_trans (cntT_le (xs.take j)) (List.length_take_le _ _)
      have lG := Nat.le_trans (cntG_le (xs.take j)) (List.length_take_le _ _)
      obtain ⟨q0, q1⟩ := HK.out _ (List.getElem_mem hjl)
      have c0 : w.cell? ⟨g, off + j * 7, none⟩ = some (.int .u8 xs[j].k) := hc j hjl 0 _ rfl
      obtain ⟨X, hX⟩ : ∃ x, xs[j].k = x := ⟨_, rfl⟩
      rw [hX] at c0 q0 q1 eT eG
      obtain ⟨q, rfl⟩ := Int.eq_ofNat_of_zero_le q0
      obtain ⟨a, ha⟩ : ∃ a, cntT (xs.take j) = a := ⟨_, rfl⟩
      obtain ⟨b, hb⟩ : ∃ b, cntG (xs.take j) = b := ⟨_, rfl⟩
      rw [ha] at eT lT
      rw [hb] at eG lG
      rw [ha, hb]
      have ET := Lib.hid eT
      have EG := Lib.hid eG
      have a0 : (0 : Int) ≤ (a : Int) := by omega
      have a1 : (a : Int) ≤ 1000 := by omega
      have b0 : (0 : Int) ≤ (b : Int) := by omega
      have b1 : (b : Int) ≤ 1000 := by omega
      clear hc hX ha hb eT eG lT lG e
      have hq : q = 0 ∨ q = 3 ∨ q = 6 ∨ q = 9 ∨ q = 2 ∨ q = 5 ∨ q = 8 ∨ q = 11 ∨ (q ≠ 0 ∧ q ≠ 3 ∧ q ≠ 6 ∧ q ≠ 9 ∧ q ≠ 2 ∧ q ≠ 5 ∧ q ≠ 8 ∧ q ≠ 11) := by omega
      rcases hq with rfl | rfl | rfl | rfl | rfl | rfl | rfl | rfl | ⟨h0, h3, h6, h9, h2, h5, h8, h11⟩
      iterate 8
        · go_wp2_with fail
          go_roundw
          case rel => exact ⟨j + 1, by go_num, by omega, by rw [ET.out]; first | rfl | (simp [oneB, isT]), by rw [EG.out]; first | rfl | (simp [oneB, isG]), trivial⟩
          case measure => simp [intOf]; omega
      · have e0 : ((q : Int) == 0) = false := by simp; omega
        have e3 : ((q : Int) == 3) = false := by simp; omega
        have e6 : ((q : Int) == 6) = false := by simp; omega
        have e9 : ((q : Int) == 9) = false := by simp; omega
        have e2 : ((q : Int) == 2) = false := by simp; omega
        have e5 : ((q : Int) == 5) = false := by simp; omega
        have e8 : ((q : Int) == 8) = false := by simp; omega
        have e11 : ((q : Int) == 11) = false := by simp; omega
        have iT : isT q = false := by simp [isT]; omega
        have iG : isG q = false := by simp [isG]; omega
        have IT := Lib.hid iT
        have IG := Lib.hid iG
        clear h0 h3 h6 h9 h2 h5 h8 h11 iT iG
        go_wp2_with fail
        go_roundw
        case rel => exact ⟨j + 1, by go_num, by omega, by rw [ET.out, Int.toNat_natCast, IT.out]; rfl, by rw [EG.out, Int.toNat_natCast, IG.out]; rfl, trivial⟩
        case measure => simp [intOf]; omega
    · obtain rfl : j = n := by omega
      have hl := HXL.out
      rw [List.take_of_length_le (by omega)]
      clear hl
      go_wp2_with fail
      go_ret2
      exact ⟨rfl, rfl⟩
end Go.Proofs.YtmjpaaippilioaaDoor

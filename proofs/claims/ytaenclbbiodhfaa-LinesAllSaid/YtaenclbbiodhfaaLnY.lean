import Derived.Test.YtaenclbbiodhfaaLnX
import Derived.Test.YtaenclbbiodhfaaLnS
import Derived.Test.YtaenclbbiodhfaaLnK
namespace Go.Proofs.Ytaenclbbiodhfaa
open Go.RowKit

theorem sel_congr {so so' : Nat → Bool} (xs : List En) : ∀ k, k ≤ xs.length → (∀ i, i < k → so i = so' i) → sel so xs k = sel so' xs k := by
  intro k hk h
  induction k with
  | zero => rfl
  | succ k ih => rw [sel_succ _ xs k (by omega), sel_succ _ xs k (by omega), ih (by omega) (fun i hi => h i (by omega)), h k (by omega)]
theorem smSo_all (key : Int) (xs : List En) (i : Nat) (hi : i < xs.length) : smSo key (xs.length : Int) xs i = alSo key xs i := by
  rw [smSo_at _ _ _ _ hi, alSo_at _ _ _ hi]
  have h := (smRun_sel key (xs.length : Int) xs i (by omega)).1.2 (by have := sel_le (smSo key (xs.length : Int) xs) xs i; omega)
  simp [h]
theorem smTaken_all (key : Int) (xs : List En) : smTaken key (xs.length : Int) xs = alTaken key xs :=
  sel_congr xs _ (Nat.le_refl _) (fun i hi => smSo_all key xs i hi)
theorem smLeft_all (key : Int) (xs : List En) : smLeft key (xs.length : Int) xs = alLeft key xs :=
  sel_congr xs _ (Nat.le_refl _) (fun i hi => by rw [smSo_all key xs i hi])
theorem sel_al (key : Int) (xs : List En) : ∀ k, k ≤ xs.length → sel (alSo key xs) xs k = (xs.take k).filter (fun x => decide (x.k = key)) ∧ sel (fun i => !(alSo key xs i)) xs k = (xs.take k).filter (fun x => !decide (x.k = key)) := by
  intro k hk
  induction k with
  | zero => exact ⟨rfl, rfl⟩
  | succ k ih =>
    obtain ⟨h1, h2⟩ := ih (by omega)
    rw [sel_succ _ xs k (by omega), sel_succ _ xs k (by omega), h1, h2, alSo_at _ _ _ (by omega), List.take_succ_eq_append_getElem (by omega), List.filter_append, List.filter_append]
    constructor
    · congr 1
      by_cases h : xs[k].k = key <;> simp [h]
    · congr 1
      by_cases h : xs[k].k = key <;> simp [h]
theorem alTaken_eq (key : Int) (xs : List En) : alTaken key xs = xs.filter (fun x => decide (x.k = key)) := by
  have := (sel_al key xs xs.length (Nat.le_refl _)).1
  rw [List.take_length] at this
  exact this
theorem alLeft_eq (key : Int) (xs : List En) : alLeft key xs = xs.filter (fun x => !decide (x.k = key)) := by
  have := (sel_al key xs xs.length (Nat.le_refl _)).2
  rw [List.take_length] at this
  exact this
/-- A list at its first entry of a key. -/
theorem split_key (key : Int) (l : List En) (h : l.filter (fun x => decide (x.k = key)) ≠ []) : ∃ P x R, l = P ++ x :: R ∧ (∀ y ∈ P, ¬ y.k = key) ∧ x.k = key := by
  induction l with
  | nil => exact absurd rfl h
  | cons y l ih =>
    by_cases hy : y.k = key
    · exact ⟨[], y, l, rfl, (by simp), hy⟩
    · rw [List.filter_cons_of_neg (by simp [hy])] at h
      obtain ⟨P, x, R, e, hP, hx⟩ := ih h
      refine ⟨y :: P, x, R, by rw [e]; rfl, fun z hz => ?_, hx⟩
      rcases List.mem_cons.1 hz with rfl | hz
      · exact hy
      · exact hP z hz
theorem fst_split (key : Int) (P R : List En) (x : En) (hP : ∀ y ∈ P, ¬ y.k = key) (hx : x.k = key) : fst (fun x => x.k == key) (P ++ x :: R) = (P.length : Int) := by
  refine fst_at (by simp) (by simp [hx]) (fun j hj => ?_)
  rw [List.getElem_append_left hj]
  have := hP _ (List.getElem_mem hj)
  simp [this]
theorem cutX_split (P R : List En) (x : En) : cutX (P.length : Int) (P ++ x :: R) = x := by
  unfold cutX
  rw [if_pos (by omega), Int.toNat_natCast]
  simp
theorem sel_app (P R : List En) : ∀ (so : Nat → Bool), sel so (P ++ R) (P ++ R).length = sel so P P.length ++ sel (fun i => so (P.length + i)) R R.length := by
  intro so
  have h1 : ∀ k, k ≤ P.length → sel so (P ++ R) k = sel so P k := by
    intro k hk
    induction k with
    | zero => rfl
    | succ k ih => rw [sel_succ _ _ k (by simp; omega), sel_succ _ P k (by omega), ih (by omega), List.getElem_append_left]
  have h2 : ∀ k, k ≤ R.length → sel so (P ++ R) (P.length + k) = sel so P P.length ++ sel (fun i => so (P.length + i)) R k := by
    intro k hk
    induction k with
    | zero => rw [Nat.add_zero, h1 _ (Nat.le_refl _), sel_zero, List.append_nil]
    | succ k ih =>
      rw [← Nat.add_assoc, sel_succ _ _ (P.length + k) (by simp; omega), sel_succ _ R k (by omega), ih (by omega), List.append_assoc]
      congr 2
      rw [List.getElem_append_right (by omega)]
      simp
  rw [List.length_append]
  exact h2 _ (Nat.le_refl _)
theorem cutLeft_split (P R : List En) (x : En) : cutLeft (P.length : Int) (P ++ x :: R) (P ++ x :: R).length = P ++ R := by
  unfold cutLeft
  rw [sel_app]
  have e1 : sel (fun i => !(cutSo (P.length : Int) i)) P P.length = P := by
    have := sel_congr (so := fun i => !(cutSo (P.length : Int) i)) (so' := fun _ => true) P P.length (Nat.le_refl _) (fun i hi => by simp [cutSo]; omega)
    rw [this]
    have h : ∀ k, k ≤ P.length → sel (fun _ => true) P k = P.take k := sel_all P
    rw [h _ (Nat.le_refl _), List.take_length]
  have e2 : ∀ k, k ≤ R.length → sel (fun i => !(cutSo (P.length : Int) (P.length + i))) (x :: R) (k + 1) = R.take k := by
    intro k hk
    induction k with
    | zero => rw [sel_succ _ _ 0 (by simp), sel_zero]; simp [cutSo]
    | succ k ih =>
      have hb : cutSo (P.length : Int) (P.length + (k + 1)) = false := by unfold cutSo; rw [decide_eq_false (by omega)]
      rw [sel_succ _ _ (k + 1) (by simp; omega), ih (by omega), List.take_succ_eq_append_getElem (by omega)]
      simp [hb]
  rw [e1, List.length_cons, e2 _ (Nat.le_refl _), List.take_length]
end Go.Proofs.Ytaenclbbiodhfaa

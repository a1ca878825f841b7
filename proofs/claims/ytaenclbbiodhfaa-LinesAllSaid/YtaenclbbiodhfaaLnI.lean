import Derived.Test.YtaenclbbiodhfaaLnD
namespace Go.Proofs.Ytaenclbbiodhfaa
open Go.RowKit

theorem sel_pre (so : Nat → Bool) (xs : List En) (i : Nat) : ∀ j, i ≤ j → j ≤ xs.length → sel so xs i <+: sel so xs j := by
  intro j hij hj
  induction j with
  | zero => obtain rfl : i = 0 := by omega
            exact List.prefix_refl _
  | succ j ih =>
    rcases Nat.lt_or_eq_of_le hij with h | h
    · rw [sel_succ so xs j (by omega)]
      exact (ih (by omega) (by omega)).trans (List.prefix_append _ _)
    · subst h; exact List.prefix_refl _
theorem get_of_prefix {α : Type} {l l' : List α} {x : α} (h : l ++ [x] <+: l') : l'[l.length]? = some x := by
  obtain ⟨t, rfl⟩ := h
  simp
theorem sel_get (so : Nat → Bool) (xs : List En) (i : Nat) (hi : i < xs.length) (h : so i = true) : (sel so xs xs.length)[(sel so xs i).length]? = some xs[i] := by
  have := sel_pre so xs (i + 1) xs.length (by omega) (Nat.le_refl _)
  rw [sel_succ so xs i hi, h] at this
  exact get_of_prefix this
theorem sel_lt (so : Nat → Bool) (xs : List En) (i : Nat) (hi : i < xs.length) (h : so i = true) : (sel so xs i).length < (sel so xs xs.length).length :=
  (List.getElem?_eq_some_iff.1 (sel_get so xs i hi h)).1
theorem sel_len (so : Nat → Bool) (xs : List En) : ∀ k, k ≤ xs.length → (sel so xs k).length + (sel (fun i => !(so i)) xs k).length = k := by
  intro k hk
  induction k with
  | zero => rfl
  | succ k ih =>
    have := ih (by omega)
    rw [sel_succ so xs k (by omega), sel_succ _ xs k (by omega), List.length_append, List.length_append]
    cases so k <;> simp <;> omega
section
variable (ch : List Nat) (key : Int) (xs : List En)
theorem run_pre (i : Nat) : ∀ j, i ≤ j → j ≤ xs.length → (chRun ch key (xs.take i)).2 <+: (chRun ch key (xs.take j)).2 := by
  intro j hij hj
  induction j with
  | zero => obtain rfl : i = 0 := by omega
            exact List.prefix_refl _
  | succ j ih =>
    rcases Nat.lt_or_eq_of_le hij with h | h
    · rw [chRun_succ _ _ _ _ (by omega)]
      refine (ih (by omega) (by omega)).trans ?_
      unfold chStep
      split
      · exact List.prefix_append _ _
      · exact List.prefix_refl _
    · subst h; exact List.prefix_refl _
theorem run_get (i : Nat) (hi : i < xs.length) (hk : xs[i].k = key) (ho : (chRun ch key (xs.take i)).1 = true) : (chRun ch key xs).2[(chRun ch key (xs.take i)).2.length]? = some xs[i].tok := by
  have := run_pre ch key xs (i + 1) xs.length (by omega) (Nat.le_refl _)
  rw [chRun_succ _ _ _ _ hi, List.take_length] at this
  unfold chStep at this
  rw [if_pos ⟨hk, ho⟩] at this
  exact get_of_prefix this
theorem run_off (i : Nat) (hi : i ≤ xs.length) (ho : (chRun ch key (xs.take i)).1 = false) : chRun ch key xs = chRun ch key (xs.take i) := by
  have : ∀ j, i ≤ j → j ≤ xs.length → chRun ch key (xs.take j) = chRun ch key (xs.take i) := by
    intro j hij hj
    induction j with
    | zero => obtain rfl : i = 0 := by omega
              rfl
    | succ j ih =>
      rcases Nat.lt_or_eq_of_le hij with h | h
      · rw [chRun_succ _ _ _ _ (by omega), ih (by omega) (by omega)]
        unfold chStep
        rw [if_neg (by rw [ho]; simp)]
      · subst h; rfl
  have := this xs.length hi (Nat.le_refl _)
  rwa [List.take_length] at this
end
theorem neq35 (t k z : Int) (w : World) : (binOp .neq 35 (.agg #[.int .i64 t, .int .u32 k, .int .u64 z]) (.agg #[.int .i64 t, .int .u32 k, .int .u64 z])).run Try.prog w = .ok (.bool false) w := by
  rw [run_neq_struct, run_equalIn_agg _ 9999 35 _ _ (by kernel_rfl) (by kernel_rfl)]
  simp [Program.fieldsOf, Try.underlying35, Op.eqFields, go_sem]
theorem eqg35 (op : BinOp) (x y : Operand) (a b : Array Value) (w : World) : (eqGuard op 35 x y (.agg a) (.agg b)).run Try.prog w = .ok () w :=
  run_eqGuard_agg w op 35 x y _ _ (by kernel_rfl)
end Go.Proofs.Ytaenclbbiodhfaa

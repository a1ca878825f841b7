import Derived.Test.YtmjpaaippilioaaDoorPhU
namespace Go.Proofs.YtmjpaaippilioaaDoor
open Go.RowKit

/-! ### lists dealt out in turns -/
section
variable {α : Type}
def col (n k : Nat) (l : List α) : List α := (l.zipIdx.filter fun p => p.2 % n == k).map (·.1)
theorem col_nil (n k : Nat) : col n k ([] : List α) = [] := rfl
theorem col_snoc (n k : Nat) (l : List α) (x : α) : col n k (l ++ [x]) = col n k l ++ if l.length % n = k then [x] else [] := by
  unfold col
  rw [List.zipIdx_append, List.filter_append, List.map_append]
  congr 1
  simp only [List.zipIdx_singleton, Nat.zero_add, List.filter_cons, List.filter_nil, beq_iff_eq]
  split <;> rfl
theorem col_app (n k : Nat) (l m : List α) : ∃ r, col n k (l ++ m) = col n k l ++ r := by
  unfold col
  rw [List.zipIdx_append, List.filter_append, List.map_append]
  exact ⟨_, rfl⟩
def cols (n : Nat) (l : List α) : List (List α) := (List.range n).map fun k => col n k l
theorem cols_len (n : Nat) (l : List α) : (cols n l).length = n := by simp [cols]
theorem cols_at (n : Nat) (l : List α) (k : Nat) (h : k < (cols n l).length) : (cols n l)[k] = col n k l := by simp [cols]
theorem cols_nil (n : Nat) : cols n ([] : List α) = List.replicate n [] := by
  apply List.ext_getElem
  · simp [cols]
  · intro b h1 h2
    rw [cols_at]
    simp [col]
theorem cols_snoc (n : Nat) (l : List α) (x : α) : cols n (l ++ [x]) = (cols n l).set (l.length % n) (col n (l.length % n) l ++ [x]) := by
  apply List.ext_getElem
  · simp [cols]
  · intro b h1 h2
    rw [cols_at, List.getElem_set, cols_at, col_snoc]
    split
    · rename_i he; subst he; rfl
    · rw [List.append_nil]
theorem snoc_ind {motive : List α → Prop} (h0 : motive []) (h1 : ∀ l x, motive l → motive (l ++ [x])) (l : List α) : motive l := by
  have h : ∀ l : List α, motive l.reverse := fun l => by
    induction l with
    | nil => exact h0
    | cons x r ih => rw [List.reverse_cons]; exact h1 _ _ ih
  have := h l.reverse
  rwa [List.reverse_reverse] at this
theorem col_len (n k : Nat) (hk : k < n) : ∀ (l : List α) (q r : Nat), l.length = q * n + r → r < n → (col n k l).length = q + if k < r then 1 else 0 := by
  refine fun l => snoc_ind (motive := fun l => ∀ (q r : Nat), l.length = q * n + r → r < n → (col n k l).length = q + if k < r then 1 else 0) ?_ ?_ l
  · intro q r h hr
    have hr0 : r = 0 := by simp at h; omega
    have hq : q = 0 := by
      rcases Nat.eq_zero_or_pos q with h0 | h0
      · exact h0
      · have := Nat.le_mul_of_pos_left n h0
        simp at h; omega
    subst hr0 hq
    simp [col]
  · intro l x ih q r h hr
    rw [List.length_append, List.length_singleton] at h
    rw [col_snoc, List.length_append]
    by_cases h0 : r = 0
    · subst h0
      obtain ⟨p, rfl⟩ : ∃ p, q = p + 1 := ⟨q - 1, by
        rcases Nat.eq_zero_or_pos q with h0 | h0
        · subst h0; simp at h
        · omega⟩
      have hl : l.length = p * n + (n - 1) := by rw [Nat.add_mul] at h; omega
      rw [ih p (n - 1) hl (by omega), hl, Nat.mul_comm p n, Nat.mul_add_mod, Nat.mod_eq_of_lt (by omega : n - 1 < n)]
      by_cases hkn : n - 1 = k
      · rw [if_pos hkn, if_neg (by omega), if_neg (by omega)]; simp
      · rw [if_neg hkn, if_pos (by omega), if_neg (by omega)]; simp
    · have hl : l.length = q * n + (r - 1) := by omega
      rw [ih q (r - 1) hl (by omega), hl, Nat.mul_comm q n, Nat.mul_add_mod, Nat.mod_eq_of_lt (by omega : r - 1 < n)]
      by_cases hkn : r - 1 = k
      · rw [if_pos hkn, if_neg (by omega), if_pos (by omega)]; simp
      · rw [if_neg hkn]
        by_cases hk2 : k < r
        · rw [if_pos (by omega), if_pos hk2]; simp
        · rw [if_neg (by omega), if_neg hk2]; simp
theorem col_get (n : Nat) (hn : 0 < n) (l : List α) (i : Nat) (hi : i < l.length) : (col n (i % n) l)[i / n]? = some l[i] := by
  have e : l = l.take i ++ ([l[i]] ++ l.drop (i + 1)) := by rw [List.singleton_append, List.getElem_cons_drop, List.take_append_drop]
  have hl : (l.take i).length = i / n * n + i % n := by rw [List.length_take, Nat.min_eq_left (by omega), Nat.mul_comm]; exact (Nat.div_add_mod i n).symm
  have h1 := col_len n (i % n) (Nat.mod_lt _ hn) (l.take i) (i / n) (i % n) hl (Nat.mod_lt _ hn)
  rw [if_neg (Nat.lt_irrefl _), Nat.add_zero] at h1
  have h2 : col n (i % n) (l.take i ++ [l[i]]) = col n (i % n) (l.take i) ++ [l[i]] := by
    rw [col_snoc, if_pos (by rw [List.length_take, Nat.min_eq_left (by omega)])]
  obtain ⟨r, h3⟩ := col_app n (i % n) (l.take i ++ [l[i]]) (l.drop (i + 1))
  rw [List.append_assoc, ← e, h2] at h3
  rw [h3, List.getElem?_append_left (by rw [List.length_append, h1]; simp), List.getElem?_append_right (by omega), h1]
  simp
end
end Go.Proofs.YtmjpaaippilioaaDoor

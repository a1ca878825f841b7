import Derived.Test.YtllicaibgjjidaaRhQ
namespace Go.Proofs.Ytllicaibgjjidaa
open Go.RowKit

/-! ### plain laws of what is rehashed -/
theorem flatF_mem (qs : List (List En)) : ∀ (c : Nat) (p : Nat × En), p ∈ flatF c qs → ∃ (i : Nat) (h : i < qs.length), p.1 = c + i ∧ p.2 ∈ qs[i] := by
  induction qs with
  | nil => intro c p h; cases h
  | cons q r ih =>
    intro c p h
    rcases List.mem_append.1 h with h | h
    · obtain ⟨e, he, rfl⟩ := List.mem_map.1 h
      exact ⟨0, by simp, rfl, he⟩
    · obtain ⟨i, hi, h1, h2⟩ := ih _ _ h
      exact ⟨i + 1, by simpa using hi, by omega, by simpa using h2⟩
theorem bks_ok (nb : Nat) (l : List En) : (flat (bks nb l)).all (okp nb) = true := by
  rw [List.all_eq_true]
  intro p hp
  obtain ⟨i, hi, h1, h2⟩ := flatF_mem _ _ _ hp
  rw [bks_at] at h2
  have := (List.mem_filter.1 h2).2
  unfold okp
  rw [h1, Nat.zero_add]
  exact this
theorem plc_rehash (nb : Nat) (h2 : 2 ≤ nb) (h8 : nb ≤ 8) (l : List En) : plc (nb : Int) (bks nb l) = true := by
  unfold plc
  rw [(tbl_iff _).2 ⟨by omega, by omega⟩, sz_pow nb h2 h8, bks_len, Int.toNat_natCast, bks_ok]
  simp
theorem flatten_set_len {qs : List (List En)} {i : Nat} (h : i < qs.length) (x : En) : (qs.set i (qs[i] ++ [x])).flatten.length = qs.flatten.length + 1 := by
  induction qs generalizing i with
  | nil => simp at h
  | cons q r ih =>
    cases i with
    | zero => simp; omega
    | succ i =>
      have := ih (i := i) (by simpa using h)
      simp only [List.set_cons_succ, List.getElem_cons_succ, List.flatten_cons, List.length_append]
      omega
theorem bks_flen (nb : Nat) (h2 : 2 ≤ nb) (h8 : nb ≤ 8) (l : List En) : (bks nb l).flatten.length = l.length := by
  have : ∀ r : List En, (bks nb r.reverse).flatten.length = r.length := by
    intro r
    induction r with
    | nil => rw [List.reverse_nil, bks_nil]; simp
    | cons x r ih =>
      have hb := hs_lt x.k.toNat nb h2 h8
      have hl : hk nb x < (bks nb r.reverse).length := by rw [bks_len]; exact hb
      rw [List.reverse_cons, bks_snoc, ← bks_at nb r.reverse (hk nb x) hl, flatten_set_len hl, ih, List.length_cons]
  have h := this l.reverse
  rwa [List.reverse_reverse, List.length_reverse] at h
theorem flatten_one {α : Type} (X : List α) (h : Nat) : ∀ n, ((List.range n).map fun b => if b = h then X else []).flatten = if h < n then X else [] := by
  intro n
  induction n with
  | zero => simp
  | succ n ih =>
    rw [List.range_succ, List.map_append, List.flatten_append, ih]
    simp only [List.map_cons, List.map_nil, List.flatten_cons, List.flatten_nil, List.append_nil]
    by_cases h1 : h < n
    · rw [if_pos h1, if_neg (by omega), if_pos (by omega), List.append_nil]
    · rw [if_neg h1]
      by_cases h2 : n = h
      · rw [if_pos h2, if_pos (by omega), List.nil_append]
      · rw [if_neg h2, if_neg (by omega)]; rfl
theorem filter_flatten (p : En → Bool) (qs : List (List En)) : qs.flatten.filter p = (qs.map fun q => q.filter p).flatten := by
  induction qs with
  | nil => rfl
  | cons q r ih => simp [List.filter_append, ih]
/-- A filter that knows the bucket picks out of that bucket alone. -/
theorem bks_pick (nb : Nat) (l : List En) (p : En → Bool) (h : Nat) (hh : h < 2 ^ nb) (hp : ∀ x, p x = true → hk nb x = h) : (bks nb l).flatten.filter p = l.filter p := by
  rw [filter_flatten]
  unfold bks
  rw [List.map_map]
  have e : ((fun q => List.filter p q) ∘ fun b => bk nb b l) = fun b => if b = h then l.filter p else [] := by
    funext b
    show (bk nb b l).filter p = _
    unfold bk
    rw [List.filter_filter]
    split
    · rename_i hb
      subst hb
      refine List.filter_congr fun x _ => ?_
      cases hx : p x with
      | false => rfl
      | true => simp [hp x hx]
    · rename_i hb
      rw [List.filter_eq_nil_iff]
      intro x _ hc
      simp at hc
      exact hb (hc.2.symm.trans (hp x hc.1))
  rw [e, flatten_one, if_pos hh]
theorem bk_pick (nb : Nat) (l : List En) (p : En → Bool) (h : Nat) (hp : ∀ x, p x = true → hk nb x = h) : (bk nb h l).filter p = l.filter p := by
  unfold bk
  rw [List.filter_filter]
  refine List.filter_congr fun x _ => ?_
  cases hx : p x with
  | false => rfl
  | true => simp [hp x hx]
theorem ky_bks (nb : Nat) (h2 : 2 ≤ nb) (h8 : nb ≤ 8) (l : List En) (key : Int) : ky key (bks nb l).flatten = ky key l :=
  bks_pick nb l _ (hs key.toNat nb) (hs_lt _ _ h2 h8) fun x hx => by
    have : x.k = key := by simpa using hx
    unfold hk
    rw [this]
theorem ky_bk (nb : Nat) (l : List En) (key : Int) : ky key (bk nb (hs key.toNat nb) l) = ky key l :=
  bk_pick nb l _ _ fun x hx => by
    have : x.k = key := by simpa using hx
    unfold hk
    rw [this]
theorem hk_half {n m : Nat} (x : En) (hnm : n ≤ m) (hm : m ≤ 63) : hk m x / 2 ^ (m - n) = hk n x := by
  obtain ⟨d, rfl⟩ : ∃ d, m = n + d := ⟨m - n, by omega⟩
  rw [show n + d - n = d from by omega]
  unfold hk
  induction d with
  | zero => simp
  | succ d ih =>
    rw [← ih (by omega) (by omega), Nat.pow_succ, Nat.mul_comm, ← Nat.div_div_eq_div_mul, ← Nat.add_assoc, hs_half _ _ (by omega)]
/-- Rehashed on by more bits: as rehashed at once. -/
theorem bk_again (n m i : Nat) (hnm : n ≤ m) (hm : m ≤ 8) (hi : i < 2 ^ m) (l : List En) : bk m i (bks n l).flatten = bk m i l := by
  have hh : i / 2 ^ (m - n) < 2 ^ n := by
    rw [Nat.div_lt_iff_lt_mul (Nat.two_pow_pos _), ← Nat.pow_add, show n + (m - n) = m from by omega]
    exact hi
  exact bks_pick n l _ _ hh fun x hx => by
    have : hk m x = i := by simpa using hx
    rw [← this]
    exact (hk_half x hnm (by omega)).symm
theorem rehash_again (n m : Nat) (hnm : n ≤ m) (hm : m ≤ 8) (qs : List (List En)) : rehash m (rehash n qs) = rehash m qs := by
  unfold rehash
  apply List.ext_getElem
  · rw [bks_len, bks_len]
  · intro i h1 h3
    rw [bks_at, bks_at]
    exact bk_again n m i hnm hm (by rw [bks_len] at h1; exact h1) _
end Go.Proofs.Ytllicaibgjjidaa

import Derived.Test.YtajcijocjbakbaaTbU
namespace Go.Proofs.Ytajcijocjbakbaa
open Go.RowKit

/-! ### plain laws of growing -/
theorem flatten_set_len {qs : List (List En)} {i : Nat} (h : i < qs.length) (x : En) : (qs.set i (qs[i] ++ [x])).flatten.length = qs.flatten.length + 1 := by
  induction qs generalizing i with
  | nil => simp at h
  | cons q r ih =>
    cases i with
    | zero => simp; omega
    | succ i =>
      have := ih (i := i) (by simpa using h)
      simp only [List.set_cons_succ, List.getElem_cons_succ, List.flatten_cons, List.length_append]
      omega
theorem bks_flen (nb : Nat) (h2 : 2 ≤ nb) (h8 : nb ≤ 8) (l : List En) : (bks nb l).flatten.length = l.length := by
  have : ∀ r : List En, (bks nb r.reverse).flatten.length = r.length := by
    intro r
    induction r with
    | nil => rw [List.reverse_nil, bks_nil]; simp
    | cons x r ih =>
      have hb := hs_lt x.k.toNat nb h2 h8
      have hl : hk nb x < (bks nb r.reverse).length := by rw [bks_len]; exact hb
      rw [List.reverse_cons, bks_snoc, ← bks_at nb r.reverse (hk nb x) hl, flatten_set_len hl, ih, List.length_cons]
  have h := this l.reverse
  rwa [List.reverse_reverse, List.length_reverse] at h
theorem flatten_one {α : Type} (X : List α) (h : Nat) : ∀ n, ((List.range n).map fun b => if b = h then X else []).flatten = if h < n then X else [] := by
  intro n
  induction n with
  | zero => simp
  | succ n ih =>
    rw [List.range_succ, List.map_append, List.flatten_append, ih]
    simp only [List.map_cons, List.map_nil, List.flatten_cons, List.flatten_nil, List.append_nil]
    by_cases h1 : h < n
    · rw [if_pos h1, if_neg (by omega), if_pos (by omega), List.append_nil]
    · rw [if_neg h1]
      by_cases h2 : n = h
      · rw [if_pos h2, if_pos (by omega), List.nil_append]
      · rw [if_neg h2, if_neg (by omega)]; rfl
theorem filter_flatten (p : En → Bool) (qs : List (List En)) : qs.flatten.filter p = (qs.map fun q => q.filter p).flatten := by
  induction qs with
  | nil => rfl
  | cons q r ih => simp [List.filter_append, ih]
/-- A filter that knows the bucket picks out of that bucket alone. -/
theorem bks_pick (nb : Nat) (l : List En) (p : En → Bool) (h : Nat) (hh : h < 2 ^ nb) (hp : ∀ x, p x = true → hk nb x = h) : (bks nb l).flatten.filter p = l.filter p := by
  rw [filter_flatten]
  unfold bks
  rw [List.map_map]
  have e : ((fun q => List.filter p q) ∘ fun b => bk nb b l) = fun b => if b = h then l.filter p else [] := by
    funext b
    show (bk nb b l).filter p = _
    unfold bk
    rw [List.filter_filter]
    split
    · rename_i hb
      subst hb
      refine List.filter_congr fun x _ => ?_
      cases hx : p x with
      | false => rfl
      | true => simp [hp x hx]
    · rename_i hb
      rw [List.filter_eq_nil_iff]
      intro x _ hc
      simp at hc
      exact hb (hc.2.symm.trans (hp x hc.1))
  rw [e, flatten_one, if_pos hh]
theorem bk_pick (nb : Nat) (l : List En) (p : En → Bool) (h : Nat) (hp : ∀ x, p x = true → hk nb x = h) : (bk nb h l).filter p = l.filter p := by
  unfold bk
  rw [List.filter_filter]
  refine List.filter_congr fun x _ => ?_
  cases hx : p x with
  | false => rfl
  | true => simp [hp x hx]
theorem hk_half {n m : Nat} (x : En) (hnm : n ≤ m) (hm : m ≤ 63) : hk m x / 2 ^ (m - n) = hk n x := by
  obtain ⟨d, rfl⟩ : ∃ d, m = n + d := ⟨m - n, by omega⟩
  rw [show n + d - n = d from by omega]
  unfold hk
  induction d with
  | zero => simp
  | succ d ih =>
    rw [← ih (by omega) (by omega), Nat.pow_succ, Nat.mul_comm, ← Nat.div_div_eq_div_mul, ← Nat.add_assoc, hs_half _ _ (by omega)]
/-- Rehashed on by more bits: as rehashed at once. -/
theorem bk_again (n m i : Nat) (hnm : n ≤ m) (hm : m ≤ 8) (hi : i < 2 ^ m) (l : List En) : bk m i (bks n l).flatten = bk m i l := by
  have hh : i / 2 ^ (m - n) < 2 ^ n := by
    rw [Nat.div_lt_iff_lt_mul (Nat.two_pow_pos _), ← Nat.pow_add, show n + (m - n) = m from by omega]
    exact hi
  exact bks_pick n l _ _ hh fun x hx => by
    have : hk m x = i := by simpa using hx
    rw [← this]
    exact (hk_half x hnm (by omega)).symm
theorem rehash_again (n m : Nat) (hnm : n ≤ m) (hm : m ≤ 8) (qs : List (List En)) : rehash m (rehash n qs) = rehash m qs := by
  unfold rehash
  apply List.ext_getElem
  · rw [bks_len, bks_len]
  · intro i h1 h3
    rw [bks_at, bks_at]
    exact bk_again n m i hnm hm (by rw [bks_len] at h1; exact h1) _
theorem vq_row {v : List Vt} {d : Int} {bs : List Vk} (hg : vget v d = some bs) (i : Nat) : vq v d i = ((bs[i]?).map (·.2.2)).getD [] := by
  unfold vq vk
  rw [if_pos (by omega), hg]
  simp
theorem vbegun_at (now : Int) (qs : List (List En)) (i : Nat) : (vbegun now qs)[i]? = (qs[i]?).map fun q => (now, now, q) := by
  unfold vbegun
  rw [List.getElem?_map]
theorem bks_get (nb : Nat) (l : List En) (i : Nat) (h : i < 2 ^ nb) : (bks nb l)[i]? = some (bk nb i l) := by
  rw [List.getElem?_eq_getElem (by rw [bks_len]; exact h), bks_at]
/-- All entries stand in the table of nb bits, where they hash to. -/
structure GI (v : List Vt) (nb : Nat) (now : Int) (l : List En) : Prop where
  h2 : 2 ≤ nb
  h8 : nb ≤ 8
  g0 : vget v nb = some (vbegun now (bks nb l))
  g1 : ∀ d : Int, d ≠ nb → ∀ bs, vget v d = some bs → ∀ k ∈ bs, k.2.2 = []
  g2 : ∀ d : Int, (nb : Int) < d → vget v d = none
  few : VFewN v l.length
theorem GI.q {v : List Vt} {nb : Nat} {now : Int} {l : List En} (h : GI v nb now l) (i : Nat) (hi : i < 2 ^ nb) : vq v nb i = bk nb i l := by
  rw [vq_row h.g0, vbegun_at, bks_get nb l i hi]
  rfl
theorem GI.k {v : List Vt} {nb : Nat} {now : Int} {l : List En} (h : GI v nb now l) (i : Nat) (hi : i < 2 ^ nb) : vk v nb i = some (now, now, bk nb i l) := by
  unfold vk
  rw [if_pos (by omega), h.g0]
  simp [vbegun_at, bks_get nb l i hi]
/-- The first table, as entries are put one by one. -/
def vpl (l : List En) : List Vt := [(2, vbegun 0 (bks 2 l))]
theorem vget_vpl (l : List En) (d : Int) : vget (vpl l) d = if d = 2 then some (vbegun 0 (bks 2 l)) else none := by
  unfold vget vpl
  by_cases h : d = 2
  · subst h; rfl
  · rw [List.find?_cons_of_neg (by simpa using fun e => h e.symm), if_neg h]
    rfl
theorem vpl_GI (l : List En) : GI (vpl l) 2 0 l := by
  refine ⟨by omega, by omega, by rw [vget_vpl]; rfl, fun d hd bs hb => ?_, fun d hd => ?_, fun d => ?_⟩
  · rw [vget_vpl, if_neg (by omega)] at hb; cases hb
  · rw [vget_vpl, if_neg (by omega)]
  · unfold vrow
    rw [vget_vpl]
    split
    · show ((vbegun 0 (bks 2 l)).flatMap _).length ≤ _
      rw [vbegun_q]
      exact rehash_few 2 l
    · simp
theorem vpl_new : vnew 0 = vpl [] := by
  unfold vnew vpl
  rw [bks_nil]
theorem vput_one (B : List Vk) (j : Nat) (k : Vk) : vput [((2 : Int), B)] 2 j k = [(2, B.set j k)] := rfl
theorem vputq_one (B : List Vk) (j : Nat) (k : Vk) (h : B[j]? = some k) (q : List En) : vputq [((2 : Int), B)] 2 (j : Int) q = [(2, B.set j (k.1, k.2.1, q))] := by
  have hk : vk [((2 : Int), B)] 2 (j : Int) = some k := by
    unfold vk
    rw [if_pos (by omega), show vget [((2 : Int), B)] 2 = some B from rfl]
    simpa using h
  unfold vputq
  rw [hk, Int.toNat_natCast]
  exact vput_one B j _
theorem vbegun_set (now : Int) (qs : List (List En)) (j : Nat) (q : List En) : (vbegun now qs).set j (now, now, q) = vbegun now (qs.set j q) := by
  unfold vbegun
  rw [List.map_set]
theorem vpl_put (l : List En) (e : En) (j : Nat) (hj : hk 2 e = j) : vputq (vpl l) 2 (j : Int) (vq (vpl l) 2 (j : Int) ++ [e]) = vpl (l ++ [e]) := by
  have hlt : j < 2 ^ 2 := by rw [← hj]; exact hs_lt _ 2 (by omega) (by omega)
  have hq : vq (vpl l) 2 (j : Int) = bk 2 j l := (vpl_GI l).q j hlt
  rw [hq]
  unfold vpl
  rw [vputq_one _ j (0, 0, bk 2 j l) (by rw [vbegun_at, bks_get 2 l j hlt]; rfl), vbegun_set, bks_snoc, hj]
theorem GI.grow {v : List Vt} {nb : Nat} {now : Int} {l : List En} (h : GI v nb now l) (m : Nat) (h1 : nb < m) (h8 : m ≤ 8) (now' : Int) : vcan v nb m = true ∧ GI (vgrow v nb m now') m now' l ∧ vcan (vgrow v nb m now') nb m = false := by
  have hc : vcan v nb m = true := by
    unfold vcan
    rw [h.g0, h.g2 m (by omega)]
    have : tbl m = true := (tbl_iff _).2 (by have := h.h2; omega)
    rw [this]
    simp
    omega
  have hrow : (vrow v nb).map (·.2.2) = bks nb l := by
    unfold vrow
    rw [h.g0]
    show (vbegun now (bks nb l)).map _ = _
    unfold vbegun
    rw [List.map_map]
    show (bks nb l).map (fun q => q) = _
    simp
  have hg := fun d => vget_grow (now := now') hc d
  rw [hrow] at hg
  have hr : rehash (m : Int).toNat (bks nb l) = bks m l := by
    rw [Int.toNat_natCast]
    unfold rehash
    apply List.ext_getElem
    · rw [bks_len, bks_len]
    · intro i q1 q2
      rw [bks_at, bks_at]
      exact bk_again nb m i (by omega) h8 (by rw [bks_len] at q1; exact q1) l
  rw [hr] at hg
  refine ⟨hc, ⟨by have := h.h2; omega, h8, by rw [hg, if_pos rfl], fun d hd bs hb => ?_, fun d hd => ?_, h.few.grow _ _ _⟩, ?_⟩
  · rw [hg, if_neg hd] at hb
    split at hb
    · rw [h.g0] at hb
      injection hb with hb
      subst hb
      intro k hk
      obtain ⟨k0, _, rfl⟩ := List.mem_map.1 hk
      rfl
    · rename_i hne
      exact h.g1 d hne bs hb
  · rw [hg, if_neg (by omega), if_neg (by omega)]
    exact h.g2 d (by omega)
  · unfold vcan
    rw [hg m, if_pos rfl]
    simp
theorem GI.has {v : List Vt} {nb : Nat} {now : Int} {l : List En} (h : GI v nb now l) : (vget v nb).isSome = true := by rw [h.g0]; rfl
theorem GI.hasGrow {v : List Vt} {nb : Nat} {now : Int} {l : List En} (h : GI v nb now l) (m : Nat) (h1 : nb < m) (h8 : m ≤ 8) (now' : Int) : (vget v m).isSome = false ∧ (vget (vgrow v nb m now') nb).isSome = true := by
  obtain ⟨hc, _, _⟩ := h.grow m h1 h8 now'
  refine ⟨by rw [h.g2 m (by omega)]; rfl, ?_⟩
  rw [vget_grow hc, if_neg (by omega), if_pos rfl, h.g0]
  rfl
theorem GI.tm {v : List Vt} {nb : Nat} {now : Int} {l : List En} (h : GI v nb now l) (i : Nat) (hi : i < 2 ^ nb) : vtm v nb i = (now, now) := by
  unfold vtm
  rw [h.k i hi]
  rfl
/-! places -/
theorem plq_all (d : Int) (i : Nat) (th : Int) (q : List En) : ∀ p ∈ plq d i th q, p.1 = d := by
  intro p hp
  obtain ⟨x, _, rfl⟩ := List.mem_map.1 hp
  rfl
theorem pltN_all (d th : Int) (bs : List Vk) : ∀ n, ∀ p ∈ pltN d th bs n, p.1 = d
  | 0 => by intro p hp; cases hp
  | n + 1 => by
    intro p hp
    rcases List.mem_append.1 hp with hp | hp
    · exact pltN_all d th bs n p hp
    · exact plq_all _ _ _ _ p hp
theorem pltN_nil (d th : Int) (bs : List Vk) (h : ∀ k ∈ bs, k.2.2 = []) : ∀ n, pltN d th bs n = []
  | 0 => rfl
  | n + 1 => by
    rw [pltN, pltN_nil d th bs h n]
    have : kq bs n = [] := by
      unfold kq
      cases hx : bs[n]? with
      | none => rfl
      | some k => exact h k (List.mem_of_getElem? hx)
    rw [this]
    rfl
theorem plq_count (d : Int) (i : Nat) (th : Int) (q : List En) : (plq d i th q).length = q.countP fun e => e.t == th := by
  unfold plq
  rw [List.length_map, List.countP_eq_length_filter]
theorem pltN_count (d th now : Int) (qs : List (List En)) : ∀ n, n ≤ qs.length → (pltN d th (vbegun now qs) n).length = (qs.take n).flatten.countP fun e => e.t == th
  | 0, _ => by simp [pltN]
  | n + 1, hn => by
    have h := pltN_count d th now qs n (by omega)
    have hq : qs[n]? = some qs[n] := List.getElem?_eq_getElem (by omega)
    have hk : kq (vbegun now qs) n = qs[n] := by
      unfold kq
      rw [vbegun_at, hq]
      rfl
    rw [pltN, List.length_append, h, hk, plq_count, List.take_add_one, hq, List.flatten_append, List.countP_append]
    simp
theorem countP_flatten_bks (nb : Nat) (h2 : 2 ≤ nb) (h8 : nb ≤ 8) (l : List En) (p : En → Bool) : (bks nb l).flatten.countP p = l.countP p := by
  rw [← List.reverse_reverse l]
  induction l.reverse with
  | nil => rw [List.reverse_nil, bks_nil]; simp
  | cons e r ih =>
    rw [List.reverse_cons, bks_snoc, List.countP_append, ← ih]
    have hlt : hk nb e < (bks nb r.reverse).length := by rw [bks_len]; exact hs_lt _ nb h2 h8
    obtain ⟨L, hL⟩ : ∃ L, bks nb r.reverse = L := ⟨_, rfl⟩
    have hat : L[hk nb e]? = some (bk nb (hk nb e) r.reverse) := by rw [← hL, List.getElem?_eq_getElem hlt, bks_at]
    rw [hL] at hlt ⊢
    generalize hk nb e = j at *
    generalize bk nb j r.reverse = q at *
    clear hL ih
    induction L generalizing j with
    | nil => simp at hlt
    | cons a R ih =>
      cases j with
      | zero =>
        injection hat with hat
        subst hat
        simp only [List.set_cons_zero, List.flatten_cons, List.countP_append]
        omega
      | succ j =>
        have := ih j (by simpa using hlt) (by simpa using hat)
        simp only [List.set_cons_succ, List.flatten_cons, List.countP_append] at this ⊢
        omega
theorem plsN_GI {v : List Vt} {nb : Nat} {now : Int} {l : List En} (h : GI v nb now l) (th : Int) : ∀ n, (∀ p ∈ plsN th v n, p.1 = (nb : Int)) ∧ (plsN th v n).length = if nb < 2 + n then l.countP fun e => e.t == th else 0
  | 0 => by
    refine ⟨(fun p hp => by cases hp), ?_⟩
    rw [if_neg (by have := h.h2; omega)]
    rfl
  | n + 1 => by
    obtain ⟨h1, h2⟩ := plsN_GI h th n
    by_cases hd : 2 + n = nb
    · have hrow : vrow v (2 + n : Nat) = vbegun now (bks nb l) := by unfold vrow; rw [hd, h.g0]; rfl
      have hl : (vbegun now (bks nb l)).length = (bks nb l).length := by unfold vbegun; rw [List.length_map]
      rw [plsN, hrow, hl]
      refine ⟨fun p hp => ?_, ?_⟩
      · rcases List.mem_append.1 hp with hp | hp
        · exact h1 p hp
        · rw [pltN_all _ _ _ _ p hp, hd]
      · rw [List.length_append, h2, if_neg (by omega), pltN_count _ _ _ _ _ (Nat.le_refl _), List.take_length, countP_flatten_bks nb h.h2 h.h8, if_pos (by omega)]
        omega
    · have hz : ∀ m, pltN (2 + n : Nat) th (vrow v (2 + n : Nat)) m = [] := by
        refine pltN_nil _ _ _ fun k hk => ?_
        unfold vrow at hk
        cases hg : vget v (2 + n : Nat) with
        | none => rw [hg] at hk; cases hk
        | some bs => rw [hg] at hk; exact h.g1 _ (by omega) bs hg k hk
      rw [plsN, hz, List.append_nil]
      refine ⟨h1, ?_⟩
      rw [h2]
      by_cases hlt : nb < 2 + n
      · rw [if_pos hlt, if_pos (by omega)]
      · rw [if_neg hlt, if_neg (by omega)]
theorem pls_GI {v : List Vt} {nb : Nat} {now : Int} {l : List En} (h : GI v nb now l) (th : Int) : (∀ p ∈ pls th v, p.1 = (nb : Int)) ∧ (pls th v).length = l.countP fun e => e.t == th := by
  obtain ⟨h1, h2⟩ := plsN_GI h th 7
  refine ⟨h1, ?_⟩
  rw [if_pos (by have := h.h8; omega)] at h2
  exact h2
end Go.Proofs.Ytajcijocjbakbaa

import Derived.Test.YtajcijocjbakbaaTbR
namespace Go.Proofs.Ytajcijocjbakbaa
open Go.RowKit

/-! ### plain laws of what is seen -/
theorem vget_map {v : List Vt} (f : Vt → List Vk) (d : Int) : vget (v.map fun p => (p.1, f p)) d = (v.find? fun p => p.1 = d).map f := by
  unfold vget
  induction v with
  | nil => rfl
  | cons p r ih =>
    by_cases e : p.1 = d
    · rw [List.map_cons, List.find?_cons_of_pos (by show decide (p.1 = d) = true; simpa using e), List.find?_cons_of_pos (by simpa using e)]
      rfl
    · rw [List.map_cons, List.find?_cons_of_neg (by show ¬ decide (p.1 = d) = true; simpa using e), List.find?_cons_of_neg (by simpa using e)]
      exact ih
theorem vget_alter (v : List Vt) (d : Int) (f : List Vk → List Vk) (d' : Int) : vget (v.map fun p => if p.1 = d then (p.1, f p.2) else p) d' = if d' = d then (vget v d).map f else vget v d' := by
  have e : (v.map fun p => if p.1 = d then (p.1, f p.2) else p) = v.map fun p => (p.1, if p.1 = d then f p.2 else p.2) := List.map_congr_left fun p _ => by split <;> rfl
  rw [e, vget_map]
  unfold vget
  by_cases h : d' = d
  · subst h
    rw [if_pos rfl]
    cases hf : v.find? (fun p => p.1 = d') with
    | none => rfl
    | some p =>
      have : p.1 = d' := by simpa using List.find?_some hf
      simp [this]
  · rw [if_neg h]
    cases hf : v.find? (fun p => p.1 = d') with
    | none => rfl
    | some p =>
      have h1 : p.1 = d' := by simpa using List.find?_some hf
      have : p.1 ≠ d := fun e => h (h1.symm.trans e)
      simp [this]
theorem vget_vput (v : List Vt) (d : Int) (i : Nat) (k : Vk) (d' : Int) : vget (vput v d i k) d' = if d' = d then (vget v d).map (·.set i k) else vget v d' := vget_alter v d (·.set i k) d'
theorem vk_some_iff {v : List Vt} {d i : Int} {k : Vk} (h : vk v d i = some k) : 0 ≤ i ∧ ∃ bs, vget v d = some bs ∧ bs[i.toNat]? = some k := by
  unfold vk at h
  split at h
  · rename_i h0
    cases hg : vget v d with
    | none => rw [hg] at h; cases h
    | some bs => rw [hg] at h; exact ⟨h0, bs, rfl, h⟩
  · cases h
theorem vk_vput {v : List Vt} {d i : Int} {k k0 : Vk} (h : vk v d i = some k0) (d' i' : Int) : vk (vput v d i.toNat k) d' i' = if d' = d ∧ i' = i then some k else vk v d' i' := by
  obtain ⟨h0, bs, hg, hb⟩ := vk_some_iff h
  obtain ⟨hlt, _⟩ := List.getElem?_eq_some_iff.1 hb
  unfold vk
  rw [vget_vput]
  by_cases hd : d' = d
  · subst hd
    rw [if_pos rfl, hg]
    by_cases hi : i' = i
    · subst hi
      simp [h0, hlt]
    · by_cases h1 : 0 ≤ i'
      · have : i.toNat ≠ i'.toNat := by omega
        simp [hi, h1, this]
      · simp [hi, h1]
  · simp [hd]
theorem vputq_at {v : List Vt} {d i : Int} {k : Vk} (h : vk v d i = some k) (q : List En) (d' i' : Int) : vk (vputq v d i q) d' i' = if d' = d ∧ i' = i then some (k.1, k.2.1, q) else vk v d' i' := by
  unfold vputq
  rw [h]
  exact vk_vput h d' i'
theorem vputt_at {v : List Vt} {d i : Int} {k : Vk} (h : vk v d i = some k) (a f : Int) (d' i' : Int) : vk (vputt v d i a f) d' i' = if d' = d ∧ i' = i then some (a, f, k.2.2) else vk v d' i' := by
  unfold vputt
  rw [h]
  exact vk_vput h d' i'
/-! how many entries there are -/
def VFewN (v : List Vt) (N : Nat) : Prop := ∀ d, ((vrow v d).flatMap (·.2.2)).length ≤ N
theorem VFewN.few {v : List Vt} {N : Nat} (h : VFewN v N) (hN : N ≤ 4000) : VFew v := fun d => Nat.le_trans (h d) hN
theorem set_flat {α β : Type} (f : α → List β) (l : List α) (i : Nat) (x : α) : ((l.set i x).flatMap f).length ≤ (l.flatMap f).length + (f x).length := by
  induction l generalizing i with
  | nil => simp
  | cons a r ih =>
    cases i with
    | zero => simp; omega
    | succ i =>
      have := ih i
      simp only [List.set_cons_succ, List.flatMap_cons, List.length_append]
      omega
theorem set_flat_eq {α β : Type} (f : α → List β) (l : List α) (i : Nat) (x a : α) (h : l[i]? = some a) : ((l.set i x).flatMap f).length + (f a).length = (l.flatMap f).length + (f x).length := by
  induction l generalizing i with
  | nil => cases h
  | cons b r ih =>
    cases i with
    | zero =>
      injection h with h
      subst h
      simp; omega
    | succ i =>
      have := ih i (by simpa using h)
      simp only [List.set_cons_succ, List.flatMap_cons, List.length_append]
      omega
theorem VFewN.putq {v : List Vt} {N M : Nat} (h : VFewN v N) (d i : Int) (q : List En) (hq : q.length ≤ M) : VFewN (vputq v d i q) (N + M) := by
  intro d'
  unfold vputq
  cases hk : vk v d i with
  | none => exact Nat.le_trans (h d') (by omega)
  | some k =>
    show ((vrow (vput v d i.toNat _) d').flatMap _).length ≤ _
    unfold vrow
    rw [vget_vput]
    by_cases hd : d' = d
    · subst hd
      rw [if_pos rfl]
      have h1 := h d'
      unfold vrow at h1
      cases hg : vget v d' with
      | none => simp
      | some bs =>
        rw [hg] at h1
        refine Nat.le_trans (set_flat (·.2.2) bs i.toNat _) ?_
        simp only [Option.getD_some] at h1
        show _ + q.length ≤ _
        omega
    · rw [if_neg hd]
      exact Nat.le_trans (h d') (by omega)
theorem VFewN.putt {v : List Vt} {N : Nat} (h : VFewN v N) (d i a f : Int) : VFewN (vputt v d i a f) N := by
  intro d'
  unfold vputt
  cases hk : vk v d i with
  | none => exact h d'
  | some k =>
    show ((vrow (vput v d i.toNat _) d').flatMap _).length ≤ _
    obtain ⟨h0, bs, hg, hb⟩ := vk_some_iff hk
    unfold vrow
    rw [vget_vput]
    by_cases hd : d' = d
    · subst hd
      rw [if_pos rfl, hg]
      have h1 := h d'
      unfold vrow at h1
      rw [hg] at h1
      simp only [Option.getD_some] at h1
      have h2 := set_flat_eq (·.2.2) bs i.toNat (a, f, k.2.2) k hb
      show ((bs.set i.toNat (a, f, k.2.2)).flatMap (·.2.2)).length ≤ N
      simp only at h2
      omega
    · rw [if_neg hd]
      exact h d'
theorem rehash_few (nb : Nat) (l : List En) : (bks nb l).flatten.length ≤ l.length := by
  rw [← List.reverse_reverse l]
  induction l.reverse with
  | nil => rw [List.reverse_nil, bks_nil]; simp
  | cons e r ih =>
    rw [List.reverse_cons, bks_snoc]
    by_cases hlt : hk nb e < (bks nb r.reverse).length
    · have h1 := set_flat_eq (fun x : List En => x) (bks nb r.reverse) (hk nb e) (bk nb (hk nb e) r.reverse ++ [e]) (bk nb (hk nb e) r.reverse) (by rw [List.getElem?_eq_getElem hlt, bks_at])
      simp only [List.flatMap_id', List.length_append, List.length_singleton] at h1 ⊢
      rw [← List.flatMap_id'] at ih
      simp only [List.flatMap_id'] at ih
      omega
    · rw [List.set_eq_of_length_le (by omega), List.length_append]
      omega
theorem vget_clr (v : List Vt) (d d' : Int) : vget (vclr v d) d' = if d' = d then (vget v d).map (List.map fun k => (k.1, k.2.1, [])) else vget v d' := vget_alter v d _ d'
theorem vget_snoc {v : List Vt} (e : Int) (bs : List Vk) (d : Int) : vget (v ++ [(e, bs)]) d = ((vget v d).orElse fun _ => if e = d then some bs else none) := by
  unfold vget
  rw [List.find?_append]
  cases hf : v.find? (fun p => p.1 = d) with
  | some p => rfl
  | none =>
    by_cases h : e = d
    · simp [h]
    · simp [h]
theorem vget_grow {v : List Vt} {d e now : Int} (h : vcan v d e = true) (d' : Int) : vget (vgrow v d e now) d' = if d' = e then some (vbegun now (rehash e.toNat ((vrow v d).map (·.2.2)))) else if d' = d then (vget v d).map (List.map fun k => (k.1, k.2.1, [])) else vget v d' := by
  unfold vgrow
  rw [if_pos h, vget_snoc, vget_clr]
  unfold vcan at h
  simp at h
  obtain ⟨⟨⟨h1, h2⟩, h3⟩, h4⟩ := h
  by_cases hde : d' = e
  · subst hde
    rw [if_neg (by omega), h2]
    simp
  · have hne : ¬ e = d' := fun x => hde x.symm
    simp only [hde, hne, if_false]
    by_cases hd : d' = d
    · simp only [hd, if_true]
      cases vget v d <;> rfl
    · simp only [hd, if_false]
      cases vget v d' <;> rfl
theorem vbegun_q (now : Int) (qs : List (List En)) : (vbegun now qs).flatMap (·.2.2) = qs.flatten := by
  unfold vbegun
  rw [List.flatMap_map, List.flatMap_id']
theorem clr_q (bs : List Vk) : (bs.map fun k => ((k.1, k.2.1, []) : Vk)).flatMap (·.2.2) = [] := by
  rw [List.flatMap_map]
  simp
theorem VFewN.grow {v : List Vt} {N : Nat} (h : VFewN v N) (d e now : Int) : VFewN (vgrow v d e now) N := by
  cases hc : vcan v d e with
  | false => unfold vgrow; rw [hc]; exact h
  | true =>
    intro d'
    unfold vrow
    rw [vget_grow hc]
    by_cases hde : d' = e
    · rw [if_pos hde]
      show ((vbegun now _).flatMap _).length ≤ _
      rw [vbegun_q]
      refine Nat.le_trans (rehash_few _ _) ?_
      rw [← List.flatMap_def]
      exact h d
    · rw [if_neg hde]
      by_cases hd : d' = d
      · rw [if_pos hd]
        cases vget v d with
        | none => simp
        | some bs => show ((bs.map _).flatMap _).length ≤ _; rw [clr_q]; simp
      · rw [if_neg hd]
        exact h d'
theorem VFewN.new_ (now : Int) : VFewN (vnew now) 0 := by
  intro d
  unfold vrow vget vnew
  by_cases h : (2 : Int) = d
  · rw [List.find?_cons_of_pos (by simpa using h)]
    simp [vbegun]
  · rw [List.find?_cons_of_neg (by simpa using h)]
    simp
end Go.Proofs.Ytajcijocjbakbaa

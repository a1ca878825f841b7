import Derived.Test.YtajcijocjbakbaaTdB
import Derived.Deep.RegionLaw
namespace Go.Proofs.Ytajcijocjbakbaa
open Go.RowKit

theorem vrow_put (v : List Vt) (d : Int) (i : Nat) (k : Vk) (e : Int) : vrow (vput v d i k) e = if e = d then (vrow v d).set i k else vrow v e := by
  unfold vrow
  rw [vget_vput]
  by_cases h : e = d
  · rw [if_pos h, if_pos h]
    cases vget v d <;> rfl
  · rw [if_neg h, if_neg h]
theorem VOk.put {v : List Vt} (h : VOk v) (d : Int) (i : Nat) (k : Vk) : VOk (vput v d i k) := by
  intro e bs hg
  rw [vget_vput] at hg
  by_cases he : e = d
  · rw [if_pos he] at hg
    cases hb : vget v d with
    | none => rw [hb] at hg; cases hg
    | some b0 =>
      rw [hb] at hg
      injection hg with hg
      subst hg
      obtain ⟨h1, h2⟩ := h d b0 hb
      rw [he]
      exact ⟨h1, by rw [List.length_set]; exact h2⟩
  · rw [if_neg he] at hg
    exact h e bs hg
theorem tmc_set (l : List Vk) (i : Nat) (k : Vk) (a f : Int) (q : List En) (hk : l[i]? = some k) : ((tmc l).set (i * 2) (.int .u64 a)).set (i * 2 + 1) (.int .u64 f) = tmc (l.set i (a, f, q)) := by
  induction l generalizing i with
  | nil => cases hk
  | cons b r ih =>
    cases i with
    | zero => rfl
    | succ i =>
      have h1 := ih i (by simpa using hk)
      show (([Value.int .u64 b.1, Value.int .u64 b.2.1] ++ tmc r).set _ _).set _ _ = [Value.int .u64 b.1, .int .u64 b.2.1] ++ tmc (r.set i _)
      rw [← h1, List.set_append_right _ _ (by show 2 ≤ _; omega), List.set_append_right _ _ (by show 2 ≤ _; omega)]
      have e1 : (i + 1) * 2 - ([.int .u64 b.1, .int .u64 b.2.1] : List Value).length = i * 2 := by show (i + 1) * 2 - 2 = _; omega
      have e2 : (i + 1) * 2 + 1 - ([.int .u64 b.1, .int .u64 b.2.1] : List Value).length = i * 2 + 1 := by show (i + 1) * 2 + 1 - 2 = _; omega
      rw [e1, e2]
theorem tmc_same (l : List Vk) (i : Nat) (k : Vk) (q : List En) (hk : l[i]? = some k) : tmc (l.set i (k.1, k.2.1, q)) = tmc l := by
  induction l generalizing i with
  | nil => cases hk
  | cons b r ih =>
    cases i with
    | zero => injection hk with hk; subst hk; rfl
    | succ i =>
      have := ih i (by simpa using hk)
      show [Value.int .u64 b.1, Value.int .u64 b.2.1] ++ tmc (r.set i _) = [Value.int .u64 b.1, Value.int .u64 b.2.1] ++ tmc r
      rw [this]
section
variable {w w' : World} {B s : Nat} {T : Nat → RDt} {v : List Vt}
theorem RSet.putT (h : RSet w B s T v) {n m : Nat} {k : Vk} (hn9 : n < 9) (hk : (vrow v n)[m]? = some k) (a f : Int) {gt : Nat} (hgt : blk (T n).ht.A gt) (hw : Frm w w' fun j => j = gt)
    (ht : Sl w' B 2 (T n).ht.A (T n).ht.n (T n).ht.c (tmc ((vrow v n).set m (a, f, k.2.2)))) : RSet w' B s T (vput v n m (a, f, k.2.2)) := by
  have hgs : gt ≠ s := fun e => (h.ds n hn9).2 (e ▸ hgt)
  have hne : ∀ e : Nat, e ≠ n → (e : Int) ≠ (n : Int) := fun e he hh => he (by omega)
  have hvl : ∀ e : Nat, (vrow (vput v n m (a, f, k.2.2)) e).length = (vrow v e).length := fun e => by
    rw [vrow_put]
    split
    · rename_i he; rw [he, List.length_set]
    · rfl
  have hqn : ∀ e : Nat, e < 9 → ∀ j, blk (T e).hq.A j → j ≠ gt := fun e he j hj hjg => (h.dq e he n hn9 j hj).2 (hjg ▸ hgt)
  refine ⟨fun d hd => ⟨hw.cell (h.cell d hd).1 (fun e => hgs e.symm), hw.cell (h.cell d hd).2 (fun e => hgs e.symm)⟩, fun j => (hw.frozen (p := ⟨s, j, none⟩) h.low.2 (fun e => hgs e.symm)).trans (h.free j), ⟨h.low.1, Nat.lt_of_lt_of_le h.low.2 hw.size⟩, ?_, ?_, ?_, ?_, ?_, h.ds, h.dq, h.dt, h.ok.put _ _ _⟩
  · intro d hd
    exact (h.q d hd).frm hw fun j hj e => hqn d hd j hj e
  · intro d hd
    rw [vrow_put]
    by_cases he : d = n
    · subst he
      rw [if_pos rfl]
      exact ht
    · rw [if_neg (hne d he)]
      exact (h.t d hd).frm hw fun j hj e => h.dt d hd n hn9 he j hj (e ▸ hgt)
  · intro d hd
    rw [hvl]
    exact h.n d hd
  · intro d hd i x k' hx hk'
    have hxm := List.mem_of_getElem? hx
    have hno : ∀ j, blk x.A j → ¬ j = gt := fun j hj e => ((h.rb d hd x hxm j hj).2.2.2 n hn9).2 (e ▸ hgt)
    rw [vrow_put] at hk'
    by_cases he : d = n
    · subst he
      rw [if_pos rfl] at hk'
      by_cases him : i = m
      · subst him
        have hlt : i < (vrow v d).length := (List.getElem?_eq_some_iff.1 hk).1
        rw [List.getElem?_set_self hlt] at hk'
        injection hk' with hk'
        subst hk'
        exact (h.r d hd i x k hx hk).frm hw hno
      · rw [List.getElem?_set_ne (Ne.symm him)] at hk'
        exact (h.r d hd i x k' hx hk').frm hw hno
    · rw [if_neg (hne d he)] at hk'
      exact (h.r d hd i x k' hx hk').frm hw hno
  · intro d hd x hx j hj
    obtain ⟨a1, a2, a3⟩ := h.rb d hd x hx j hj
    exact ⟨a1, Nat.lt_of_lt_of_le a2 hw.size, a3⟩
/-- One header is put anew. -/
def RDt.put (t : RDt) (m : Nat) (x : Hd) : RDt := ⟨t.hq, t.hs.set m x, t.ht⟩
theorem RSet.putQ (h : RSet w B s T v) {n m : Nat} {k : Vk} (hn9 : n < 9) (hk : (vrow v n)[m]? = some k) (x : Hd) (q : List En) {gq : Nat} (hgq : blk (T n).hq.A gq) (hw : Frm w w' fun j => j = gq)
    (hq : Sl w' B 1 (T n).hq.A (T n).hq.n (T n).hq.c (hds ((T n).hs.set m x))) (hx : Rd w' w'.heap.size 3 x.A x.n (ens q)) (hxb : ∀ j, blk x.A j → w.heap.size ≤ j ∧ j < w'.heap.size) :
    RSet w' B s (fun e => if e = n then (T n).put m x else T e) (vput v n m (k.1, k.2.1, q)) := by
  have hgs : gq ≠ s := fun e => (h.ds n hn9).1 (e ▸ hgq)
  have hne : ∀ e : Nat, e ≠ n → (e : Int) ≠ (n : Int) := fun e he hh => he (by omega)
  have hlow : B ≤ w.heap.size := Nat.le_trans h.low.1 (Nat.le_of_lt h.low.2)
  have eq : ∀ e : Nat, ((if e = n then (T n).put m x else T e) : RDt).hq = (T e).hq := fun e => by split <;> (try (rename_i he; rw [he])) <;> rfl
  have et : ∀ e : Nat, ((if e = n then (T n).put m x else T e) : RDt).ht = (T e).ht := fun e => by split <;> (try (rename_i he; rw [he])) <;> rfl
  have hml : m < (vrow v n).length := (List.getElem?_eq_some_iff.1 hk).1
  refine ⟨fun d hd => ?_, fun j => (hw.frozen (p := ⟨s, j, none⟩) h.low.2 (fun e => hgs e.symm)).trans (h.free j), ⟨h.low.1, Nat.lt_of_lt_of_le h.low.2 hw.size⟩, ?_, ?_, ?_, ?_, ?_, ?_, ?_, ?_, h.ok.put _ _ _⟩
  · rw [eq, et]
    exact ⟨hw.cell (h.cell d hd).1 (fun e => hgs e.symm), hw.cell (h.cell d hd).2 (fun e => hgs e.symm)⟩
  · intro d hd
    rw [eq]
    by_cases he : d = n
    · subst he
      rw [if_pos rfl]
      exact hq
    · rw [if_neg he]
      exact (h.q d hd).frm hw fun j hj e => (h.dq d hd n hn9 j hj).1 he (e ▸ hgq)
  · intro d hd
    rw [et, vrow_put]
    have hno : ∀ j, blk (T d).ht.A j → ¬ j = gq := fun j hj e => (h.dq n hn9 d hd gq hgq).2 (e ▸ hj)
    by_cases he : d = n
    · subst he
      rw [if_pos rfl, tmc_same _ _ k _ hk]
      exact (h.t d hd).frm hw hno
    · rw [if_neg (hne d he)]
      exact (h.t d hd).frm hw hno
  · intro d hd
    rw [eq, et, vrow_put]
    by_cases he : d = n
    · subst he
      rw [if_pos rfl, if_pos rfl, List.length_set]
      obtain ⟨a1, a2, a3⟩ := h.n d hd
      exact ⟨a1, by show ((T d).hs.set m x).length = _; rw [List.length_set]; exact a2, a3⟩
    · rw [if_neg he, if_neg (hne d he)]
      exact h.n d hd
  · intro d hd i y k' hy hk'
    rw [vrow_put] at hk'
    by_cases he : d = n
    · subst he
      rw [if_pos rfl] at hy hk'
      have hy : ((T d).hs.set m x)[i]? = some y := hy
      by_cases him : i = m
      · subst him
        rw [List.getElem?_set_self hml] at hk'
        rw [List.getElem?_set_self (by rw [(h.n d hd).2.1]; exact hml)] at hy
        injection hk' with hk'
        injection hy with hy
        subst hk' hy
        exact hx
      · rw [List.getElem?_set_ne (Ne.symm him)] at hk' hy
        exact (h.r d hd i y k' hy hk').frm hw fun j hj e => ((h.rb d hd y (List.mem_of_getElem? hy) j hj).2.2.2 d hd).1 (e ▸ hgq)
    · rw [if_neg he] at hy
      rw [if_neg (hne d he)] at hk'
      exact (h.r d hd i y k' hy hk').frm hw fun j hj e => ((h.rb d hd y (List.mem_of_getElem? hy) j hj).2.2.2 n hn9).1 (e ▸ hgq)
  · intro d hd y hy j hj
    simp only [eq, et]
    have old : ∀ y ∈ (T d).hs, blk y.A j → B ≤ j ∧ j < w'.heap.size ∧ j ≠ s ∧ ∀ e : Nat, e < 9 → ¬ blk (T e).hq.A j ∧ ¬ blk (T e).ht.A j := fun y hy hj => by
      obtain ⟨a1, a2, a3⟩ := h.rb d hd y hy j hj
      exact ⟨a1, Nat.lt_of_lt_of_le a2 hw.size, a3⟩
    by_cases he : d = n
    · subst he
      rw [if_pos rfl] at hy
      rcases List.mem_or_eq_of_mem_set (show y ∈ (T d).hs.set m x from hy) with hy | rfl
      · exact old y hy hj
      · obtain ⟨b1, b2⟩ := hxb j hj
        refine ⟨by omega, b2, fun e => by have := h.low.2; omega, fun e he => ⟨fun hh => ?_, fun hh => ?_⟩⟩
        · have := ((h.q e he).ge hh).2; omega
        · have := ((h.t e he).ge hh).2; omega
    · rw [if_neg he] at hy
      exact old y hy hj
  · intro d hd
    rw [eq, et]
    exact h.ds d hd
  · intro d hd e he j hj
    rw [eq] at hj
    rw [eq, et]
    exact h.dq d hd e he j hj
  · intro d hd e he hde j hj
    rw [et] at hj
    rw [et]
    exact h.dt d hd e he hde j hj
end
end Go.Proofs.Ytajcijocjbakbaa

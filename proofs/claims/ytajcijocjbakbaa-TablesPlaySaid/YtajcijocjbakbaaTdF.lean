import Derived.Test.YtajcijocjbakbaaTdE
namespace Go.Proofs.Ytajcijocjbakbaa
open Go.RowKit

section
variable {w w4 : World} {B s : Nat} {T : Nat → RDt} {v v' : List Vt}
/-- A table laid, or its queues laid anew. -/
theorem RSet.setTab (h : RSet w B s T v) {m : Nat} (hq ht : Hd) (hs : List Hd) (bs : List Vk) (hf : Frm w w4 fun j => j = s)
    (hc : ∀ d : Nat, d < 9 → w4.cell? ⟨s, d, none⟩ = some (if d = m then hq else (T d).hq).V ∧ w4.cell? ⟨s, 9 + d, none⟩ = some (if d = m then ht else (T d).ht).V)
    (hfz : ∀ j, w4.frozen? ⟨s, j, none⟩ = false)
    (hQ : Sl w4 w.heap.size 1 hq.A hq.n hq.c (hds hs)) (hT : Sl w4 B 2 ht.A ht.n ht.c (tmc bs)) (hn : hq.n = bs.length ∧ hs.length = bs.length ∧ ht.n = bs.length)
    (hr : ∀ (i : Nat) (x : Hd) (k : Vk), hs[i]? = some x → bs[i]? = some k → Rd w4 w4.heap.size 3 x.A x.n (ens k.2.2))
    (hrb : ∀ x ∈ hs, ∀ j, blk x.A j → w.heap.size ≤ j ∧ j < w4.heap.size ∧ ¬ blk hq.A j ∧ ¬ blk ht.A j)
    (htd : ∀ j, blk ht.A j → j ≠ s ∧ ¬ blk hq.A j ∧ ∀ e : Nat, e < 9 → e ≠ m → ¬ blk (T e).hq.A j ∧ ¬ blk (T e).ht.A j ∧ ∀ x ∈ (T e).hs, ¬ blk x.A j)
    (hv : ∀ e : Int, vget v' e = if e = m then some bs else vget v e) (htb : tbl m = true) (hsz : bs.length = sz m) :
    RSet w4 B s (fun e => if e = m then ⟨hq, hs, ht⟩ else T e) v' := by
  have hlow : B ≤ w.heap.size := Nat.le_trans h.low.1 (Nat.le_of_lt h.low.2)
  have hne : ∀ e : Nat, e ≠ m → (e : Int) ≠ (m : Int) := fun e he hh => he (by omega)
  have vm : vrow v' m = bs := by unfold vrow; rw [hv, if_pos rfl]; rfl
  have ve : ∀ e : Nat, e ≠ m → vrow v' e = vrow v e := fun e he => by unfold vrow; rw [hv, if_neg (hne e he)]
  have qn : ∀ j, blk hq.A j → w.heap.size ≤ j := fun j hj => (hQ.ge hj).1
  have old : ∀ e : Nat, e < 9 → ∀ j, blk (T e).hq.A j → j < w.heap.size := fun e he j hj => ((h.q e he).ge hj).2
  have oldt : ∀ e : Nat, e < 9 → ∀ j, blk (T e).ht.A j → j < w.heap.size := fun e he j hj => ((h.t e he).ge hj).2
  refine ⟨fun d hd => ?_, hfz, ⟨h.low.1, Nat.lt_of_lt_of_le h.low.2 hf.size⟩, ?_, ?_, ?_, ?_, ?_, ?_, ?_, ?_, ?_⟩
  · have := hc d hd
    by_cases he : d = m
    · rw [if_pos he, if_pos he] at this
      rw [if_pos he]
      exact this
    · rw [if_neg he, if_neg he] at this
      rw [if_neg he]
      exact this
  · intro d hd
    by_cases he : d = m
    · rw [if_pos he]; exact hQ.mono hlow
    · rw [if_neg he]; exact (h.q d hd).frm hf fun j hj e => (h.ds d hd).1 (e ▸ hj)
  · intro d hd
    by_cases he : d = m
    · rw [if_pos he, he, vm]; exact hT
    · rw [if_neg he, ve d he]; exact (h.t d hd).frm hf fun j hj e => (h.ds d hd).2 (e ▸ hj)
  · intro d hd
    by_cases he : d = m
    · rw [if_pos he, he, vm]; exact hn
    · rw [if_neg he, ve d he]; exact h.n d hd
  · intro d hd i x k hx hk
    by_cases he : d = m
    · rw [if_pos he] at hx
      rw [he, vm] at hk
      exact hr i x k hx hk
    · rw [if_neg he] at hx
      rw [ve d he] at hk
      exact (h.r d hd i x k hx hk).frm hf fun j hj e => (h.rb d hd x (List.mem_of_getElem? hx) j hj).2.2.1 e
  · intro d hd x hx j hj
    by_cases he : d = m
    · rw [if_pos he] at hx
      obtain ⟨b1, b2, b3, b4⟩ := hrb x hx j hj
      refine ⟨by omega, b2, fun e => by have := h.low.2; omega, fun e he' => ?_⟩
      by_cases hem : e = m
      · rw [if_pos hem]; exact ⟨b3, b4⟩
      · rw [if_neg hem]
        exact ⟨fun hh => by have := old e he' j hh; omega, fun hh => by have := oldt e he' j hh; omega⟩
    · rw [if_neg he] at hx
      obtain ⟨a1, a2, a3, a4⟩ := h.rb d hd x hx j hj
      refine ⟨a1, Nat.lt_of_lt_of_le a2 hf.size, a3, fun e he' => ?_⟩
      by_cases hem : e = m
      · rw [if_pos hem]
        exact ⟨fun hh => by have := qn j hh; omega, fun hh => ((htd j hh).2.2 d hd he).2.2 x hx hj⟩
      · rw [if_neg hem]; exact a4 e he'
  · intro d hd
    by_cases he : d = m
    · rw [if_pos he]
      exact ⟨fun hh => by have := qn s hh; have := h.low.2; omega, fun hh => (htd s hh).1 rfl⟩
    · rw [if_neg he]; exact h.ds d hd
  · intro d hd e he j hj
    by_cases hdm : d = m
    · rw [if_pos hdm] at hj
      by_cases hem : e = m
      · rw [if_pos hem]
        exact ⟨fun hne => absurd (hdm.trans hem.symm) hne, fun hh => (htd j hh).2.1 hj⟩
      · rw [if_neg hem]
        have := qn j hj
        exact ⟨fun _ hh => by have := old e he j hh; omega, fun hh => by have := oldt e he j hh; omega⟩
    · rw [if_neg hdm] at hj
      have hlt := old d hd j hj
      by_cases hem : e = m
      · rw [if_pos hem]
        exact ⟨fun _ hh => by have := qn j hh; omega, fun hh => ((htd j hh).2.2 d hd hdm).1 hj⟩
      · rw [if_neg hem]; exact h.dq d hd e he j hj
  · intro d hd e he hde j hj
    by_cases hdm : d = m
    · rw [if_pos hdm] at hj
      have hem : e ≠ m := fun hh => hde (hdm.trans hh.symm)
      rw [if_neg hem]
      exact ((htd j hj).2.2 e he hem).2.1
    · rw [if_neg hdm] at hj
      by_cases hem : e = m
      · rw [if_pos hem]
        exact fun hh => ((htd j hh).2.2 d hd hdm).2.1 hj
      · rw [if_neg hem]; exact h.dt d hd e he hde j hj
  · intro e bs' hg
    rw [hv] at hg
    split at hg
    · rename_i he
      injection hg with hg
      subst hg
      rw [he]
      exact ⟨htb, hsz⟩
    · exact h.ok e bs' hg
theorem ROwn.setTab {m : Nat} {hq ht : Hd} {hs : List Hd} {j : Nat} (h : ROwn s (fun e => if e = m then ⟨hq, hs, ht⟩ else T e) j) : ROwn s T j ∨ blk hq.A j ∨ blk ht.A j ∨ ∃ x ∈ hs, blk x.A j := by
  rcases h with h | ⟨d, hd, h⟩
  · exact .inl (.inl h)
  · by_cases he : d = m
    · dsimp only at h
      rw [if_pos he] at h
      exact .inr h
    · dsimp only at h
      rw [if_neg he] at h
      exact .inl (.inr ⟨d, hd, h⟩)
theorem RSet.zero (h : ∀ i : Nat, i < 18 → w.cell? ⟨s, i, none⟩ = some (.slice none 0 0)) (hf : ∀ j, w.frozen? ⟨s, j, none⟩ = false) (hB : B ≤ s ∧ s < w.heap.size) : RSet w B s (fun _ => ⟨⟨none, 0, 0⟩, [], ⟨none, 0, 0⟩⟩) [] := by
  have hv : ∀ d : Int, vrow [] d = [] := fun d => rfl
  refine ⟨fun d hd => ⟨h d (by omega), h (9 + d) (by omega)⟩, hf, hB, fun d hd => Sl.nil _ _ _, fun d hd => Sl.nil _ _ _, fun d hd => ⟨rfl, rfl, rfl⟩, ?_, ?_, ?_, ?_, ?_, ?_⟩
  · intro d hd i x k hx
    cases hx
  · intro d hd x hx
    cases hx
  · intro d hd
    exact ⟨blk_none s, blk_none s⟩
  · intro d hd e he j hj
    exact absurd hj (blk_none j)
  · intro d hd e he hde j hj
    exact absurd hj (blk_none j)
  · intro d bs hg
    cases hg
end
end Go.Proofs.Ytajcijocjbakbaa

import Derived.Test.YtmjpaaippilioaaDoorPhQ
import Derived.Test.YtmjpaaippilioaaDoorPhK
namespace Go.Proofs.YtmjpaaippilioaaDoor
open Go.RowKit

/-! ### slices of slices -/
structure Hd where
  A : Option Addr
  n : Nat
  c : Nat
abbrev Hd.V (h : Hd) : Value := .slice h.A h.n h.c
def hds (l : List Hd) : List Value := l.map Hd.V
theorem hds_one (l : List Hd) : ∀ u ∈ hds l, u.oneCell' = true := by
  intro u hu
  obtain ⟨h, _, rfl⟩ := List.mem_map.1 hu
  rfl
/-- What is read of a slice of slices of operations. -/
structure RdD (w : World) (B : Nat) (A : Option Addr) (n : Nat) (hs : List Hd) (qs : List (List OpR)) : Prop where
  out : Rd w B 1 A n (hds hs)
  len : hs.length = n
  lenq : qs.length = n
  row : ∀ (i : Nat) (hi : i < hs.length) (hq : i < qs.length), Rd w B 7 hs[i].A hs[i].n (opsV qs[i])
section
variable {w w' : World} {B n : Nat} {A : Option Addr} {hs : List Hd} {qs : List (List OpR)} {S : Nat → Prop}
theorem RdD.below (h : RdD w B A n hs qs) (hb : Below B w w') : RdD w' B A n hs qs := ⟨h.out.below hb, h.len, h.lenq, fun i hi hq => (h.row i hi hq).below hb⟩
theorem RdD.more {B' : Nat} (h : RdD w B A n hs qs) (hB : B ≤ B') : RdD w B' A n hs qs := ⟨h.out.more hB, h.len, h.lenq, fun i hi hq => (h.row i hi hq).more hB⟩
theorem RdD.new_ (h : RdD w w.heap.size A n hs qs) (k : Frm w w' fun _ => False) : RdD w' w'.heap.size A n hs qs :=
  (h.below (k.below (fun _ _ => id) (Nat.le_refl _))).more k.size
theorem RdD.under {B0 : Nat} (h : RdD w B0 A n hs qs) (k : Frm w w' S) (hS : ∀ j, j < B0 → ¬ S j) (hB : B0 ≤ w.heap.size) : RdD w' B0 A n hs qs := h.below (k.below hS hB)
/-- One queue: its header's cell, its entries' cells. -/
theorem RdD.at (h : RdD w B A n hs qs) {i : Nat} (hi : i < n) : ∃ (g off : Nat) (Ai : Option Addr) (ni ci : Nat) (q : List OpR), A = some ⟨g, off, none⟩ ∧ g < B ∧ w.cell? ⟨g, off + i, none⟩ = some (.slice Ai ni ci) ∧ Rd w B 7 Ai ni (opsV q) ∧ qs[i]? = some q ∧ hs[i]? = some ⟨Ai, ni, ci⟩ ∧ ni = q.length := by
  have h1 : i < hs.length := by rw [h.len]; exact hi
  have h2 : i < qs.length := by rw [h.lenq]; exact hi
  obtain ⟨g, off, e, hg, hc⟩ := h.out.2 (by unfold hds; rw [List.length_map]; omega)
  exact ⟨g, off, hs[i].A, hs[i].n, hs[i].c, qs[i], e, hg, hc i _ (by unfold hds; rw [List.getElem?_map, List.getElem?_eq_getElem h1]; rfl), h.row i h1 h2, List.getElem?_eq_getElem h2, List.getElem?_eq_getElem h1, (by have := (h.row i h1 h2).1; rw [opsV_len] at this; omega)⟩
end
theorem RdD.rowAt {w : World} {B n : Nat} {A : Option Addr} {hs : List Hd} {qs : List (List OpR)} (h : RdD w B A n hs qs) {i : Nat} {hd : Hd} {q : List OpR} (hi : hs[i]? = some hd) (hq : qs[i]? = some q) : Rd w B 7 hd.A hd.n (opsV q) := by
  obtain ⟨h1, rfl⟩ := List.getElem?_eq_some_iff.1 hi
  obtain ⟨h2, rfl⟩ := List.getElem?_eq_some_iff.1 hq
  exact h.row i h1 h2
/-- Slices of operations of the call's own, in a slice of the call's own; each lies in a block of its own; those lie from block C on. -/
structure OwD (w : World) (B C : Nat) (A : Option Addr) (n cap : Nat) (hs : List Hd) (qs : List (List OpR)) : Prop where
  out : Sl w B 1 A n cap (hds hs)
  len : hs.length = n
  lenq : qs.length = n
  row : ∀ (i : Nat) (hi : i < hs.length) (hq : i < qs.length), Sl w C 7 hs[i].A hs[i].n hs[i].c (opsV qs[i])
  dj : ∀ (i j : Nat) (hi : i < hs.length) (hj : j < hs.length), i ≠ j → ∀ k, blk hs[i].A k → ¬ blk hs[j].A k
  dA : ∀ (i : Nat) (hi : i < hs.length) k, blk hs[i].A k → ¬ blk A k
section
variable {w w' : World} {B C n cap : Nat} {A : Option Addr} {hs : List Hd} {qs : List (List OpR)} {S : Nat → Prop}
theorem OwD.frm (h : OwD w B C A n cap hs qs) (hg : Frm w w' S) (hA : ∀ k, blk A k → ¬ S k) (hr : ∀ k, C ≤ k → k < w.heap.size → ¬ S k) : OwD w' B C A n cap hs qs :=
  ⟨h.out.frm hg hA, h.len, h.lenq, fun i hi hq => (h.row i hi hq).frm hg fun k hk => hr k ((h.row i hi hq).ge hk).1 ((h.row i hi hq).ge hk).2, h.dj, h.dA⟩
theorem OwD.new_ (h : OwD w B C A n cap hs qs) (hg : Frm w w' fun _ => False) : OwD w' B C A n cap hs qs := h.frm hg (fun _ _ => id) fun _ _ _ => id
theorem OwD.mono {B' C' : Nat} (h : OwD w B C A n cap hs qs) (hB : B' ≤ B) (hC : C' ≤ C) : OwD w B' C' A n cap hs qs :=
  ⟨h.out.mono hB, h.len, h.lenq, fun i hi hq => (h.row i hi hq).mono hC, h.dj, h.dA⟩
theorem OwD.rd (h : OwD w B C A n cap hs qs) : RdD w w.heap.size A n hs qs := ⟨h.out.rd, h.len, h.lenq, fun i hi hq => (h.row i hi hq).rd⟩
theorem OwD.nil (w : World) (B C : Nat) : OwD w B C none 0 0 [] [] :=
  ⟨Sl.nil _ _ _, rfl, rfl, (fun i hi => by simp at hi), (fun i j hi => by simp at hi), (fun i hi => by simp at hi)⟩
/-- One row. -/
theorem OwD.at {g off i : Nat} (h : OwD w B C (some ⟨g, off, none⟩) n cap hs qs) (hi : i < n) : ∃ (Ai : Option Addr) (ni ci : Nat) (q : List OpR), w.cell? ⟨g, off + i, none⟩ = some (.slice Ai ni ci) ∧ w.frozen? ⟨g, off + i, none⟩ = false ∧ Sl w C 7 Ai ni ci (opsV q) ∧ hs[i]? = some ⟨Ai, ni, ci⟩ ∧ qs[i]? = some q := by
  have h1 : i < hs.length := by rw [h.len]; exact hi
  have h2 : i < qs.length := by rw [h.lenq]; exact hi
  have hc := h.out.le
  obtain ⟨g', off', e, _, _, hcell, hfr⟩ := h.out.form (by omega)
  injection e with e
  injection e with e1 e2
  subst e1 e2
  exact ⟨hs[i].A, hs[i].n, hs[i].c, qs[i], hcell i _ (by unfold hds; rw [List.getElem?_map, List.getElem?_eq_getElem h1]; rfl), hfr i, h.row i h1 h2, List.getElem?_eq_getElem h1, List.getElem?_eq_getElem h2⟩
/-- n empty ones. -/
theorem OwD.made (h : Sl w B 1 A n cap (hds (List.replicate n ⟨none, 0, 0⟩))) (C : Nat) : OwD w B C A n cap (List.replicate n ⟨none, 0, 0⟩) (List.replicate n []) :=
  ⟨h, by simp, by simp, (fun i hi hq => by simpa [opsV] using Sl.nil w C 7), (fun i j hi hj _ k hk => by simp at hk; exact (blk_none _ hk).elim), (fun i hi k hk => by simp at hk; exact (blk_none _ hk).elim)⟩
/-- The row at i is put anew. -/
theorem OwD.put {g off i : Nat} (h : OwD w B C (some ⟨g, off, none⟩) n cap hs qs) (hi : i < hs.length) {w2 : World} {A' : Option Addr} {n' c' : Nat} {q : List OpR}
    (hs2 : Sl w2 C 7 A' n' c' (opsV q)) (hf : Frm w w2 (blk hs[i].A)) (hw : ∀ k, blk A' k → blk hs[i].A k ∨ w.heap.size ≤ k) :
    OwD (w2.setCell ⟨g, off + i, none⟩ (.slice A' n' c')) B C (some ⟨g, off, none⟩) n cap (hs.set i ⟨A', n', c'⟩) (qs.set i q) := by
  have hiq : i < qs.length := by rw [h.lenq, ← h.len]; exact hi
  have hgA : ∀ k, blk (some ⟨g, off, none⟩) k → ¬ blk hs[i].A k := fun k hk hk' => h.dA i hi k hk' hk
  have hlt : ∀ j (hj : j < hs.length) k, blk hs[j].A k → k < w.heap.size := fun j hj k hk => ((h.row j hj (by rw [h.lenq, ← h.len]; exact hj)).ge hk).2
  have hglt : g < w.heap.size := (h.out.ge ((blk_some g off g).2 rfl)).2
  have ng' : ¬ blk A' g := fun hk => (hw g hk).elim (fun hk => h.dA i hi g hk ((blk_some _ _ _).2 rfl)) (fun hk => by omega)
  have o2 := h.out.frm hf hgA
  refine ⟨?_, by rw [List.length_set]; exact h.len, by rw [List.length_set]; exact h.lenq, ?_, ?_, ?_⟩
  · have := o2.set (j := i) (by unfold hds; rw [List.length_map]; exact hi) (.slice A' n' c')
    unfold hds at this ⊢
    rw [List.map_set]
    exact this
  · intro j hj hq
    have hj0 : j < hs.length := by simpa using hj
    have hq0 : j < qs.length := by simpa using hq
    by_cases hij : i = j
    · subst hij
      simp only [List.getElem_set_self]
      exact hs2.setCell ng' _
    · rw [List.getElem_set_ne hij, List.getElem_set_ne hij]
      exact ((h.row j hj0 hq0).frm hf fun k hk hk' => h.dj j i hj0 hi (Ne.symm hij) k hk hk').setCell (fun hk => h.dA j hj0 g hk ((blk_some _ _ _).2 rfl)) _
  · intro a b ha hb hab k hk hk'
    have ha0 : a < hs.length := by simpa using ha
    have hb0 : b < hs.length := by simpa using hb
    rw [List.getElem_set] at hk hk'
    split at hk
    · rename_i e
      subst e
      rw [if_neg hab] at hk'
      exact (hw k hk).elim (fun hk => h.dj i b hi hb0 hab k hk hk') (fun hk => by have := hlt b hb0 k hk'; omega)
    · split at hk'
      · rename_i e
        subst e
        exact (hw k hk').elim (fun h' => h.dj i a hi ha0 (Ne.symm hab) k h' hk) (fun h' => by have := hlt a ha0 k hk; omega)
      · exact h.dj a b ha0 hb0 hab k hk hk'
  · intro a ha k hk hk'
    have ha0 : a < hs.length := by simpa using ha
    rw [List.getElem_set] at hk
    split at hk
    · rw [blk_some] at hk'; subst hk'; exact ng' hk
    · exact h.dA a ha0 k hk hk'
/-- One more row behind. -/
theorem OwD.push {w2 : World} {A2 A' : Option Addr} {cap2 n' c' : Nat} {q : List OpR} (h : OwD w B C A n cap hs qs) (hn : Sl w C 7 A' n' c' (opsV q)) (hd : ∀ k, blk A' k → ¬ blk A k) (hd2 : ∀ i (hi : i < hs.length) k, blk A' k → ¬ blk hs[i].A k)
    (ha : Appended w w2 B 1 A A2 (n + 1) cap2 (hds hs ++ [.slice A' n' c'])) : OwD w2 B C A2 (n + 1) cap2 (hs ++ [⟨A', n', c'⟩]) (qs ++ [q]) := by
  obtain ⟨hs2, hf, hw⟩ := ha
  have hlt : ∀ j (hj : j < hs.length) k, blk hs[j].A k → k < w.heap.size := fun j hj k hk => ((h.row j hj (by rw [h.lenq, ← h.len]; exact hj)).ge hk).2
  refine ⟨by unfold hds at hs2 ⊢; simpa using hs2, by simp [h.len], by simp [h.lenq], ?_, ?_, ?_⟩
  · intro i hi hq
    have hi' : i < hs.length + 1 := by simpa using hi
    by_cases hl : i < hs.length
    · have hlq : i < qs.length := by rw [h.lenq, ← h.len]; exact hl
      rw [List.getElem_append_left hl, List.getElem_append_left hlq]
      exact (h.row i hl hlq).frm hf fun k hk hk' => h.dA i hl k hk hk'
    · obtain rfl : i = hs.length := by omega
      have e : hs.length = qs.length := by rw [h.lenq, ← h.len]
      rw [List.getElem_append_right (Nat.le_refl _), List.getElem_append_right (by omega)]
      simp only [e, Nat.sub_self, List.getElem_cons_zero]
      exact hn.frm hf hd
  · intro a b ha hb hab k hk hk'
    have ha' : a < hs.length + 1 := by simpa using ha
    have hb' : b < hs.length + 1 := by simpa using hb
    by_cases hla : a < hs.length
    · rw [List.getElem_append_left hla] at hk
      by_cases hlb : b < hs.length
      · rw [List.getElem_append_left hlb] at hk'
        exact h.dj a b hla hlb hab k hk hk'
      · obtain rfl : b = hs.length := by omega
        rw [List.getElem_append_right (Nat.le_refl _)] at hk'
        simp only [Nat.sub_self, List.getElem_cons_zero] at hk'
        exact hd2 a hla k hk' hk
    · obtain rfl : a = hs.length := by omega
      rw [List.getElem_append_right (Nat.le_refl _)] at hk
      simp only [Nat.sub_self, List.getElem_cons_zero] at hk
      have hlb : b < hs.length := by omega
      rw [List.getElem_append_left hlb] at hk'
      exact hd2 b hlb k hk hk'
  · intro a ha k hk hk'
    have ha' : a < hs.length + 1 := by simpa using ha
    by_cases hla : a < hs.length
    · rw [List.getElem_append_left hla] at hk
      exact (hw k hk').elim (fun h' => h.dA a hla k hk h') (fun h' => by have := hlt a hla k hk; omega)
    · obtain rfl : a = hs.length := by omega
      rw [List.getElem_append_right (Nat.le_refl _)] at hk
      simp only [Nat.sub_self, List.getElem_cons_zero] at hk
      exact (hw k hk').elim (fun h' => hd k hk h') (fun h' => by have := (hn.ge hk).2; omega)
end
end Go.Proofs.YtmjpaaippilioaaDoor

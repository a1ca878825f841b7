import Derived.Below
import Derived.ArgAppend
import Derived.Maps.AppendAt
import Derived.Deep.Draws
import Derived.Deep.Upon
import Derived.RegionTactic
import Derived.Deep.AppendLies
import Derived.Lib.Hide
import Derived.OwnWalk
import Derived.Laws.IdiomCopy
import Derived.Laws.MakeOwn
namespace Go.Proofs.YtmjpaaippilioaaDoor
open Go.RowKit

/-! ### frames: no block has turned but those of S, and what is new -/
structure Frm (w w' : World) (S : Nat → Prop) : Prop where
  os : w'.os = w.os
  tape : w'.tape = w.tape
  output : w'.output = w.output
  size : w.heap.size ≤ w'.heap.size
  block : ∀ k, k < w.heap.size → ¬ S k → w'.heap[k]? = w.heap[k]?

section
variable {w w' a b c : World} {S S' : Nat → Prop} {B : Nat}
theorem Frm.refl (w : World) (S : Nat → Prop) : Frm w w S := ⟨rfl, rfl, rfl, Nat.le_refl _, fun _ _ _ => rfl⟩
theorem Frm.mono (h : Frm w w' S) (hS : ∀ k, k < w.heap.size → S k → S' k) : Frm w w' S' := ⟨h.os, h.tape, h.output, h.size, fun k hk hn => h.block k hk (fun hs => hn (hS k hk hs))⟩
theorem Frm.trans (h : Frm a b S) (k : Frm b c S') (hS : ∀ j, j < a.heap.size → S' j → S j) : Frm a c S :=
  ⟨k.os.trans h.os, k.tape.trans h.tape, k.output.trans h.output, Nat.le_trans h.size k.size, fun j hj hn => (k.block j (Nat.lt_of_lt_of_le hj h.size) (fun hs => hn (hS j hj hs))).trans (h.block j hj hn)⟩
theorem Frm.then_ (h : Frm a b S) (k : Frm b c S) : Frm a c S := h.trans k fun _ _ h => h
theorem Frm.none_ (h : Frm w w' fun _ => False) (S : Nat → Prop) : Frm w w' S := h.mono fun _ _ h => h.elim
theorem Frm.of_only {row : Option Nat} (h : w.grownBy w' row) : Frm w w' (fun k => row = some k) := ⟨h.os, h.tape, h.output, h.size, fun k hk hn => h.block k hk (fun e => hn e.symm)⟩
theorem Frm.of_new (h : w.grownBy w' none) (S : Nat → Prop) : Frm w w' S := ⟨h.os, h.tape, h.output, h.size, fun k hk _ => h.block k hk (by simp)⟩
theorem Frm.new_ (h : Frm w w' fun _ => False) : w.grownBy w' none := ⟨h.os, h.tape, h.output, h.size, fun k hk _ => h.block k hk id⟩
theorem Frm.of_below (h : Below B w w') : Frm w w' (fun k => B ≤ k) := ⟨h.os, h.tape, h.output, h.size, fun k _ hn => h.block k (by omega)⟩
theorem Frm.drew (h : Frm w w' S) : Frm w w'.drew S := ⟨h.os, h.tape, h.output, h.size, h.block⟩
theorem Frm.drewN (h : Frm w w' S) (n : Nat) : Frm w (w'.drewN n) S := ⟨h.os, h.tape, h.output, h.size, h.block⟩
theorem Frm.alloc (h : Frm w w' S) (o : Obj) : Frm w (w'.alloc o) S :=
  ⟨h.os, h.tape, h.output, Nat.le_trans h.size (by simp), fun i hi hne => (Below.heap_alloc w' o i (Nat.lt_of_lt_of_le hi h.size)).trans (h.block i hi hne)⟩
theorem Frm.setCell (h : Frm w w' S) {p : Addr} (hp : p.block < w.heap.size → S p.block) (u : Value) : Frm w (w'.setCell p u) S :=
  ⟨h.os, h.tape, h.output, by simpa [World.setCell] using h.size, fun i hi hne => (Below.heap_setCell w' p u i (by rintro rfl; exact hne (hp hi))).trans (h.block i hi hne)⟩
theorem Frm.below (h : Frm w w' S) (hS : ∀ k, k < B → ¬ S k) (hB : B ≤ w.heap.size) : Below B w w' := ⟨h.os, h.tape, h.output, h.size, fun k hk => h.block k (by omega) (hS k hk)⟩
theorem Frm.keep (h : Frm w w' S) {p : Addr} (hp : p.block < w.heap.size) (hn : ¬ S p.block) : w'.cell? p = w.cell? p := World.cell?_of_block (w := w) (h.block p.block hp hn)
theorem Frm.cell (h : Frm w w' S) {p : Addr} {v : Value} (hv : w.cell? p = some v) (hn : ¬ S p.block) : w'.cell? p = some v := (h.keep (World.block_lt_of_cell? w p hv) hn).trans hv
theorem Frm.frozen (h : Frm w w' S) {p : Addr} (hp : p.block < w.heap.size) (hn : ¬ S p.block) : w'.frozen? p = w.frozen? p := World.frozen?_of_block (w := w) (h.block p.block hp hn)
theorem below_drewN {a w : World} (h : Below B a w) (n : Nat) : Below B a (w.drewN n) := ⟨h.os, h.tape, h.output, h.size, h.block⟩
theorem below_frm (h : Below B a w) (k : Frm w w' S) (hS : ∀ k, k < B → ¬ S k) (hB : B ≤ w.heap.size) : Below B a w' := h.trans (k.below hS hB)
end

/-! ### a variable of its own -/
/-- Block b is a row of cells that read as f up to n, and may be written. -/
structure Var (w : World) (b n : Nat) (f : Nat → Value) : Prop where
  cell : ∀ i, i < n → w.cell? ⟨b, i, none⟩ = some (f i)
  free : ∀ i, w.frozen? ⟨b, i, none⟩ = false
  lt : b < w.heap.size
section
variable {w w' : World} {b n : Nat} {f : Nat → Value} {S : Nat → Prop}
theorem Var.frm (h : Var w b n f) (k : Frm w w' S) (hn : ¬ S b) : Var w' b n f :=
  ⟨fun i hi => k.cell (h.cell i hi) hn, fun i => (k.frozen (p := ⟨b, i, none⟩) h.lt hn).trans (h.free i), Nat.lt_of_lt_of_le h.lt k.size⟩
theorem Var.drew (h : Var w b n f) : Var w.drew b n f := ⟨h.cell, h.free, h.lt⟩
theorem Var.drewN (h : Var w b n f) (k : Nat) : Var (w.drewN k) b n f := ⟨h.cell, h.free, h.lt⟩
theorem Var.alloc (h : Var w b n f) (o : Obj) : Var (w.alloc o) b n f := h.frm (S := fun _ => False) ((Frm.refl w _).alloc o) id
theorem Var.far (h : Var w b n f) {p : Addr} (hp : p.block ≠ b) (u : Value) : Var (w.setCell p u) b n f := h.frm (S := fun k => k = p.block) ((Frm.refl w (fun k => k = p.block)).setCell (p := p) (fun _ => rfl) u) (fun e => hp e.symm)
theorem Var.set (h : Var w b n f) {i : Nat} (hi : i < n) (v : Value) : Var (w.setCell ⟨b, i, none⟩ v) b n (fun j => if j = i then v else f j) := by
  refine ⟨fun j hj => ?_, fun j => by rw [World.frozen?_setCell]; exact h.free j, by simpa using h.lt⟩
  split
  · subst_vars; exact World.cell?_setCell_same w _ _ (h.cell j hj)
  · rename_i hne
    rw [World.cell?_setCell_other]
    · exact h.cell j hj
    · intro e; injection e with _ e; exact hne e.symm
theorem Var.new (w : World) (t : TypeId) (c : Array Value) (h : ∀ i, i < n → c[i]? = some (f i)) : Var (w.alloc (.cells c t)) w.heap.size n f :=
  ⟨fun i hi => by rw [World.cell?_alloc_new]; exact h i hi, fun i => World.frozen?_alloc_new w c t i, by simp⟩
end

/-! ### what is read of a slice -/
/-- The slice value '.slice A n _' (elements of 'size' cells) reads as the cells xs, which lie below block B. -/
def Rd (w : World) (B size : Nat) (A : Option Addr) (n : Nat) (xs : List Value) : Prop :=
  xs.length = n * size ∧ (0 < xs.length → ∃ g off, A = some ⟨g, off, none⟩ ∧ g < B ∧ ∀ j u, xs[j]? = some u → w.cell? ⟨g, off + j, none⟩ = some u)
section
variable {w w' : World} {B size n : Nat} {A : Option Addr} {xs : List Value}
theorem Rd.keep (h : Rd w B size A n xs) (hk : ∀ p : Addr, p.block < B → w'.cell? p = w.cell? p) : Rd w' B size A n xs :=
  ⟨h.1, fun hn => by
    obtain ⟨g, off, e, hb, hc⟩ := h.2 hn
    exact ⟨g, off, e, hb, fun j u hu => (hk ⟨g, off + j, none⟩ hb).trans (hc j u hu)⟩⟩
theorem Rd.below (h : Rd w B size A n xs) (hb : Below B w w') : Rd w' B size A n xs := h.keep fun _ hp => hb.cell hp
theorem Rd.more {B' : Nat} (h : Rd w B size A n xs) (hB : B ≤ B') : Rd w B' size A n xs :=
  ⟨h.1, fun hn => by
    obtain ⟨g, off, e, hb, hc⟩ := h.2 hn
    exact ⟨g, off, e, by omega, hc⟩⟩
theorem Rd.drew (h : Rd w B size A n xs) : Rd w.drew B size A n xs := h
theorem Rd.drewN (h : Rd w B size A n xs) (k : Nat) : Rd (w.drewN k) B size A n xs := h
theorem Rd.alloc (h : Rd w B size A n xs) (hB : B ≤ w.heap.size) (o : Obj) : Rd (w.alloc o) B size A n xs := h.below ((Below.refl B w).alloc hB o)
theorem Rd.nil (w : World) (B size : Nat) (A : Option Addr) : Rd w B size A 0 [] := ⟨by simp, fun h => by simp at h⟩
/-- 's[k:]'. -/
theorem Rd.cut (h : Rd w B size A n xs) {k : Nat} (hk : k < n) (hs : 0 < size) : ∃ g off, A = some ⟨g, off, none⟩ ∧ Rd w B size (some ⟨g, off + k * size, none⟩) (n - k) (xs.drop (k * size)) := by
  have hl : 0 < xs.length := by rw [h.1]; exact Nat.mul_pos (by omega) hs
  obtain ⟨g, off, e, hb, hc⟩ := h.2 hl
  refine ⟨g, off, e, by rw [List.length_drop, h.1, Nat.sub_mul], fun _ => ⟨g, off + k * size, rfl, hb, fun j u hu => ?_⟩⟩
  rw [Nat.add_assoc]; exact hc _ u (by rw [← hu, List.getElem?_drop])
theorem Rd.short (h : Rd w B size A n xs) {m : Nat} (hm : m ≤ n) : Rd w B size A m (xs.take (m * size)) := by
  refine ⟨by rw [List.length_take, h.1]; exact Nat.min_eq_left (Nat.mul_le_mul_right _ hm), fun hl => ?_⟩
  obtain ⟨g, off, e, hb, hc⟩ := h.2 (by rw [List.length_take] at hl; omega)
  refine ⟨g, off, e, hb, fun j u hu => hc j u ?_⟩
  rw [List.getElem?_take] at hu
  split at hu
  · exact hu
  · cases hu
end

/-! ### slices of the call's own -/
/-- The slice '.slice A n cap' is the call's own: its cells read as xs and may be written, up to the capacity; it lies from block B on. -/
structure Sl (w : World) (B size : Nat) (A : Option Addr) (n cap : Nat) (xs : List Value) : Prop where
  len : xs.length = n * size
  le : n ≤ cap
  max : cap ≤ maxLen
  row : (A = none ∧ cap = 0) ∨ ∃ g off, A = some ⟨g, off, none⟩ ∧ B ≤ g ∧ g < w.heap.size ∧ (∀ j u, xs[j]? = some u → w.cell? ⟨g, off + j, none⟩ = some u) ∧ (∀ j, j < cap * size → (w.cell? ⟨g, off + j, none⟩).isSome = true) ∧ ∀ j, w.frozen? ⟨g, off + j, none⟩ = false

/-- The block in which a slice lies. -/
def blk (A : Option Addr) (k : Nat) : Prop := ∃ a, A = some a ∧ a.block = k

section
variable {w w' : World} {B size n cap : Nat} {A : Option Addr} {xs : List Value} {S : Nat → Prop}
theorem blk_some (g off k : Nat) : blk (some ⟨g, off, none⟩) k ↔ k = g := ⟨fun ⟨a, h1, h2⟩ => by injection h1 with h1; subst h1; exact h2.symm, fun h => ⟨_, rfl, h.symm⟩⟩
theorem blk_none (k : Nat) : ¬ blk none k := fun ⟨_, h, _⟩ => by cases h
theorem Sl.nil (w : World) (B size : Nat) : Sl w B size none 0 0 [] := ⟨by simp, Nat.le_refl _, by unfold maxLen; omega, .inl ⟨rfl, rfl⟩⟩
theorem Sl.frm (h : Sl w B size A n cap xs) (hg : Frm w w' S) (hr : ∀ k, blk A k → ¬ S k) : Sl w' B size A n cap xs := by
  refine ⟨h.len, h.le, h.max, ?_⟩
  rcases h.row with h0 | ⟨g, off, rfl, hB, hlt, hc, hs, hf⟩
  · exact .inl h0
  · have hn : ¬ S g := hr g ((blk_some _ _ _).2 rfl)
    refine .inr ⟨g, off, rfl, hB, Nat.lt_of_lt_of_le hlt hg.size, fun j u hu => ?_, fun j hj => ?_, fun j => ?_⟩
    · exact hg.cell (hc j u hu) hn
    · rw [hg.keep (p := ⟨g, off + j, none⟩) hlt hn]; exact hs j hj
    · rw [hg.frozen (p := ⟨g, off + j, none⟩) hlt hn]; exact hf j
theorem Sl.new_ (h : Sl w B size A n cap xs) (hg : Frm w w' fun _ => False) : Sl w' B size A n cap xs := h.frm hg fun _ _ => id
theorem Sl.drew (h : Sl w B size A n cap xs) : Sl w.drew B size A n cap xs := h.new_ (Frm.refl w _).drew
theorem Sl.drewN (h : Sl w B size A n cap xs) (k : Nat) : Sl (w.drewN k) B size A n cap xs := h.new_ ((Frm.refl w _).drewN k)
theorem Sl.alloc (h : Sl w B size A n cap xs) (o : Obj) : Sl (w.alloc o) B size A n cap xs := h.new_ ((Frm.refl w _).alloc o)
theorem Sl.ge (h : Sl w B size A n cap xs) {k : Nat} (hk : blk A k) : B ≤ k ∧ k < w.heap.size := by
  rcases h.row with ⟨rfl, _⟩ | ⟨g, off, rfl, hB, hlt, _⟩
  · exact (blk_none _ hk).elim
  · rw [blk_some] at hk; subst hk; exact ⟨hB, hlt⟩
/-- A write below the base. -/
theorem Sl.under (h : Sl w B size A n cap xs) (hg : Frm w w' S) (hS : ∀ k, S k → k < B) : Sl w' B size A n cap xs := h.frm hg fun k hk hs => by have := (h.ge hk).1; have := hS k hs; omega
theorem Sl.setCell (h : Sl w B size A n cap xs) {p : Addr} (hp : ¬ blk A p.block) (u : Value) : Sl (w.setCell p u) B size A n cap xs :=
  h.frm (S := fun k => k = p.block) ((Frm.refl w (fun k => k = p.block)).setCell (p := p) (fun _ => rfl) u) fun k hk e => by subst e; exact hp hk
theorem Sl.mono {B' : Nat} (h : Sl w B size A n cap xs) (hB : B' ≤ B) : Sl w B' size A n cap xs := by
  refine ⟨h.len, h.le, h.max, ?_⟩
  rcases h.row with h0 | ⟨g, off, rfl, hb, rest⟩
  · exact .inl h0
  · exact .inr ⟨g, off, rfl, by omega, rest⟩
theorem Sl.form (h : Sl w B size A n cap xs) (hn : 0 < cap) : ∃ g off, A = some ⟨g, off, none⟩ ∧ B ≤ g ∧ g < w.heap.size ∧ (∀ j u, xs[j]? = some u → w.cell? ⟨g, off + j, none⟩ = some u) ∧ ∀ j, w.frozen? ⟨g, off + j, none⟩ = false := by
  rcases h.row with ⟨_, h0⟩ | ⟨g, off, rfl, hb, hlt, hc, _, hf⟩
  · omega
  · exact ⟨g, off, rfl, hb, hlt, hc, hf⟩
theorem Sl.empty (h : Sl w B size A n cap xs) (hn : n = 0) : xs = [] := by
  subst hn
  exact List.eq_nil_of_length_eq_zero (by simpa using h.len)
theorem Sl.rd (h : Sl w B size A n cap xs) : Rd w w.heap.size size A n xs := by
  refine ⟨h.len, fun hl => ?_⟩
  rcases h.row with ⟨_, h0⟩ | ⟨g, off, e, _, hlt, hc, _⟩
  · have := h.le
    obtain rfl : n = 0 := by omega
    rw [h.empty rfl] at hl
    simp at hl
  · exact ⟨g, off, e, hlt, hc⟩
theorem Sl.short (h : Sl w B size A n cap xs) {m c : Nat} (hm : m ≤ n) (hmc : m ≤ c) (hc : c ≤ cap) : Sl w B size A m c (xs.take (m * size)) := by
  refine ⟨by rw [List.length_take, h.len]; exact Nat.min_eq_left (Nat.mul_le_mul_right _ hm), hmc, Nat.le_trans hc h.max, ?_⟩
  rcases h.row with ⟨h0, h1⟩ | ⟨g, off, rfl, hb, hlt, hcell, hs, hf⟩
  · exact .inl ⟨h0, by omega⟩
  · refine .inr ⟨g, off, rfl, hb, hlt, fun j u hu => ?_, fun j hj => hs j (Nat.lt_of_lt_of_le hj (Nat.mul_le_mul_right _ hc)), hf⟩
    rw [List.getElem?_take] at hu
    split at hu
    · exact hcell j u hu
    · cases hu
theorem Sl.clip (h : Sl w B size A n cap xs) {c : Nat} (hmc : n ≤ c) (hc : c ≤ cap) : Sl w B size A n c xs := by
  have := h.short (Nat.le_refl n) hmc hc
  rwa [← h.len, List.take_length] at this
/-- 's[k:]' below the capacity. -/
theorem Sl.cut (h : Sl w B size A n cap xs) {k : Nat} (hk : k ≤ n) (hlt : k < cap) : ∃ g off, A = some ⟨g, off, none⟩ ∧ Sl w B size (some ⟨g, off + k * size, none⟩) (n - k) (cap - k) (xs.drop (k * size)) := by
  rcases h.row with ⟨_, h0⟩ | ⟨g, off, rfl, hb, hl, hc, hs, hf⟩
  · omega
  · refine ⟨g, off, rfl, by rw [List.length_drop, h.len, Nat.sub_mul], by have := h.le; omega, by have := h.max; omega, .inr ⟨g, off + k * size, rfl, hb, hl, fun j u hu => ?_, fun j hj => ?_, fun j => ?_⟩⟩
    · rw [Nat.add_assoc]; exact hc _ u (by rw [← hu, List.getElem?_drop])
    · rw [Nat.add_assoc]
      refine hs _ ?_
      have e : cap * size = k * size + (cap - k) * size := by rw [← Nat.add_mul]; congr 1; omega
      omega
    · rw [Nat.add_assoc]; exact hf _
/-- 's[k:]' at the capacity: the address stays. -/
theorem Sl.cutAll (h : Sl w B size A n cap xs) (hk : n = cap) : Sl w B size A (n - n) (cap - n) (xs.drop (n * size)) := by
  subst hk
  have e : xs.drop (n * size) = [] := by rw [← h.len]; exact List.drop_length
  rw [e, Nat.sub_self]
  refine ⟨by simp, Nat.le_refl _, by unfold maxLen; omega, ?_⟩
  rcases h.row with ⟨h0, _⟩ | ⟨g, off, h0, hb, hl, _, _, hf⟩
  · exact .inl ⟨h0, rfl⟩
  · exact .inr ⟨g, off, h0, hb, hl, fun j u hu => by simp at hu, fun j hj => by simp at hj, hf⟩
theorem Sl.set {g off : Nat} (h : Sl w B size (some ⟨g, off, none⟩) n cap xs) {j : Nat} (hj : j < xs.length) (v : Value) : Sl (w.setCell ⟨g, off + j, none⟩ v) B size (some ⟨g, off, none⟩) n cap (xs.set j v) := by
  refine ⟨by rw [List.length_set]; exact h.len, h.le, h.max, ?_⟩
  rcases h.row with ⟨h0, _⟩ | ⟨g', off', e, hb, hl, hc, hs, hf⟩
  · cases h0
  · injection e with e
    injection e with e1 e2
    subst e1 e2
    refine .inr ⟨g, off, rfl, hb, by simpa using hl, fun i u hu => ?_, fun i hi => ?_, fun i => by rw [World.frozen?_setCell]; exact hf i⟩
    · rw [List.getElem?_set] at hu
      split at hu
      · rename_i hij
        subst hij
        injection hu with hu
        subst hu
        exact World.cell?_setCell_same w _ _ (hc j _ (List.getElem?_eq_getElem hj))
      · rename_i hij
        rw [World.cell?_setCell_other _ _ _ _ (by intro e; injection e with _ e; omega)]
        exact hc i u hu
    · by_cases hij : j = i
      · subst hij
        rw [World.cell?_setCell_same w _ _ (hc j _ (List.getElem?_eq_getElem hj))]; rfl
      · rw [World.cell?_setCell_other _ _ _ _ (by intro e; injection e with _ e; omega)]
        exact hs i hi
theorem Sl.new (w : World) {B : Nat} (hB : B ≤ w.heap.size) (t : TypeId) (c : Array Value) (hs : c.size = cap * size) (hn : n ≤ cap) (hm : cap ≤ maxLen) (hx : xs = c.toList.take (n * size)) : Sl (w.alloc (.cells c t)) B size (some ⟨w.heap.size, 0, none⟩) n cap xs := by
  refine ⟨by rw [hx, List.length_take, Array.length_toList, hs]; exact Nat.min_eq_left (Nat.mul_le_mul_right _ hn), hn, hm, .inr ⟨w.heap.size, 0, rfl, hB, by simp, fun j u hu => ?_, fun j hj => ?_, fun j => World.frozen?_alloc_new w c t _⟩⟩
  · rw [Nat.zero_add, World.cell?_alloc_new]
    rw [hx, List.getElem?_take] at hu
    split at hu
    · simpa using hu
    · cases hu
  · rw [Nat.zero_add, World.cell?_alloc_new, Array.getElem?_eq_getElem (by omega)]; rfl
theorem Sl.of_owns {e : TypeId} (h : w.ownsRow B e size (.slice A n cap) n xs) : Sl w B size A n cap xs := by
  obtain ⟨hl, h2⟩ := h
  rcases h2 with ⟨h2, rfl⟩ | ⟨g, cap', cur, hv, hb, hh, hn, hm, hsz, ht⟩
  · injection h2 with h1 _ h3
    subst h1 h3
    exact ⟨hl, Nat.le_refl _, by unfold maxLen; omega, .inl ⟨rfl, rfl⟩⟩
  · injection hv with h1 _ h3
    subst h1 h3
    have hcell : ∀ j, w.cell? ⟨g, j, none⟩ = cur[j]? := fun j => cell_of_row w g j cur e (0, 0) hh
    refine ⟨hl, hn, hm, .inr ⟨g, 0, rfl, hb, (Array.getElem?_eq_some_iff.1 hh).1, fun j u hu => ?_, fun j hj => ?_, fun j => by simp [World.frozen?, hh]⟩⟩
    · rw [Nat.zero_add, hcell]
      rw [← ht, List.getElem?_take] at hu
      split at hu
      · simpa using hu
      · cases hu
    · rw [Nat.zero_add, hcell, Array.getElem?_eq_getElem (by omega)]; rfl
end

/-! ### append onto such a slice -/
theorem setCells_tape (g : Nat) (vs : List Value) : ∀ (o : Nat) (w : World), (w.setCells g o vs).tape = w.tape := by
  induction vs with
  | nil => intro o w; rfl
  | cons v vs ih => intro o w; exact (ih (o + 1) _).trans rfl
theorem setCells_size (g : Nat) (vs : List Value) : ∀ (o : Nat) (w : World), (w.setCells g o vs).heap.size = w.heap.size := by
  induction vs with
  | nil => intro o w; rfl
  | cons v vs ih => intro o w; exact (ih (o + 1) _).trans (World.size_setCell _ _ _)
theorem setCells_frm (w : World) (g o : Nat) (vs : List Value) : Frm w (w.setCells g o vs) (fun k => k = g) := by
  have hk := World.keptBut_setCells g (may := fun _ => True) vs o w (fun _ _ => trivial)
  exact ⟨hk.1, setCells_tape g vs o w, hk.2.1, Nat.le_of_eq (setCells_size g vs o w).symm, fun k hk' hne => World.heap_setCells_other w g _ vs hk' hne⟩

section
variable {P : Program} (w : World)
/-- What an append leaves: the new slice, owned; only the old slice's block, and new ones, have turned; where it lies. -/
def Appended (w w' : World) (B size : Nat) (A A' : Option Addr) (n cap' : Nat) (ys : List Value) : Prop :=
  Sl w' B size A' n cap' ys ∧ Frm w w' (blk A) ∧ ∀ k, blk A' k → blk A k ∨ w.heap.size ≤ k

theorem run_append_sl (B : Nat) (t ty e : TypeId) (i : TypeInfo) (z : Value) (size bytes : Nat) (ht : P.underlying t = some (.slice e)) (hi : P.info? e = some i) (hz : i.zero = some z)
    (hsize : i.size = size) (hby : i.bytes = bytes) (hzs : z.cells.size = size) (hsz : 0 < size)
    (A : Option Addr) (n cap : Nat) (xs : List Value) (h : Sl w B size A n cap xs)
    (X : Option Addr) (m c : Nat) (news : List Value) (hr : Rd w w.heap.size size X m news) (h1 : ∀ u ∈ news, u.oneCell' = true)
    (h63 : n + m ≤ maxLen) (hbytes : (n + m) * bytes ≤ 140737488355328) (hB : B ≤ w.heap.size) :
    ∃ A' cap' w', (Builtin.append_ #[t, t] ty #[.slice A n cap, .slice X m c]).run P w = .ok (.slice A' (n + m) cap') w' ∧ Appended w w' B size A A' (n + m) cap' (xs ++ news) := by
  have hlen : (xs ++ news).length = (n + m) * size := by rw [List.length_append, h.len, hr.1, Nat.add_mul]
  by_cases hm : m = 0
  · subst hm
    have hn : news = [] := List.eq_nil_of_length_eq_zero (by simpa using hr.1)
    subst hn
    refine ⟨A, cap, w, ?_, by simpa using h, Frm.refl _ _, fun k hk => .inl hk⟩
    have hle : n ≤ cap := h.le
    cases A <;> cases X <;> simp [Builtin.append_, run_underlying ht, sizeOf, typeInfo, hi, Builtin.lenOf, Builtin.firstCells, loadCells, loadCellsFrom, hle, storeCells]
  have hpos : 0 < news.length := by rw [hr.1]; exact Nat.mul_pos (by omega) hsz
  obtain ⟨xg, xo, rfl, _, hnews0⟩ := hr.2 hpos
  have hnews : ∀ j u, news[j]? = some u → w.cell? ((⟨xg, xo, none⟩ : Addr).add j) = some u := fun j u hu => by rw [Addr.add_lit]; exact hnews0 j u hu
  have grows : ∀ v' w', w'.ownsRow w.heap.size e size v' (n + m) (xs ++ news) → w.grownBy w' none → (Builtin.append_ #[t, t] ty #[.slice A n cap, .slice (some ⟨xg, xo, none⟩) m c]).run P w = .ok v' w' →
      ∃ A' cap' w', (Builtin.append_ #[t, t] ty #[.slice A n cap, .slice (some ⟨xg, xo, none⟩) m c]).run P w = .ok (.slice A' (n + m) cap') w' ∧ Appended w w' B size A A' (n + m) cap' (xs ++ news) := by
    intro v' w' hown hg hrun
    have hown' := hown
    obtain ⟨_, h2⟩ := hown
    rcases h2 with ⟨_, h2⟩ | ⟨g, cap', cur, rfl, hb, _, hn, _⟩
    · omega
    · exact ⟨_, cap', w', hrun, (Sl.of_owns hown').mono hB, Frm.of_new hg _, fun k hk => by rw [blk_some] at hk; subst hk; exact .inr hb⟩
  by_cases hroom : n + m ≤ cap
  · rcases h.row with ⟨_, h0⟩ | ⟨g, off, rfl, hb, hlt, hc, hs, hf⟩
    · omega
    · have hsp : ∀ j, j < news.length → n * size + j < cap * size := by
        intro j hj
        have h3 : (n + m) * size ≤ cap * size := Nat.mul_le_mul_right _ hroom
        have h4 := hr.1
        rw [Nat.add_mul] at h3
        omega
      have hsp1 : ∀ j, j < news.length → (w.cell? ⟨g, off + n * size + j, none⟩).isSome = true := fun j hj => by rw [Nat.add_assoc]; exact hs _ (hsp j hj)
      have hsp2 : ∀ j, j < news.length → w.frozen? ⟨g, off + n * size + j, none⟩ = false := fun j _ => by rw [Nat.add_assoc]; exact hf _
      subst hsize
      have hrun := run_append_room_cells (P := P) w t ty e i ht hi g off n cap ⟨xg, xo, none⟩ m c news hr.1 hnews h1 hroom hsp1 hsp2
      have hg := setCells_frm w g (off + n * i.size) news
      refine ⟨_, cap, _, hrun, ⟨hlen, hroom, h.max, .inr ⟨g, off, rfl, hb, Nat.lt_of_lt_of_le hlt hg.size, fun j u hu => ?_, fun j hj => ?_, fun j => by rw [World.frozen?_setCells]; exact hf j⟩⟩, hg.mono fun k _ hk => (blk_some _ _ _).2 hk, fun k hk => .inl hk⟩
      · rcases Nat.lt_or_ge j xs.length with hj | hj
        · rw [List.getElem?_append_left hj] at hu
          rw [World.cell?_setCells_out _ _ _ _ _ (fun _ _ => by left; show off + j < off + n * i.size; rw [← h.len]; omega)]
          exact hc j u hu
        · rw [List.getElem?_append_right hj] at hu
          have hjl : j - xs.length < news.length := (List.getElem?_eq_some_iff.1 hu).1
          have := World.cell?_setCells_in g news (off + n * i.size) w hsp1 (j - xs.length) hjl
          rw [show off + n * i.size + (j - xs.length) = off + j from by rw [← h.len]; omega] at this
          rw [this, ← hu, List.getElem?_eq_getElem hjl]
      · by_cases hin : n * i.size ≤ j ∧ j - n * i.size < news.length
        · have := World.cell?_setCells_in g news (off + n * i.size) w hsp1 (j - n * i.size) hin.2
          rw [show off + n * i.size + (j - n * i.size) = off + j from by omega] at this
          rw [this]; rfl
        · rw [World.cell?_setCells_out _ _ _ _ _ (fun _ _ => by
            show off + j < off + n * i.size ∨ off + n * i.size + news.length ≤ off + j
            omega)]
          exact hs j hj
  · cases A with
    | some b =>
      have hcell : ∀ j u, xs[j]? = some u → w.cell? (b.add j) = some u := by
        intro j u hu
        rcases h.row with ⟨h0, _⟩ | ⟨g, off, hA, _, _, hc, _, _⟩
        · cases h0
        · injection hA with hA
          subst hA
          rw [Addr.add_lit]
          exact hc j u hu
      obtain ⟨v', w', hrun, r1, r2⟩ := run_append_arg_grows (P := P) w t ty e i z size bytes ht hi hz hsize hby hzs hsz b n cap xs h.len hcell ⟨xg, xo, none⟩ m c news hr.1 hnews (by omega) h63 hbytes
      exact grows v' w' r1 r2 hrun
    | none =>
      have h0 : cap = 0 := by
        rcases h.row with ⟨_, h0⟩ | ⟨g, off, hA, _⟩
        · exact h0
        · cases hA
      have hn0 : n = 0 := by have := h.le; omega
      have hx := h.empty hn0
      subst h0 hn0 hx
      obtain ⟨v', w', hrun, r1, r2, _⟩ := run_append_own (P := P) w w.heap.size t ty e i z size bytes ht hi hz hsize hby hzs hsz (.slice none 0 0) 0 [] (World.ownsRow_nil w _ e size) ⟨xg, xo, none⟩ m c news hr.1 hnews h1 h63 hbytes (Nat.le_refl _)
      exact grows v' w' r1 r2 hrun

theorem wp_append_sl {o : Oper} {a : Act} {K : Act → World → Prop} {Q : Exit → Act → World → Prop} (s x : Operand) (t : TypeId)
    (ho : o.op = .call { callee := .builtin .append, args := #[s, x], argTypes := #[t, t] })
    (B : Nat) (e : TypeId) (i : TypeInfo) (z : Value) (size bytes : Nat) (ht : P.underlying t = some (.slice e)) (hi : P.info? e = some i) (hz : i.zero = some z)
    (hsize : i.size = size) (hby : i.bytes = bytes) (hzs : z.cells.size = size) (hsz : 0 < size)
    (A : Option Addr) (n cap : Nat) (xs : List Value) (hs : a.eval s = .slice A n cap) (h : Sl w B size A n cap xs)
    (X : Option Addr) (m c : Nat) (news : List Value) (hx : a.eval x = .slice X m c) (hr : Rd w w.heap.size size X m news) (h1 : ∀ u ∈ news, u.oneCell' = true)
    (h63 : n + m ≤ maxLen) (hbytes : (n + m) * bytes ≤ 140737488355328) (hB : B ≤ w.heap.size)
    (hK : ∀ A' cap' w', Appended w w' B size A A' (n + m) cap' (xs ++ news) → K (a.put o.dst (.slice A' (n + m) cap')) w') : o.wp P a w K Q := by
  obtain ⟨A', cap', w', hrun, h2⟩ := run_append_sl (P := P) w B t o.type e i z size bytes ht hi hz hsize hby hzs hsz A n cap xs h X m c news hr h1 h63 hbytes hB
  unfold Oper.wp execOp
  simp only [ho, resolve, invoke, builtin, Sem.run_bind, Sem.run_pure, Result.andThen_ok, List.map_toArray, List.map_cons, List.map_nil, hs, hx, hrun]
  exact hK A' cap' w' h2
theorem wpList_append_sl {ops : Array Oper} {rest : List Oper} {o : Oper} {a : Act} {Q : Exit → Act → World → Prop} (hgd : o.guard = none) (s x : Operand) (t : TypeId)
    (ho : o.op = .call { callee := .builtin .append, args := #[s, x], argTypes := #[t, t] })
    (B : Nat) (e : TypeId) (i : TypeInfo) (z : Value) (size bytes : Nat) (ht : P.underlying t = some (.slice e)) (hi : P.info? e = some i) (hz : i.zero = some z)
    (hsize : i.size = size) (hby : i.bytes = bytes) (hzs : z.cells.size = size) (hsz : 0 < size)
    (A : Option Addr) (n cap : Nat) (xs : List Value) (hs : a.eval s = .slice A n cap) (h : Sl w B size A n cap xs)
    (X : Option Addr) (m c : Nat) (news : List Value) (hx : a.eval x = .slice X m c) (hr : Rd w w.heap.size size X m news) (h1 : ∀ u ∈ news, u.oneCell' = true)
    (h63 : n + m ≤ maxLen) (hbytes : (n + m) * bytes ≤ 140737488355328) (hB : B ≤ w.heap.size)
    (hK : ∀ A' cap' w', Appended w w' B size A A' (n + m) cap' (xs ++ news) → wpList P ops Q rest (a.put o.dst (.slice A' (n + m) cap')) w') : wpList P ops Q (o :: rest) a w :=
  wpList_plain hgd fun _ hK' => wp_append_sl w s x t ho B e i z size bytes ht hi hz hsize hby hzs hsz A n cap xs hs h X m c news hx hr h1 h63 hbytes hB fun A' cap' w' r => hK' _ _ (hK A' cap' w' r)
theorem step_append_sl {ops : Array Oper} {o : Oper} {a : Act} {K : Act → World → Prop} {Q : Exit → Act → World → Prop} {E : Prop} (hgd : o.guard = none) (s x : Operand) (t : TypeId)
    (ho : o.op = .call { callee := .builtin .append, args := #[s, x], argTypes := #[t, t] })
    (B : Nat) (e : TypeId) (i : TypeInfo) (z : Value) (size bytes : Nat) (ht : P.underlying t = some (.slice e)) (hi : P.info? e = some i) (hz : i.zero = some z)
    (hsize : i.size = size) (hby : i.bytes = bytes) (hzs : z.cells.size = size) (hsz : 0 < size)
    (A : Option Addr) (n cap : Nat) (xs : List Value) (hs : a.eval s = .slice A n cap) (h : Sl w B size A n cap xs)
    (X : Option Addr) (m c : Nat) (news : List Value) (hx : a.eval x = .slice X m c) (hr : Rd w w.heap.size size X m news) (h1 : ∀ u ∈ news, u.oneCell' = true)
    (h63 : n + m ≤ maxLen) (hbytes : (n + m) * bytes ≤ 140737488355328) (hB : B ≤ w.heap.size)
    (hK : ∀ A' cap' w', Appended w w' B size A A' (n + m) cap' (xs ++ news) → K (a.put o.dst (.slice A' (n + m) cap')) w') :
    if Region.wanted o (yielded ops a.tmps) = true then Oper.wp P o a w K Q else E := by
  have hw : Region.wanted o (yielded ops a.tmps) = true := by simp [Region.wanted, hgd]
  rw [if_pos hw]
  exact wp_append_sl w s x t ho B e i z size bytes ht hi hz hsize hby hzs hsz A n cap xs hs h X m c news hx hr h1 h63 hbytes hB hK
end
/-- A new block's cells, to be appended. -/
theorem Rd.fresh (w : World) (t : TypeId) (c : Array Value) {size n : Nat} (hn : c.size = n * size) : Rd (w.alloc (.cells c t)) (w.alloc (.cells c t)).heap.size size (some ⟨w.heap.size, 0, none⟩) n c.toList :=
  ⟨by simpa using hn, fun _ => ⟨w.heap.size, 0, rfl, by simp, fun j u hu => by rw [Nat.zero_add, World.cell?_alloc_new]; simpa using hu⟩⟩
end Go.Proofs.YtmjpaaippilioaaDoor
namespace Go.Proofs.YtmjpaaippilioaaDoor
open Go.RowKit

section
variable {P : Program} (w : World)
/-! ### copy onto a slice of the call's own -/
theorem run_copy_sl {B : Nat} (dT sT ty e : TypeId) (i : TypeInfo) (size : Nat) (hu : P.underlying dT = some (.slice e)) (hi : P.info? e = some i) (hsize : i.size = size)
    (D : Option Addr) (n c : Nat) (xs : List Value) (h : Sl w B size D n c xs) (j n' c0 : Nat) (D' : Option Addr) (hj : j + n' ≤ n) (hD : 0 < n' → ∀ g o, D = some ⟨g, o, none⟩ → D' = some ⟨g, o + j * size, none⟩)
    (X : Option Addr) (m c' : Nat) (all : List Value) (hr : Rd w w.heap.size size X m all) (h1 : ∀ u ∈ all, u.oneCell' = true) (k : Nat) (hk : k = Nat.min m n') :
    ∃ w', (Builtin.copy_ #[dT, sT] ty #[.slice D' n' c0, .slice X m c']).run P w = .ok (goInt k) w' ∧ Sl w' B size D n c (xs.take (j * size) ++ (all.take (k * size) ++ xs.drop ((j + k) * size))) ∧ Frm w w' (blk D) := by
  have hkm : k ≤ m := hk ▸ Nat.min_le_left _ _
  have hkn : k ≤ n' := hk ▸ Nat.min_le_right _ _
  subst hsize
  have hs0 : ∀ (s : Addr) (vs : List Value), vs.length = k * i.size → (∀ j u, vs[j]? = some u → w.cell? (s.add j) = some u) → (Builtin.firstCells i.size k (.slice (some s) m c')).run P w = .ok vs.toArray w := fun s vs hl hv => run_firstCells_some (P := P) w i.size k s m c' vs hl hv
  by_cases h0 : k * i.size = 0
  · refine ⟨w, ?_, by simpa [h0, Nat.add_mul] using h, Frm.refl _ _⟩
    have hs1 : ∀ s, (Builtin.firstCells i.size k (.slice (some s) m c')).run P w = .ok #[] w := fun s => by simpa using hs0 s [] (by simpa using h0.symm) (by simp)
    have hs2 : (Builtin.firstCells i.size k (.slice none m c')).run P w = .ok #[] w := by simp [Builtin.firstCells]
    cases D' <;> cases X <;> simp [Builtin.copy_, run_underlying hu, Builtin.lenOf, sizeOf, typeInfo, hi, ← hk, hs1, hs2, storeCells]
  · have hall : k * i.size ≤ all.length := by rw [hr.1]; exact Nat.mul_le_mul_right _ hkm
    obtain ⟨g, o, rfl, _, hc⟩ := hr.2 (by omega)
    have hpos : 0 < k := by
      rcases Nat.eq_zero_or_pos k with e | e
      · rw [e] at h0; simp at h0
      · exact e
    have hcap := h.le
    have hjk : (j + k) * i.size ≤ n * i.size := Nat.mul_le_mul_right _ (by omega)
    have hxs := h.len
    have hn : n * i.size ≤ c * i.size := Nat.mul_le_mul_right _ hcap
    rcases h.row with ⟨_, hz⟩ | ⟨dg, dof, rfl, hB, hlt, hcd, hsome, hfr⟩
    · omega
    obtain rfl := hD (by omega) dg dof rfl
    have hl : (all.take (k * i.size)).length = k * i.size := by rw [List.length_take]; omega
    rw [Nat.add_mul] at hjk ⊢
    have hcell : ∀ q, q < (all.take (k * i.size)).length → (w.cell? ⟨dg, dof + j * i.size + 0 + q, none⟩).isSome = true := fun q hq => by rw [Nat.add_zero, Nat.add_assoc]; exact hsome _ (by omega)
    have hst := run_storeCells_cells (P := P) dg (dof + j * i.size) (all.take (k * i.size)) 0 w hcell (fun q _ => by rw [Nat.add_zero, Nat.add_assoc]; exact hfr _) (fun u hu => h1 u (List.mem_of_mem_take hu))
    have hfc := hs0 ⟨g, o, none⟩ (all.take (k * i.size)) hl (fun j u hu => by
      rw [Addr.add_lit]
      rw [List.getElem?_take] at hu
      split at hu
      · exact hc j u hu
      · cases hu)
    simp only [Nat.add_zero] at hst hcell
    have hf := setCells_frm w dg (dof + j * i.size) (all.take (k * i.size))
    have hlt1 : (xs.take (j * i.size)).length = j * i.size := by rw [List.length_take]; omega
    refine ⟨w.setCells dg (dof + j * i.size) (all.take (k * i.size)), ?_, ⟨?_, hcap, h.max, .inr ⟨dg, dof, rfl, hB, Nat.lt_of_lt_of_le hlt hf.size, fun q u hu => ?_, fun q hq => ?_, fun q => by rw [World.frozen?_setCells]; exact hfr q⟩⟩, hf.mono fun q _ hq => (blk_some _ _ _).2 hq⟩
    · simp only [Builtin.copy_, Builtin.lenOf, sizeOf, typeInfo]
      simp [run_underlying hu, hi, ← hk, hfc, hst]
    · rw [List.length_append, List.length_append, hl, hlt1, List.length_drop, h.len]; omega
    · rcases Nat.lt_or_ge q (j * i.size) with hq | hq
      · rw [List.getElem?_append_left (by omega), List.getElem?_take] at hu
        rw [if_pos hq] at hu
        rw [World.cell?_setCells_out _ _ _ _ _ (fun _ _ => by
          left
          show dof + q < dof + j * i.size
          omega)]
        exact hcd q u hu
      · rw [List.getElem?_append_right (by omega), hlt1] at hu
        rcases Nat.lt_or_ge (q - j * i.size) (k * i.size) with hj2 | hj2
        · rw [List.getElem?_append_left (by omega)] at hu
          have := World.cell?_setCells_in dg (all.take (k * i.size)) (dof + j * i.size) w hcell (q - j * i.size) (by omega)
          rw [show dof + j * i.size + (q - j * i.size) = dof + q from by omega] at this
          rw [this, ← hu, List.getElem?_eq_getElem (by omega)]
        · rw [List.getElem?_append_right (by omega), hl, List.getElem?_drop, show j * i.size + k * i.size + (q - j * i.size - k * i.size) = q from by omega] at hu
          rw [World.cell?_setCells_out _ _ _ _ _ (fun _ _ => by
            right
            show dof + j * i.size + (all.take (k * i.size)).length ≤ dof + q
            omega)]
          exact hcd q u hu
    · by_cases hin : j * i.size ≤ q ∧ q - j * i.size < k * i.size
      · have := World.cell?_setCells_in dg (all.take (k * i.size)) (dof + j * i.size) w hcell (q - j * i.size) (by omega)
        rw [show dof + j * i.size + (q - j * i.size) = dof + q from by omega] at this
        rw [this]; rfl
      · rw [World.cell?_setCells_out _ _ _ _ _ (fun _ _ => by
          show dof + q < dof + j * i.size ∨ dof + j * i.size + (all.take (k * i.size)).length ≤ dof + q
          omega)]
        exact hsome q hq
theorem wp_copy_sl {o : Oper} {a : Act} {K : Act → World → Prop} {Q : Exit → Act → World → Prop} (d s : Operand) (dT sT : TypeId)
    (ho : o.op = .call { callee := .builtin .copy, args := #[d, s], argTypes := #[dT, sT] })
    {B : Nat} (e : TypeId) (i : TypeInfo) (size : Nat) (hu : P.underlying dT = some (.slice e)) (hi : P.info? e = some i) (hsize : i.size = size)
    (D : Option Addr) (n c : Nat) (xs : List Value) (h : Sl w B size D n c xs) (j n' c0 : Nat) (D' : Option Addr) (hd : a.eval d = .slice D' n' c0) (hj : j + n' ≤ n) (hD : 0 < n' → ∀ g o, D = some ⟨g, o, none⟩ → D' = some ⟨g, o + j * size, none⟩)
    (X : Option Addr) (m c' : Nat) (all : List Value) (hx : a.eval s = .slice X m c') (hr : Rd w w.heap.size size X m all) (h1 : ∀ u ∈ all, u.oneCell' = true) (k : Nat) (hk : k = Nat.min m n')
    (hK : ∀ w', Sl w' B size D n c (xs.take (j * size) ++ (all.take (k * size) ++ xs.drop ((j + k) * size))) → Frm w w' (blk D) → K (a.put o.dst (goInt k)) w') : o.wp P a w K Q := by
  obtain ⟨w', hrun, h2, h3⟩ := run_copy_sl (P := P) w dT sT o.type e i size hu hi hsize D n c xs h j n' c0 D' hj hD X m c' all hr h1 k hk
  unfold Oper.wp execOp
  simp only [ho, resolve, invoke, builtin, Sem.run_bind, Sem.run_pure, Result.andThen_ok, List.map_toArray, List.map_cons, List.map_nil, hd, hx, hrun]
  exact hK w' h2 h3
theorem wpList_copy_sl {ops : Array Oper} {rest : List Oper} {o : Oper} {a : Act} {Q : Exit → Act → World → Prop} (hgd : o.guard = none) (d s : Operand) (dT sT : TypeId)
    (ho : o.op = .call { callee := .builtin .copy, args := #[d, s], argTypes := #[dT, sT] })
    {B : Nat} (e : TypeId) (i : TypeInfo) (size : Nat) (hu : P.underlying dT = some (.slice e)) (hi : P.info? e = some i) (hsize : i.size = size)
    (D : Option Addr) (n c : Nat) (xs : List Value) (h : Sl w B size D n c xs) (j n' c0 : Nat) (D' : Option Addr) (hd : a.eval d = .slice D' n' c0) (hj : j + n' ≤ n) (hD : 0 < n' → ∀ g o, D = some ⟨g, o, none⟩ → D' = some ⟨g, o + j * size, none⟩)
    (X : Option Addr) (m c' : Nat) (all : List Value) (hx : a.eval s = .slice X m c') (hr : Rd w w.heap.size size X m all) (h1 : ∀ u ∈ all, u.oneCell' = true) (k : Nat) (hk : k = Nat.min m n')
    (hK : ∀ w', Sl w' B size D n c (xs.take (j * size) ++ (all.take (k * size) ++ xs.drop ((j + k) * size))) → Frm w w' (blk D) → wpList P ops Q rest (a.put o.dst (goInt k)) w') : wpList P ops Q (o :: rest) a w :=
  wpList_plain hgd fun _ hK' => wp_copy_sl w d s dT sT ho e i size hu hi hsize D n c xs h j n' c0 D' hd hj hD X m c' all hx hr h1 k hk fun w' r1 r2 => hK' _ _ (hK w' r1 r2)
theorem step_copy_sl {ops : Array Oper} {o : Oper} {a : Act} {K : Act → World → Prop} {Q : Exit → Act → World → Prop} {E : Prop} (hgd : o.guard = none) (d s : Operand) (dT sT : TypeId)
    (ho : o.op = .call { callee := .builtin .copy, args := #[d, s], argTypes := #[dT, sT] })
    {B : Nat} (e : TypeId) (i : TypeInfo) (size : Nat) (hu : P.underlying dT = some (.slice e)) (hi : P.info? e = some i) (hsize : i.size = size)
    (D : Option Addr) (n c : Nat) (xs : List Value) (h : Sl w B size D n c xs) (j n' c0 : Nat) (D' : Option Addr) (hd : a.eval d = .slice D' n' c0) (hj : j + n' ≤ n) (hD : 0 < n' → ∀ g o, D = some ⟨g, o, none⟩ → D' = some ⟨g, o + j * size, none⟩)
    (X : Option Addr) (m c' : Nat) (all : List Value) (hx : a.eval s = .slice X m c') (hr : Rd w w.heap.size size X m all) (h1 : ∀ u ∈ all, u.oneCell' = true) (k : Nat) (hk : k = Nat.min m n')
    (hK : ∀ w', Sl w' B size D n c (xs.take (j * size) ++ (all.take (k * size) ++ xs.drop ((j + k) * size))) → Frm w w' (blk D) → K (a.put o.dst (goInt k)) w') :
    if Region.wanted o (yielded ops a.tmps) = true then Oper.wp P o a w K Q else E := by
  have hw : Region.wanted o (yielded ops a.tmps) = true := by simp [Region.wanted, hgd]
  rw [if_pos hw]
  exact wp_copy_sl w d s dT sT ho e i size hu hi hsize D n c xs h j n' c0 D' hd hj hD X m c' all hx hr h1 k hk hK

/-! ### make -/
theorem wpList_make_sl {ops : Array Oper} {rest : List Oper} {o : Oper} {a : Act} {Q : Exit → Act → World → Prop}
    (hg : o.guard = none) (l c : Operand) (t : TypeId) (hop : o.op = Op.makeSlice t l c)
    (e : TypeId) (i : TypeInfo) (z : Value) (size : Nat) (h1 : P.underlying t = some (.slice e)) (h2 : P.info? e = some i) (h3 : i.zero = some z) (h4 : i.size = size)
    (kl kc : IntKind) (L C : Int) (n : Nat) (hl : a.eval l = .int kl L) (hc : a.eval c = .int kc C) (hL : L = (n : Int)) (hC : C = (n : Int)) (b2 : i.bytes * n ≤ 281474976710656) (b3 : n ≤ maxLen)
    (hK : ∀ w', Sl w' w.heap.size size (some ⟨w.heap.size, 0, none⟩) n n (madeCells z.cells (n * size)).toList → (Frm w w' fun _ => False) → w.heap.size < w'.heap.size → wpList P ops Q rest (a.put o.dst (.slice (some ⟨w.heap.size, 0, none⟩) n n)) w') :
    wpList P ops Q (o :: rest) a w :=
  wpList_make_full w hg l c t hop w.heap.size e i z size h1 h2 h3 h4 kl kc L C n hl hc hL hC b2 b3 (Nat.le_refl _) fun w' r1 r2 => by
    refine hK w' (Sl.of_owns r1) (Frm.of_new r2 _) ?_
    obtain ⟨_, h | ⟨g, _, _, hv, _, hh, _⟩⟩ := r1
    · cases h.1
    · injection hv with hv _ _
      injection hv with hv
      injection hv with hv
      subst hv
      exact (Array.getElem?_eq_some_iff.1 hh).1
end

/-! ### what is new stays new -/
section
variable {w w1 w2 : World} {size n : Nat} {A : Option Addr} {xs : List Value}
theorem Frm.fresh {S : Nat → Prop} (h : Frm w w1 fun _ => False) (k : Frm w1 w2 S) (hS : ∀ j, S j → w.heap.size ≤ j) : Frm w w2 fun _ => False :=
  ⟨k.os.trans h.os, k.tape.trans h.tape, k.output.trans h.output, Nat.le_trans h.size k.size, fun j hj _ => (k.block j (Nat.lt_of_lt_of_le hj h.size) (fun hb => by have := hS j hb; omega)).trans (h.block j hj id)⟩
theorem Frm.all {S : Nat → Prop} (h : Frm w w1 S) {S' : Nat → Prop} (k : Frm w1 w2 S') (hS : ∀ j, S' j → S j ∨ w.heap.size ≤ j) : Frm w w2 S :=
  h.trans k fun j hj hs => (hS j hs).resolve_right (by omega)
theorem Rd.new_ (h : Rd w w.heap.size size A n xs) (k : Frm w w1 fun _ => False) : Rd w1 w1.heap.size size A n xs := (h.below (k.below (B := w.heap.size) (fun _ _ => id) (Nat.le_refl _))).more k.size
theorem Rd.frm {S : Nat → Prop} (h : Rd w w.heap.size size A n xs) (k : Frm w w1 S) (hA : ∀ j, blk A j → ¬ S j) : Rd w1 w1.heap.size size A n xs :=
  ⟨h.1, fun hn => by
    obtain ⟨g, off, e, hb, hc⟩ := h.2 hn
    refine ⟨g, off, e, Nat.lt_of_lt_of_le hb k.size, fun j u hu => ?_⟩
    exact k.cell (hc j u hu) (hA g (by rw [e]; exact (blk_some _ _ _).2 rfl))⟩
theorem blk_ge {g : Nat} : ∀ j, blk (some ⟨g, 0, none⟩) j → g ≤ j := fun j hj => by rw [blk_some] at hj; omega
end
end Go.Proofs.YtmjpaaippilioaaDoor

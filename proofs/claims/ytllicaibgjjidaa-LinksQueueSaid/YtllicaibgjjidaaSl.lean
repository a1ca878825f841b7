import Derived.Below
import Derived.ArgAppend
import Derived.Maps.AppendAt
import Derived.Deep.Draws
import Derived.Deep.Upon
import Derived.RegionTactic
import Derived.Deep.AppendLies
namespace Go.Proofs.Ytllicaibgjjidaa.G
open Go.RowKit

/-! ### frames: only one block, and what is new, has turned -/
theorem only_drewN {a w : World} {row : Option Nat} (h : a.grownBy w row) (n : Nat) : a.grownBy (w.drewN n) row := ⟨h.os, h.tape, h.output, h.size, h.block⟩
theorem only_drew {a w : World} {row : Option Nat} (h : a.grownBy w row) : a.grownBy w.drew row := ⟨h.os, h.tape, h.output, h.size, h.block⟩
theorem only_alloc {a w : World} {row : Option Nat} (h : a.grownBy w row) (o : Obj) : a.grownBy (w.alloc o) row :=
  ⟨h.os, h.tape, h.output, Nat.le_trans h.size (by simp), fun i hi hne => (Below.heap_alloc w o i (Nat.lt_of_lt_of_le hi h.size)).trans (h.block i hi hne)⟩
theorem only_setCell {a w : World} {g : Nat} (h : a.grownBy w (some g)) {p : Addr} (hp : p.block = g ∨ a.heap.size ≤ p.block) (u : Value) : a.grownBy (w.setCell p u) (some g) :=
  ⟨h.os, h.tape, h.output, by simpa [World.setCell] using h.size, fun i hi hne => (Below.heap_setCell w p u i (by
    rintro rfl
    rcases hp with hp | hp
    · exact hne (by rw [hp])
    · omega)).trans (h.block i hi hne)⟩
theorem only_setCell_new {a w : World} {row : Option Nat} (h : a.grownBy w row) {p : Addr} (hp : a.heap.size ≤ p.block) (u : Value) : a.grownBy (w.setCell p u) row :=
  ⟨h.os, h.tape, h.output, by simpa [World.setCell] using h.size, fun i hi hne => (Below.heap_setCell w p u i (by rintro rfl; omega)).trans (h.block i hi hne)⟩
theorem only_trans {a b c : World} {row row' : Option Nat} (h : a.grownBy b row) (k : b.grownBy c row') (hr : ∀ j, row' = some j → a.heap.size ≤ j ∨ row = some j) : a.grownBy c row :=
  ⟨k.os.trans h.os, k.tape.trans h.tape, k.output.trans h.output, Nat.le_trans h.size k.size, fun i hi hne => (k.block i (Nat.lt_of_lt_of_le hi h.size) (fun e => by
    rcases hr i e.symm with h1 | h1
    · omega
    · exact hne h1.symm)).trans (h.block i hi hne)⟩
theorem only_below {a w : World} (h : a.grownBy w none) : Below a.heap.size a w := ⟨h.os, h.tape, h.output, h.size, fun k hk => h.block k hk (by simp)⟩
theorem only_below_at {a w : World} {g B : Nat} (h : a.grownBy w (some g)) (hB : B ≤ g) (hs : B ≤ a.heap.size) : Below B a w := ⟨h.os, h.tape, h.output, h.size, fun k hk => h.block k (by omega) (by intro e; injection e with e; omega)⟩
theorem only_below_row {a w : World} {row : Option Nat} {B : Nat} (h : a.grownBy w row) (hB : ∀ g, row = some g → B ≤ g) (hs : B ≤ a.heap.size) : Below B a w := ⟨h.os, h.tape, h.output, h.size, fun k hk => h.block k (by omega) (fun e => by have := hB k e.symm; omega)⟩
theorem only_none {a w : World} (h : a.grownBy w none) (row : Option Nat) : a.grownBy w row := ⟨h.os, h.tape, h.output, h.size, fun i hi _ => h.block i hi (by simp)⟩
theorem below_drewN {B : Nat} {a w : World} (h : Below B a w) (n : Nat) : Below B a (w.drewN n) := ⟨h.os, h.tape, h.output, h.size, h.block⟩
theorem below_only {B : Nat} {a w w' : World} {row : Option Nat} (h : Below B a w) (hg : w.grownBy w' row) (hB : ∀ g, row = some g → B ≤ g) (hs : B ≤ w.heap.size) : Below B a w' := h.trans (only_below_row hg hB hs)
theorem grown_cell {w w' : World} {row : Option Nat} (hg : w.grownBy w' row) {a : Addr} {v : Value} (h : w.cell? a = some v) (hne : row ≠ some a.block) : w'.cell? a = some v := hg.cell h (fun e => hne e.symm)
theorem grown_frozen {w w' : World} {row : Option Nat} (hg : w.grownBy w' row) {a : Addr} {v : Value} (h : w.cell? a = some v) (hne : row ≠ some a.block) : w'.frozen? a = w.frozen? a :=
  World.frozen?_of_block (hg.block a.block (World.block_lt_of_cell? w a h) (fun e => hne e.symm))

/-! ### slices of the call's own -/
/-- The slice '.slice A n cap' (elements of 'size' cells) is the call's own: its cells read as xs and may be written, up to the capacity; it lies from block B on. -/
structure Sl (w : World) (B size : Nat) (A : Option Addr) (n cap : Nat) (xs : List Value) : Prop where
  len : xs.length = n * size
  le : n ≤ cap
  max : cap ≤ maxLen
  row : cap = 0 ∨ ∃ g off, A = some ⟨g, off, none⟩ ∧ B ≤ g ∧ g < w.heap.size ∧ (∀ j u, xs[j]? = some u → w.cell? ⟨g, off + j, none⟩ = some u) ∧ (∀ j, j < cap * size → (w.cell? ⟨g, off + j, none⟩).isSome = true) ∧ ∀ j, w.frozen? ⟨g, off + j, none⟩ = false

section
variable {w w' : World} {B size n cap : Nat} {A : Option Addr} {xs : List Value}
theorem Sl.nil (w : World) (B size : Nat) : Sl w B size none 0 0 [] := ⟨by simp, Nat.le_refl _, by unfold maxLen; omega, .inl rfl⟩
theorem Sl.grown {row : Option Nat} (h : Sl w B size A n cap xs) (hg : w.grownBy w' row) (hr : ∀ a, A = some a → row ≠ some a.block) : Sl w' B size A n cap xs := by
  refine ⟨h.len, h.le, h.max, ?_⟩
  rcases h.row with h0 | ⟨g, off, rfl, hB, hlt, hc, hs, hf⟩
  · exact .inl h0
  · have hb : w'.heap[g]? = w.heap[g]? := hg.block g hlt (fun e => hr _ rfl e.symm)
    refine .inr ⟨g, off, rfl, hB, Nat.lt_of_lt_of_le hlt hg.size, fun j u hu => ?_, fun j hj => ?_, fun j => ?_⟩
    · rw [World.cell?_of_block (a := ⟨g, off + j, none⟩) hb]; exact hc j u hu
    · rw [World.cell?_of_block (a := ⟨g, off + j, none⟩) hb]; exact hs j hj
    · rw [World.frozen?_of_block (a := ⟨g, off + j, none⟩) hb]; exact hf j
theorem Sl.keep (h : Sl w B size A n cap xs) (hg : w.grownBy w' none) : Sl w' B size A n cap xs := h.grown hg (fun _ _ => by simp)
theorem Sl.drew (h : Sl w B size A n cap xs) : Sl w.drew B size A n cap xs := h.keep ⟨rfl, rfl, rfl, Nat.le_refl _, fun _ _ _ => rfl⟩
theorem Sl.drewN (h : Sl w B size A n cap xs) (k : Nat) : Sl (w.drewN k) B size A n cap xs := h.keep ⟨rfl, rfl, rfl, Nat.le_refl _, fun _ _ _ => rfl⟩
theorem Sl.alloc (h : Sl w B size A n cap xs) (o : Obj) : Sl (w.alloc o) B size A n cap xs := h.keep (World.grownBy_alloc w o none)
/-- A write to a block below the base. -/
theorem Sl.under {g : Nat} (h : Sl w B size A n cap xs) (hg : w.grownBy w' (some g)) (hlt : g < B) : Sl w' B size A n cap xs := by
  refine ⟨h.len, h.le, h.max, ?_⟩
  rcases h.row with h0 | ⟨g', off, rfl, hB, rest⟩
  · exact .inl h0
  · have hh : Sl w B size (some ⟨g', off, none⟩) n cap xs := h
    exact (hh.grown hg (fun a ha => by injection ha with ha; subst ha; simp; omega)).row
theorem Sl.setCell (h : Sl w B size A n cap xs) {p : Addr} (hp : ∀ a, A = some a → p.block ≠ a.block) (u : Value) : Sl (w.setCell p u) B size A n cap xs :=
  h.grown (row := some p.block) (only_setCell (World.grownBy.refl w _) (.inl rfl) u) (fun a ha e => hp a ha (by injection e))
theorem Sl.mono {B' : Nat} (h : Sl w B size A n cap xs) (hB : B' ≤ B) : Sl w B' size A n cap xs := by
  refine ⟨h.len, h.le, h.max, ?_⟩
  rcases h.row with h0 | ⟨g, off, rfl, hb, rest⟩
  · exact .inl h0
  · exact .inr ⟨g, off, rfl, by omega, rest⟩
theorem Sl.form (h : Sl w B size A n cap xs) (hn : 0 < cap) : ∃ g off, A = some ⟨g, off, none⟩ ∧ B ≤ g ∧ g < w.heap.size ∧ (∀ j u, xs[j]? = some u → w.cell? ⟨g, off + j, none⟩ = some u) ∧ ∀ j, w.frozen? ⟨g, off + j, none⟩ = false := by
  rcases h.row with h0 | ⟨g, off, rfl, hb, hlt, hc, _, hf⟩
  · omega
  · exact ⟨g, off, rfl, hb, hlt, hc, hf⟩
theorem Sl.empty (h : Sl w B size A n cap xs) (hn : cap = 0) : n = 0 ∧ xs = [] := by
  have := h.le
  obtain rfl : n = 0 := by omega
  exact ⟨rfl, List.eq_nil_of_length_eq_zero (by simpa using h.len)⟩
/-- 's[:m]' below the length, 's[:n:c]'. -/
theorem Sl.short (h : Sl w B size A n cap xs) {m c : Nat} (hm : m ≤ n) (hmc : m ≤ c) (hc : c ≤ cap) : Sl w B size A m c (xs.take (m * size)) := by
  refine ⟨by rw [List.length_take, h.len]; exact Nat.min_eq_left (Nat.mul_le_mul_right _ hm), hmc, Nat.le_trans hc h.max, ?_⟩
  rcases h.row with h0 | ⟨g, off, rfl, hb, hlt, hcell, hs, hf⟩
  · left; omega
  · refine .inr ⟨g, off, rfl, hb, hlt, fun j u hu => ?_, fun j hj => hs j (Nat.lt_of_lt_of_le hj (Nat.mul_le_mul_right _ hc)), hf⟩
    rw [List.getElem?_take] at hu
    split at hu
    · exact hcell j u hu
    · cases hu
theorem Sl.clip (h : Sl w B size A n cap xs) {c : Nat} (hmc : n ≤ c) (hc : c ≤ cap) : Sl w B size A n c xs := by
  have := h.short (Nat.le_refl n) hmc hc
  rwa [← h.len, List.take_length] at this
/-- 's[k:]'. -/
theorem Sl.cut (h : Sl w B size A n cap xs) {k : Nat} (hk : k ≤ n) (hlt : k < cap) : ∃ g off, A = some ⟨g, off, none⟩ ∧ Sl w B size (some ⟨g, off + k * size, none⟩) (n - k) (cap - k) (xs.drop (k * size)) := by
  rcases h.row with h0 | ⟨g, off, rfl, hb, hl, hc, hs, hf⟩
  · omega
  · refine ⟨g, off, rfl, by rw [List.length_drop, h.len, Nat.sub_mul], by have := h.le; omega, by have := h.max; omega, .inr ⟨g, off + k * size, rfl, hb, hl, fun j u hu => ?_, fun j hj => ?_, fun j => ?_⟩⟩
    · rw [Nat.add_assoc]; exact hc _ u (by rw [← hu, List.getElem?_drop])
    · rw [Nat.add_assoc]
      refine hs _ ?_
      have e : cap * size = k * size + (cap - k) * size := by rw [← Nat.add_mul]; congr 1; omega
      omega
    · rw [Nat.add_assoc]; exact hf _
theorem Sl.none_of (w : World) (B size : Nat) (A : Option Addr) : Sl w B size A 0 0 [] := ⟨by simp, Nat.le_refl _, by unfold maxLen; omega, .inl rfl⟩
/-- 's[i] = ..', a cell of it. -/
theorem Sl.set {g off : Nat} (h : Sl w B size (some ⟨g, off, none⟩) n cap xs) {j : Nat} (hj : j < xs.length) (v : Value) : Sl (w.setCell ⟨g, off + j, none⟩ v) B size (some ⟨g, off, none⟩) n cap (xs.set j v) := by
  refine ⟨by rw [List.length_set]; exact h.len, h.le, h.max, ?_⟩
  rcases h.row with h0 | ⟨g', off', e, hb, hl, hc, hs, hf⟩
  · exact .inl h0
  · injection e with e
    injection e with e1 e2
    subst e1 e2
    refine .inr ⟨g, off, rfl, hb, by simpa using hl, fun i u hu => ?_, fun i hi => ?_, fun i => by rw [World.frozen?_setCell]; exact hf i⟩
    · rw [List.getElem?_set] at hu
      split at hu
      · rename_i hij
        subst hij
        injection hu with hu
        subst hu
        exact World.cell?_setCell_same w _ _ (hc j _ (List.getElem?_eq_getElem hj))
      · rename_i hij
        rw [World.cell?_setCell_other _ _ _ _ (by intro e; injection e with _ e; omega)]
        exact hc i u hu
    · by_cases hij : j = i
      · subst hij
        rw [World.cell?_setCell_same w _ _ (hc j _ (List.getElem?_eq_getElem hj))]; rfl
      · rw [World.cell?_setCell_other _ _ _ _ (by intro e; injection e with _ e; omega)]
        exact hs i hi
theorem Sl.new (w : World) {B : Nat} (hB : B ≤ w.heap.size) (t : TypeId) (c : Array Value) (hs : c.size = cap * size) (hn : n ≤ cap) (hm : cap ≤ maxLen) (hx : xs = c.toList.take (n * size)) : Sl (w.alloc (.cells c t)) B size (some ⟨w.heap.size, 0, none⟩) n cap xs := by
  refine ⟨by rw [hx, List.length_take, Array.length_toList, hs]; exact Nat.min_eq_left (Nat.mul_le_mul_right _ hn), hn, hm, .inr ⟨w.heap.size, 0, rfl, hB, by simp, fun j u hu => ?_, fun j hj => ?_, fun j => World.frozen?_alloc_new w c t _⟩⟩
  · rw [Nat.zero_add, World.cell?_alloc_new]
    rw [hx, List.getElem?_take] at hu
    split at hu
    · simpa using hu
    · cases hu
  · rw [Nat.zero_add, World.cell?_alloc_new, Array.getElem?_eq_getElem (by omega)]; rfl
theorem Sl.of_owns {e : TypeId} (h : w.ownsRow B e size (.slice A n cap) n xs) : Sl w B size A n cap xs := by
  obtain ⟨hl, h2⟩ := h
  rcases h2 with ⟨h2, rfl⟩ | ⟨g, cap', cur, hv, hb, hh, hn, hm, hsz, ht⟩
  · injection h2 with _ _ h3
    subst h3
    exact ⟨hl, Nat.le_refl _, by unfold maxLen; omega, .inl rfl⟩
  · injection hv with h1 _ h3
    subst h1 h3
    have hcell : ∀ j, w.cell? ⟨g, j, none⟩ = cur[j]? := fun j => cell_of_row w g j cur e (0, 0) hh
    refine ⟨hl, hn, hm, .inr ⟨g, 0, rfl, hb, (Array.getElem?_eq_some_iff.1 hh).1, fun j u hu => ?_, fun j hj => ?_, fun j => by simp [World.frozen?, hh]⟩⟩
    · rw [Nat.zero_add, hcell]
      rw [← ht, List.getElem?_take] at hu
      split at hu
      · simpa using hu
      · cases hu
    · rw [Nat.zero_add, hcell, Array.getElem?_eq_getElem (by omega)]; rfl
end

/-! ### append onto such a slice: at least one element more, out of memory that is there -/
section
variable {P : Program} (w : World)
theorem run_append_sl (B : Nat) (t ty e : TypeId) (i : TypeInfo) (z : Value) (size bytes : Nat) (ht : P.underlying t = some (.slice e)) (hi : P.info? e = some i) (hz : i.zero = some z)
    (hsize : i.size = size) (hby : i.bytes = bytes) (hzs : z.cells.size = size) (hsz : 0 < size)
    (A : Option Addr) (n cap : Nat) (xs : List Value) (h : Sl w B size A n cap xs)
    (ad : Addr) (m c : Nat) (news : List Value) (hl : news.length = m * size) (hnews : ∀ j u, news[j]? = some u → w.cell? (ad.add j) = some u) (h1 : ∀ u ∈ news, u.oneCell' = true) (hm : 0 < m)
    (h63 : n + m ≤ maxLen) (hbytes : (n + m) * bytes ≤ 140737488355328) (hB : B ≤ w.heap.size) :
    ∃ g off cap' w', (Builtin.append_ #[t, t] ty #[.slice A n cap, .slice (some ad) m c]).run P w = .ok (.slice (some ⟨g, off, none⟩) (n + m) cap') w' ∧ Sl w' B size (some ⟨g, off, none⟩) (n + m) cap' (xs ++ news) ∧ w.grownBy w' (some g) ∧ B ≤ g ∧
      ((∃ a, A = some a ∧ a.block = g) ∨ w.heap.size ≤ g) ∧ 0 < cap' := by
  have hlen : (xs ++ news).length = (n + m) * size := by rw [List.length_append, h.len, hl, Nat.add_mul]
  have grows : ∀ v' w', w'.ownsRow w.heap.size e size v' (n + m) (xs ++ news) → w.grownBy w' none → (Builtin.append_ #[t, t] ty #[.slice A n cap, .slice (some ad) m c]).run P w = .ok v' w' →
      ∃ g off cap' w', (Builtin.append_ #[t, t] ty #[.slice A n cap, .slice (some ad) m c]).run P w = .ok (.slice (some ⟨g, off, none⟩) (n + m) cap') w' ∧ Sl w' B size (some ⟨g, off, none⟩) (n + m) cap' (xs ++ news) ∧ w.grownBy w' (some g) ∧ B ≤ g ∧
      ((∃ a, A = some a ∧ a.block = g) ∨ w.heap.size ≤ g) ∧ 0 < cap' := by
    intro v' w' hown hg hrun
    have hown' := hown
    obtain ⟨_, h2⟩ := hown
    rcases h2 with ⟨_, h2⟩ | ⟨g, cap', cur, rfl, hb, _, hn, _⟩
    · omega
    · exact ⟨g, 0, cap', w', hrun, (Sl.of_owns hown').mono hB, only_none hg _, by omega, .inr hb, by omega⟩
  by_cases hr : n + m ≤ cap
  · rcases h.row with h0 | ⟨g, off, rfl, hb, hlt, hc, hs, hf⟩
    · omega
    · have hsp : ∀ j, j < news.length → n * size + j < cap * size := by
        intro j hj
        have : (n + m) * size ≤ cap * size := Nat.mul_le_mul_right _ hr
        rw [Nat.add_mul] at this
        omega
      have hsp1 : ∀ j, j < news.length → (w.cell? ⟨g, off + n * size + j, none⟩).isSome = true := fun j hj => by rw [Nat.add_assoc]; exact hs _ (hsp j hj)
      have hsp2 : ∀ j, j < news.length → w.frozen? ⟨g, off + n * size + j, none⟩ = false := fun j _ => by rw [Nat.add_assoc]; exact hf _
      subst hsize
      have hrun := run_append_room_cells (P := P) w t ty e i ht hi g off n cap ad m c news hl hnews h1 hr hsp1 hsp2
      have hg : w.grownBy (w.setCells g (off + n * i.size) news) (some g) := by
        have hk := World.keptBut_setCells g (may := fun _ => True) news (off + n * i.size) w (fun _ _ => trivial)
        refine ⟨hk.1, ?_, hk.2.1, ?_, fun k hk' hne => World.heap_setCells_other w g _ news hk' (fun e => hne (by rw [e]))⟩
        · clear hk hrun hsp1 hsp2 hsp hlen
          generalize off + n * i.size = o
          have : ∀ (vs : List Value) (o : Nat) (w : World), (w.setCells g o vs).tape = w.tape := by
            intro vs
            induction vs with
            | nil => intro o w; rfl
            | cons v vs ih => intro o w; exact (ih (o + 1) _).trans rfl
          exact this news o w
        · clear hk hrun hsp1 hsp2 hsp hlen
          generalize off + n * i.size = o
          have : ∀ (vs : List Value) (o : Nat) (w : World), (w.setCells g o vs).heap.size = w.heap.size := by
            intro vs
            induction vs with
            | nil => intro o w; rfl
            | cons v vs ih => intro o w; exact (ih (o + 1) _).trans (World.size_setCell _ _ _)
          exact Nat.le_of_eq (this news o w).symm
      refine ⟨g, off, cap, _, hrun, ⟨hlen, hr, h.max, .inr ⟨g, off, rfl, hb, Nat.lt_of_lt_of_le hlt hg.size, fun j u hu => ?_, fun j hj => ?_, fun j => by rw [World.frozen?_setCells]; exact hf j⟩⟩, hg, hb, .inl ⟨_, rfl, rfl⟩, by omega⟩
      · rcases Nat.lt_or_ge j xs.length with hj | hj
        · rw [List.getElem?_append_left hj] at hu
          rw [World.cell?_setCells_out _ _ _ _ _ (fun _ _ => by left; show off + j < off + n * i.size; rw [← h.len]; omega)]
          exact hc j u hu
        · rw [List.getElem?_append_right hj] at hu
          have hjl : j - xs.length < news.length := (List.getElem?_eq_some_iff.1 hu).1
          have := World.cell?_setCells_in g news (off + n * i.size) w hsp1 (j - xs.length) hjl
          rw [show off + n * i.size + (j - xs.length) = off + j from by rw [← h.len]; omega] at this
          rw [this, ← hu, List.getElem?_eq_getElem hjl]
      · by_cases hin : n * i.size ≤ j ∧ j - n * i.size < news.length
        · have := World.cell?_setCells_in g news (off + n * i.size) w hsp1 (j - n * i.size) hin.2
          rw [show off + n * i.size + (j - n * i.size) = off + j from by omega] at this
          rw [this]; rfl
        · rw [World.cell?_setCells_out _ _ _ _ _ (fun _ _ => by
            show off + j < off + n * i.size ∨ off + n * i.size + news.length ≤ off + j
            omega)]
          exact hs j hj
  · have hcell : ∀ a, A = some a → ∀ j u, xs[j]? = some u → w.cell? (a.add j) = some u := by
      intro a ha j u hu
      rcases h.row with h0 | ⟨g, off, hA, _, _, hc, _, _⟩
      · have := (h.empty h0).2
        subst this
        simp at hu
      · rw [hA] at ha
        injection ha with ha
        subst ha
        rw [Addr.add_lit]
        exact hc j u hu
    cases A with
    | some b =>
      obtain ⟨v', w', hrun, r1, r2⟩ := run_append_arg_grows (P := P) w t ty e i z size bytes ht hi hz hsize hby hzs hsz b n cap xs h.len (hcell b rfl) ad m c news hl hnews (by omega) h63 hbytes
      exact grows v' w' r1 r2 hrun
    | none =>
      have h0 : cap = 0 := by
        rcases h.row with h0 | ⟨g, off, hA, _⟩
        · exact h0
        · cases hA
      obtain ⟨hn0, hx⟩ := h.empty h0
      subst h0 hn0 hx
      obtain ⟨v', w', hrun, r1, r2, _⟩ := run_append_own (P := P) w w.heap.size t ty e i z size bytes ht hi hz hsize hby hzs hsz (.slice none 0 0) 0 [] (World.ownsRow_nil w _ e size) ad m c news hl hnews h1 h63 hbytes (Nat.le_refl _)
      exact grows v' w' r1 r2 hrun

theorem wp_append_sl {o : Oper} {a : Act} {K : Act → World → Prop} {Q : Exit → Act → World → Prop} (s x : Operand) (t : TypeId)
    (ho : o.op = .call { callee := .builtin .append, args := #[s, x], argTypes := #[t, t] })
    (B : Nat) (e : TypeId) (i : TypeInfo) (z : Value) (size bytes : Nat) (ht : P.underlying t = some (.slice e)) (hi : P.info? e = some i) (hz : i.zero = some z)
    (hsize : i.size = size) (hby : i.bytes = bytes) (hzs : z.cells.size = size) (hsz : 0 < size)
    (A : Option Addr) (n cap : Nat) (xs : List Value) (hs : a.eval s = .slice A n cap) (h : Sl w B size A n cap xs)
    (ad : Addr) (m c : Nat) (news : List Value) (hx : a.eval x = .slice (some ad) m c) (hl : news.length = m * size) (hnews : ∀ j u, news[j]? = some u → w.cell? (ad.add j) = some u) (h1 : ∀ u ∈ news, u.oneCell' = true) (hm : 0 < m)
    (h63 : n + m ≤ maxLen) (hbytes : (n + m) * bytes ≤ 140737488355328) (hB : B ≤ w.heap.size)
    (hK : ∀ g off cap' w', Sl w' B size (some ⟨g, off, none⟩) (n + m) cap' (xs ++ news) → w.grownBy w' (some g) → B ≤ g → ((∃ a, A = some a ∧ a.block = g) ∨ w.heap.size ≤ g) → 0 < cap' → K (a.put o.dst (.slice (some ⟨g, off, none⟩) (n + m) cap')) w') : o.wp P a w K Q := by
  obtain ⟨g, off, cap', w', hrun, h2, h3, h4, h5, h6⟩ := run_append_sl (P := P) w B t o.type e i z size bytes ht hi hz hsize hby hzs hsz A n cap xs h ad m c news hl hnews h1 hm h63 hbytes hB
  unfold Oper.wp execOp
  simp only [ho, resolve, invoke, builtin, Sem.run_bind, Sem.run_pure, Result.andThen_ok, List.map_toArray, List.map_cons, List.map_nil, hs, hx, hrun]
  exact hK g off cap' w' h2 h3 h4 h5 h6
theorem wpList_append_sl {ops : Array Oper} {rest : List Oper} {o : Oper} {a : Act} {Q : Exit → Act → World → Prop} (hgd : o.guard = none) (s x : Operand) (t : TypeId)
    (ho : o.op = .call { callee := .builtin .append, args := #[s, x], argTypes := #[t, t] })
    (B : Nat) (e : TypeId) (i : TypeInfo) (z : Value) (size bytes : Nat) (ht : P.underlying t = some (.slice e)) (hi : P.info? e = some i) (hz : i.zero = some z)
    (hsize : i.size = size) (hby : i.bytes = bytes) (hzs : z.cells.size = size) (hsz : 0 < size)
    (A : Option Addr) (n cap : Nat) (xs : List Value) (hs : a.eval s = .slice A n cap) (h : Sl w B size A n cap xs)
    (ad : Addr) (m c : Nat) (news : List Value) (hx : a.eval x = .slice (some ad) m c) (hl : news.length = m * size) (hnews : ∀ j u, news[j]? = some u → w.cell? (ad.add j) = some u) (h1 : ∀ u ∈ news, u.oneCell' = true) (hm : 0 < m)
    (h63 : n + m ≤ maxLen) (hbytes : (n + m) * bytes ≤ 140737488355328) (hB : B ≤ w.heap.size)
    (hK : ∀ g off cap' w', Sl w' B size (some ⟨g, off, none⟩) (n + m) cap' (xs ++ news) → w.grownBy w' (some g) → B ≤ g → ((∃ a, A = some a ∧ a.block = g) ∨ w.heap.size ≤ g) → 0 < cap' → wpList P ops Q rest (a.put o.dst (.slice (some ⟨g, off, none⟩) (n + m) cap')) w') : wpList P ops Q (o :: rest) a w :=
  wpList_plain hgd fun _ hK' => wp_append_sl w s x t ho B e i z size bytes ht hi hz hsize hby hzs hsz A n cap xs hs h ad m c news hx hl hnews h1 hm h63 hbytes hB fun g off cap' w' r1 r2 r3 r4 r5 => hK' _ _ (hK g off cap' w' r1 r2 r3 r4 r5)
theorem step_append_sl {ops : Array Oper} {o : Oper} {a : Act} {K : Act → World → Prop} {Q : Exit → Act → World → Prop} {E : Prop} (hgd : o.guard = none) (s x : Operand) (t : TypeId)
    (ho : o.op = .call { callee := .builtin .append, args := #[s, x], argTypes := #[t, t] })
    (B : Nat) (e : TypeId) (i : TypeInfo) (z : Value) (size bytes : Nat) (ht : P.underlying t = some (.slice e)) (hi : P.info? e = some i) (hz : i.zero = some z)
    (hsize : i.size = size) (hby : i.bytes = bytes) (hzs : z.cells.size = size) (hsz : 0 < size)
    (A : Option Addr) (n cap : Nat) (xs : List Value) (hs : a.eval s = .slice A n cap) (h : Sl w B size A n cap xs)
    (ad : Addr) (m c : Nat) (news : List Value) (hx : a.eval x = .slice (some ad) m c) (hl : news.length = m * size) (hnews : ∀ j u, news[j]? = some u → w.cell? (ad.add j) = some u) (h1 : ∀ u ∈ news, u.oneCell' = true) (hm : 0 < m)
    (h63 : n + m ≤ maxLen) (hbytes : (n + m) * bytes ≤ 140737488355328) (hB : B ≤ w.heap.size)
    (hK : ∀ g off cap' w', Sl w' B size (some ⟨g, off, none⟩) (n + m) cap' (xs ++ news) → w.grownBy w' (some g) → B ≤ g → ((∃ a, A = some a ∧ a.block = g) ∨ w.heap.size ≤ g) → 0 < cap' → K (a.put o.dst (.slice (some ⟨g, off, none⟩) (n + m) cap')) w') :
    if Region.wanted o (yielded ops a.tmps) = true then Oper.wp P o a w K Q else E := by
  have hw : Region.wanted o (yielded ops a.tmps) = true := by simp [Region.wanted, hgd]
  rw [if_pos hw]
  exact wp_append_sl w s x t ho B e i z size bytes ht hi hz hsize hby hzs hsz A n cap xs hs h ad m c news hx hl hnews h1 hm h63 hbytes hB hK
end
end Go.Proofs.Ytllicaibgjjidaa.G

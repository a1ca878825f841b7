import Derived.Test.YtllicaibgjjidaaLkPure
import Derived.WalkKit
import Derived.Deep.Draws
import Derived.Maps.AppendAt
namespace Go.Proofs.Ytllicaibgjjidaa
open Go.RowKit

/-! ### frames: only one block, and what is new, has turned -/
theorem only_drewN {a w : World} {row : Option Nat} (h : a.grownBy w row) (n : Nat) : a.grownBy (w.drewN n) row := ⟨h.os, h.tape, h.output, h.size, h.block⟩
theorem only_drew {a w : World} {row : Option Nat} (h : a.grownBy w row) : a.grownBy w.drew row := ⟨h.os, h.tape, h.output, h.size, h.block⟩
theorem only_alloc {a w : World} {row : Option Nat} (h : a.grownBy w row) (o : Obj) : a.grownBy (w.alloc o) row :=
  ⟨h.os, h.tape, h.output, Nat.le_trans h.size (by simp), fun i hi hne => (Below.heap_alloc w o i (Nat.lt_of_lt_of_le hi h.size)).trans (h.block i hi hne)⟩
theorem only_setCell {a w : World} {g : Nat} (h : a.grownBy w (some g)) {p : Addr} (hp : p.block = g ∨ a.heap.size ≤ p.block) (u : Value) : a.grownBy (w.setCell p u) (some g) :=
  ⟨h.os, h.tape, h.output, by simpa [World.setCell] using h.size, fun i hi hne => (Below.heap_setCell w p u i (by
    rintro rfl
    rcases hp with hp | hp
    · exact hne (by rw [hp])
    · omega)).trans (h.block i hi hne)⟩
theorem only_setCell_new {a w : World} {row : Option Nat} (h : a.grownBy w row) {p : Addr} (hp : a.heap.size ≤ p.block) (u : Value) : a.grownBy (w.setCell p u) row :=
  ⟨h.os, h.tape, h.output, by simpa [World.setCell] using h.size, fun i hi hne => (Below.heap_setCell w p u i (by rintro rfl; omega)).trans (h.block i hi hne)⟩
theorem only_trans {a b c : World} {row row' : Option Nat} (h : a.grownBy b row) (k : b.grownBy c row') (hr : ∀ j, row' = some j → a.heap.size ≤ j ∨ row = some j) : a.grownBy c row :=
  ⟨k.os.trans h.os, k.tape.trans h.tape, k.output.trans h.output, Nat.le_trans h.size k.size, fun i hi hne => (k.block i (Nat.lt_of_lt_of_le hi h.size) (fun e => by
    rcases hr i e.symm with h1 | h1
    · omega
    · exact hne h1.symm)).trans (h.block i hi hne)⟩
theorem only_below {a w : World} (h : a.grownBy w none) : Below a.heap.size a w := ⟨h.os, h.tape, h.output, h.size, fun k hk => h.block k hk (by simp)⟩
theorem only_below_at {a w : World} {g B : Nat} (h : a.grownBy w (some g)) (hB : B ≤ g) (hs : B ≤ a.heap.size) : Below B a w := ⟨h.os, h.tape, h.output, h.size, fun k hk => h.block k (by omega) (by intro e; injection e with e; omega)⟩

/-! ### the links' block -/
/-- Block b holds the 192 numbers f. -/
structure Lnk (w : World) (b : Nat) (f : Nat → Int) : Prop where
  cell : ∀ i, i < 192 → w.cell? ⟨b, i, none⟩ = some (.int .i64 (f i))
  free : ∀ i, w.frozen? ⟨b, i, none⟩ = false

theorem Lnk.lt {w : World} {b : Nat} {f : Nat → Int} (h : Lnk w b f) : b < w.heap.size := World.block_lt_of_cell? w _ (h.cell 0 (by decide))
theorem Lnk.drew {w : World} {b : Nat} {f : Nat → Int} (h : Lnk w b f) : Lnk w.drew b f := ⟨h.cell, h.free⟩
theorem Lnk.drewN {w : World} {b : Nat} {f : Nat → Int} (h : Lnk w b f) (n : Nat) : Lnk (w.drewN n) b f := ⟨h.cell, h.free⟩
theorem Lnk.grown {w w' : World} {b : Nat} {f : Nat → Int} {row : Option Nat} (h : Lnk w b f) (hg : w.grownBy w' row) (hr : some b ≠ row) : Lnk w' b f :=
  ⟨fun i hi => (World.cell?_of_block (a := ⟨b, i, none⟩) (hg.block b h.lt hr)).trans (h.cell i hi), fun i => (World.frozen?_of_block (a := ⟨b, i, none⟩) (hg.block b h.lt hr)).trans (h.free i)⟩
theorem Lnk.alloc {w : World} {b : Nat} {f : Nat → Int} (h : Lnk w b f) (o : Obj) : Lnk (w.alloc o) b f := h.grown (World.grownBy_alloc w o none) (by simp)
theorem Lnk.far {w : World} {b : Nat} {f : Nat → Int} (h : Lnk w b f) {p : Addr} (hp : b ≠ p.block) (u : Value) : Lnk (w.setCell p u) b f :=
  h.grown (row := some p.block) (only_setCell (World.grownBy.refl w _) (.inl rfl) u) (fun e => hp (by injection e))
theorem Lnk.set {w : World} {b : Nat} {f : Nat → Int} (h : Lnk w b f) {i : Nat} (hi : i < 192) (v : Int) : Lnk (w.setCell ⟨b, i, none⟩ (.int .i64 v)) b (Lk.upd f i v) := by
  refine ⟨fun j hj => ?_, fun j => by rw [World.frozen?_setCell]; exact h.free j⟩
  unfold Lk.upd
  split
  · subst_vars; exact World.cell?_setCell_same w _ _ (h.cell j hj)
  · rename_i hne
    rw [World.cell?_setCell_other]
    · exact h.cell j hj
    · intro e; injection e with _ e; exact hne e.symm
theorem Lnk.new (w : World) (t : TypeId) (c : Array Value) (f : Nat → Int) (h : ∀ i, i < 192 → c[i]? = some (.int .i64 (f i))) : Lnk (w.alloc (.cells c t)) w.heap.size f :=
  ⟨fun i hi => by rw [World.cell?_alloc_new]; exact h i hi, fun i => World.frozen?_alloc_new w c t i⟩
end Go.Proofs.Ytllicaibgjjidaa

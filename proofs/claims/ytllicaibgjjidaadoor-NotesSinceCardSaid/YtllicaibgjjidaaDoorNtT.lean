import Derived.Test.YtllicaibgjjidaaDoorNtL
import Derived.Test.YtllicaibgjjidaaDoorNtR
import Derived.Test.YtllicaibgjjidaaDoorNtS
import Derived.Test.YtllicaibgjjidaaDoorNtTab
import Derived.Test.YtllicaibgjjidaaDoorTie
import Derived.Test.YtllicaibgjjidaaDoorCards
namespace Go.Proofs.YtllicaibgjjidaaDoor
open Go.RowKit

/-- The list and the reference's list, side by side. -/
structure Two (wb wr : World) (B b1 b2 : Nat) (A1 : Option Addr) (c1 : Nat) (A2 : Option Addr) (c2 : Nat) (xs ys : List Nt) : Prop where
  p : Own Nt.P wb wr B b1 A1 c1 xs
  r : Own Nt.R wb wr B b2 A2 c2 ys
  ne : b1 ≠ b2
  dis : ∀ k, blk A1 k → ¬ blk A2 k
section
variable {wb wr w' : World} {B b1 b2 c1 c2 : Nat} {A1 A2 : Option Addr} {xs ys zs : List Nt}
theorem Two.new_ (h : Two wb wr B b1 b2 A1 c1 A2 c2 xs ys) (hf : Frm wr w' fun _ => False) : Two wb w' B b1 b2 A1 c1 A2 c2 xs ys := ⟨h.p.new_ hf, h.r.new_ hf, h.ne, h.dis⟩
theorem Lst.frm {c : Nt → List Value} {w w' : World} {B b cap : Nat} {A : Option Addr} {xs : List Nt} {S : Nat → Prop} (h : Lst c w B b A cap xs) (hf : Frm w w' S) (hb : ¬ S b) (hs : ∀ k, blk A k → ¬ S k) : Lst c w' B b A cap xs :=
  ⟨hf.cell h.head hb, (hf.frozen (p := ⟨b, 0, none⟩) (World.block_lt_of_cell? w _ h.head) hb).trans h.free, h.lt, h.sl.frm hf hs⟩
theorem Two.addP (h : Two wb wr B b1 b2 A1 c1 A2 c2 xs ys) (ha : Added Nt.P wr w' B b1 A1 zs) : ∃ A1' c1', Two wb w' B b1 b2 A1' c1' A2 c2 zs ys := by
  have ha' := ha
  obtain ⟨A', cap', hl, hf, hw⟩ := ha
  have k1 := h.p.lst.lt
  have k2 := h.r.lst.lt
  have hp : Own Nt.P wb w' B b1 A' cap' zs := by
    refine ⟨hl, h.p.frm.trans hf fun k hk hS => ?_, h.p.hb, h.p.hB, Nat.le_trans h.p.le hf.size⟩
    have := h.p.hb
    have := h.p.hB
    rcases hS with rfl | hS
    · omega
    · have := (h.p.lst.sl.ge hS).1; omega
  refine ⟨A', cap', hp, ⟨h.r.lst.frm hf ?_ fun k hk hS => ?_, hp.frm, h.r.hb, h.r.hB, hp.le⟩, h.ne, fun k hk hk2 => ?_⟩
  · rintro (e | hS)
    · exact h.ne e.symm
    · have := (h.p.lst.sl.ge hS).1; omega
  · have := (h.r.lst.sl.ge hk).1
    rcases hS with rfl | hS
    · omega
    · exact h.dis k hS hk
  · rcases hw k hk with h1 | h1
    · exact h.dis k h1 hk2
    · have := (h.r.lst.sl.ge hk2).2; omega
theorem Two.addR (h : Two wb wr B b1 b2 A1 c1 A2 c2 xs ys) (ha : Added Nt.R wr w' B b2 A2 zs) : ∃ A2' c2', Two wb w' B b1 b2 A1 c1 A2' c2' xs zs := by
  obtain ⟨A', cap', hl, hf, hw⟩ := ha
  have k1 := h.p.lst.lt
  have k2 := h.r.lst.lt
  have hp : Own Nt.R wb w' B b2 A' cap' zs := by
    refine ⟨hl, h.r.frm.trans hf fun k hk hS => ?_, h.r.hb, h.r.hB, Nat.le_trans h.r.le hf.size⟩
    have := h.r.hb
    have := h.r.hB
    rcases hS with rfl | hS
    · omega
    · have := (h.r.lst.sl.ge hS).1; omega
  refine ⟨A', cap', ⟨h.p.lst.frm hf ?_ fun k hk hS => ?_, hp.frm, h.p.hb, h.p.hB, hp.le⟩, hp, h.ne, fun k hk hk2 => ?_⟩
  · rintro (e | hS)
    · exact h.ne e
    · have := (h.r.lst.sl.ge hS).1; omega
  · have := (h.p.lst.sl.ge hk).1
    rcases hS with rfl | hS
    · omega
    · exact h.dis k hk hS
  · rcases hw k hk2 with h1 | h1
    · exact h.dis k hk h1
    · have := (h.p.lst.sl.ge hk).2; omega
theorem Two.first (w : World) : Two w ((w.alloc (.cells #[.slice none 0 0] 54)).alloc (.cells #[.slice none 0 0] 40)) (w.heap.size + 2) w.heap.size (w.heap.size + 1) none 0 none 0 [] [] := by
  have f1 : Frm w (w.alloc (.cells #[.slice none 0 0] 54)) fun _ => False := by (repeat (first | exact Frm.refl _ _ | apply Frm.drew | apply Frm.drewN | apply Frm.alloc))
  have f2 : Frm (w.alloc (.cells #[.slice none 0 0] 54)) ((w.alloc (.cells #[.slice none 0 0] 54)).alloc (.cells #[.slice none 0 0] 40)) fun _ => False := by (repeat (first | exact Frm.refl _ _ | apply Frm.drew | apply Frm.drewN | apply Frm.alloc))
  refine ⟨⟨⟨?_, ?_, by omega, Sl.nil _ _ _⟩, f1.then_ f2, Nat.le_refl _, by omega, by simp⟩, ⟨⟨?_, ?_, by omega, Sl.nil _ _ _⟩, f1.then_ f2, by omega, by omega, by simp⟩, by omega, fun k h => (blk_none _ h).elim⟩
  · exact f2.cell (by rw [World.cell?_alloc_new]; rfl) id
  · exact (f2.frozen (p := ⟨w.heap.size, 0, none⟩) (by simp) id).trans (World.frozen?_alloc_new w _ 54 0)
  · have := World.cell?_alloc_new (w.alloc (.cells #[.slice none 0 0] 54)) #[.slice none 0 0] 40 0
    rw [World.size_alloc] at this
    exact this
  · have := World.frozen?_alloc_new (w.alloc (.cells #[.slice none 0 0] 54)) #[.slice none 0 0] 40 0
    rw [World.size_alloc] at this
    exact this
end
theorem boxP_get (w : World) (n : Nt) : ∀ j u, n.P[j]? = some u → (w.alloc (boxP n)).cell? ⟨w.heap.size, j, none⟩ = some u := by
  intro j u hu
  rw [World.cell?_alloc_new]
  rcases j with _ | _ | _ | _ | _ | _ | _ | j <;> simp [Nt.P] at hu ⊢ <;> exact hu
/-- The seven cells of a note at an address. -/
theorem cells7 {w w' : World} {n : Nt} {g o : Nat} (hf : Frm w w' fun _ => False) (h : ∀ j u, n.P[j]? = some u → w.cell? ⟨g, o + j, none⟩ = some u) :
    w'.cell? ⟨g, o, none⟩ = some (.int .i64 n.s) ∧ w'.cell? ⟨g, o + 1, none⟩ = some (.int .i64 n.t) ∧ w'.cell? ⟨g, o + 2, none⟩ = some (.int .u8 n.k) ∧ w'.cell? ⟨g, o + 3, none⟩ = some (.int .u32 n.a) ∧ w'.cell? ⟨g, o + 4, none⟩ = some (.int .i64 n.o) ∧ w'.cell? ⟨g, o + 5, none⟩ = some (.int .u32 n.p) ∧ w'.cell? ⟨g, o + 6, none⟩ = some (.int .u64 n.v) :=
  ⟨hf.cell (h 0 _ rfl) id, hf.cell (h 1 _ rfl) id, hf.cell (h 2 _ rfl) id, hf.cell (h 3 _ rfl) id, hf.cell (h 4 _ rfl) id, hf.cell (h 5 _ rfl) id, hf.cell (h 6 _ rfl) id⟩
end Go.Proofs.YtllicaibgjjidaaDoor

import Derived.Test.YtllicaibgjjidaaDoorNtC
import Derived.Test.YtllicaibgjjidaaDoorGrw
import Derived.Deep.RegionWith
namespace Go.Proofs.YtllicaibgjjidaaDoor
open Go.RowKit

/-- A list of the call's own: nothing of w's has turned. -/
structure Own (c : Nt → List Value) (w wr : World) (B b : Nat) (A : Option Addr) (cap : Nat) (xs : List Nt) : Prop where
  lst : Lst c wr B b A cap xs
  frm : Frm w wr fun _ => False
  hb : w.heap.size ≤ b
  hB : w.heap.size ≤ B
  le : B ≤ wr.heap.size
theorem Lst.new_ {c : Nt → List Value} {w w' : World} {B b cap : Nat} {A : Option Addr} {xs : List Nt} (h : Lst c w B b A cap xs) (hf : Frm w w' fun _ => False) : Lst c w' B b A cap xs :=
  ⟨hf.cell h.head id, (hf.frozen (p := ⟨b, 0, none⟩) (World.block_lt_of_cell? w _ h.head) id).trans h.free, h.lt, h.sl.new_ hf⟩
theorem Own.new_ {c : Nt → List Value} {w wr w' : World} {B b cap : Nat} {A : Option Addr} {xs : List Nt} (h : Own c w wr B b A cap xs) (hf : Frm wr w' fun _ => False) : Own c w w' B b A cap xs :=
  ⟨h.lst.new_ hf, h.frm.then_ hf, h.hb, h.hB, Nat.le_trans h.le hf.size⟩
theorem Own.added {c : Nt → List Value} {w wr w' : World} {B b cap : Nat} {A : Option Addr} {xs ys : List Nt} (h : Own c w wr B b A cap xs) (ha : Added c wr w' B b A ys) : ∃ A' cap', Own c w w' B b A' cap' ys := by
  obtain ⟨A', cap', hl, hf, _⟩ := ha
  refine ⟨A', cap', hl, h.frm.trans hf fun k hk hS => ?_, h.hb, h.hB, Nat.le_trans h.le hf.size⟩
  have := h.hb
  have := h.hB
  rcases hS with rfl | hS
  · omega
  · have := (h.lst.sl.ge hS).1; omega
theorem Lst.first (c : Nt → List Value) (w : World) (t : TypeId) : Lst c (w.alloc (.cells #[.slice none 0 0] t)) (w.heap.size + 1) w.heap.size none 0 [] :=
  ⟨by rw [World.cell?_alloc_new]; rfl, World.frozen?_alloc_new w _ t 0, by omega, Sl.nil _ _ _⟩
theorem Own.first (c : Nt → List Value) (w : World) (t : TypeId) : Own c w (w.alloc (.cells #[.slice none 0 0] t)) (w.heap.size + 1) w.heap.size none 0 [] :=
  ⟨Lst.first c w t, by (repeat (first | exact Frm.refl _ _ | apply Frm.drew | apply Frm.drewN | apply Frm.alloc)), Nat.le_refl _, by omega, by simp⟩
abbrev l1 : Nt := ⟨3, 0, 1, 0, 0, 0, 0⟩
abbrev l2 : Nt := ⟨2, 0, 1, 0, 0, 0, 0⟩
abbrev l3 : Nt := ⟨3, 0, 6, 0, 0, 0, 0⟩
theorem few0 : Few 0 := ⟨by decide⟩
theorem few1 : Few 1 := ⟨by decide⟩

set_option maxHeartbeats 1000000 in
theorem lives_any (w : World) (hT : Tab w) : Calls Tryd.prog 11 #[] w fun e w' => e = .returned (.bool true) ∧ Frm w w' fun _ => False := by
  have n37 : nmI 37 = ⟨#[115, 105, 99, 107]⟩ := by rfl
  have n6 : nmI 6 = ⟨#[]⟩ := by rfl
  have O0 := Lib.hid (Own.first Nt.P w 54)
  have HT := Lib.hid hT
  clear hT
  go_enter Tryd.func11, Tryd.ntmps11
  have e1 : addE [] l1 = 0 := by decide
  have e2 : addE [l1] l2 = 1 := by decide
  have e3 : addE [l1] l3 = 1 := by decide
  have L1 : addL [] l1 = [l1] := by rfl
  have L2 : addL [l1] l2 = [l1] := by rfl
  have L3 : addL [l1] l3 = [l1] := by rfl
  go_wp2_with (go_at_call 8; refine (new_any w).mono ?_; rintro e w' ⟨rfl, rfl⟩)
  refine (add_any _ _ _ _ [] l1 (by decide) (by decide) _ (HT.out.frm O0.out.frm id) O0.out.lst O0.out.le few0).mono ?_
  rw [e1, L1]
  rintro e w1 ⟨rfl, ha⟩
  obtain ⟨A1, c1, O1⟩ := O0.out.added ha
  replace O1 := Lib.hid O1
  clear ha O0 L1 e1
  go_wp2_with fail
  refine (add_any _ _ _ _ [l1] l2 (by decide) (by decide) _ (HT.out.frm O1.out.frm id) O1.out.lst O1.out.le few1).mono ?_
  rw [e2, L2]
  rintro e w2 ⟨rfl, ha⟩
  obtain ⟨A2, c2, O2⟩ := O1.out.added ha
  replace O2 := Lib.hid O2
  clear ha O1 L2 e2
  go_wp2_with fail
  refine (add_any _ _ _ _ [l1] l3 (by decide) (by decide) _ (HT.out.frm O2.out.frm id) O2.out.lst O2.out.le few1).mono ?_
  rw [e3, L3]
  rintro e w3 ⟨rfl, ha⟩
  obtain ⟨A3, c3, O3⟩ := O2.out.added ha
  replace O3 := Lib.hid O3
  clear ha O2 L3 e3
  have HT3 := Lib.hid (HT.out.frm O3.out.frm id)
  have hd := Lib.hid O3.out.lst.head
  clear HT
  go_wp2_with (first
    | (go_at_call 14; refine (count_any w.heap.size 1 c3 A3 _ hd.out).mono ?_; rintro e w' ⟨rfl, rfl⟩)
    | (go_at_call_of 7 (Value.int IntKind.u8 37); refine (name_any 37 (by decide) (by decide) _ HT3.out).mono ?_; rintro e w' ⟨rfl, rfl⟩; rw [n37])
    | (go_at_call_of 7 (Value.int IntKind.u8 6); refine (name_any 6 (by decide) (by decide) _ HT3.out).mono ?_; rintro e w' ⟨rfl, rfl⟩; rw [n6]))
  go_ret
  exact ⟨rfl, O3.out.frm⟩
end Go.Proofs.YtllicaibgjjidaaDoor

import Derived.Test.YtajcijocjbakbaaTbV
import Derived.Test.YtajcijocjbakbaaTbT
namespace Go.Proofs.Ytajcijocjbakbaa
open Go.ChangeShapes Go.WideShapes Go.ChangeAt Go.RowKit Go.Deep

theorem okWide_array {P : Program} {w : World} {r : Reach} {base : Nat} {t : TypeId} {v : Value} {n : Nat} {e : TypeId} (ht : P.underlying t = some (.array n e)) (h : Value.okWide P w r base t v) : ∃ cs, v = .agg cs ∧ cs.size = P.cellsOf t := by
  simp only [Value.okWide, ht] at h
  obtain ⟨cs, h1, h2, _⟩ := h
  exact ⟨cs, h1, h2⟩
set_option maxRecDepth 100000 in
/-- An argument of four bytes. -/
theorem open_arr4 {H : Type} {enc : TypeId × Value → H} {W : World} {base : Nat} {v : Value} {d : DataW H} {p : List MemPlace} {spare : Nat → Bool} {held : Bool}
    (hv : Value.okWide Try.prog W .any base 67 v) (h : DataW.Trod enc Try.prog W 0 spare held 67 v d p) :
    ∃ a b c e : Nat, v = .agg #[.int .u8 a, .int .u8 b, .int .u8 c, .int .u8 e] ∧ (a : Int) ≤ 255 ∧ (b : Int) ≤ 255 ∧ (c : Int) ≤ 255 ∧ (e : Int) ≤ 255 := by
  obtain ⟨cs, rfl, _⟩ := okWide_array Try.underlying67 hv
  obtain ⟨fuel, hf⟩ := h
  obtain ⟨xs, m, _, _, hlen, hxl, hel⟩ := DataW.trod_array Try.underlying67 hf
  obtain ⟨x0, x1, x2, x3, hcs⟩ := list4 (hlen.trans (by kernel_rfl))
  have c5 : Try.prog.cellsOf 5 = 1 := by kernel_rfl
  have get : ∀ i, i < 4 → ∃ y, xs[i]? = some y := fun i hi => ⟨xs[i]'(by rw [hxl]; exact hi), List.getElem?_eq_getElem _⟩
  obtain ⟨y0, g0⟩ := get 0 (by decide)
  obtain ⟨y1, g1⟩ := get 1 (by decide)
  obtain ⟨y2, g2⟩ := get 2 (by decide)
  obtain ⟨y3, g3⟩ := get 3 (by decide)
  have h0 := hel 0 (by decide)
  have h1 := hel 1 (by decide)
  have h2 := hel 2 (by decide)
  have h3 := hel 3 (by decide)
  rw [hcs] at h0 h1 h2 h3
  simp [g0, g1, g2, g3, c5] at h0 h1 h2 h3
  obtain ⟨a, e0, _, w0⟩ := DataW.trod_int Try.underlying5 h0
  obtain ⟨b, e1, _, w1⟩ := DataW.trod_int Try.underlying5 h1
  obtain ⟨c, e2, _, w2⟩ := DataW.trod_int Try.underlying5 h2
  obtain ⟨e, e3, _, w3⟩ := DataW.trod_int Try.underlying5 h3
  simp at e0 e1 e2 e3
  subst e0 e1 e2 e3
  have b0 := bounds_u8 w0
  have b1 := bounds_u8 w1
  have b2 := bounds_u8 w2
  have b3 := bounds_u8 w3
  obtain ⟨a, rfl⟩ := Int.eq_ofNat_of_zero_le b0.1
  obtain ⟨b, rfl⟩ := Int.eq_ofNat_of_zero_le b1.1
  obtain ⟨c, rfl⟩ := Int.eq_ofNat_of_zero_le b2.1
  obtain ⟨e, rfl⟩ := Int.eq_ofNat_of_zero_le b3.1
  refine ⟨a, b, c, e, ?_, b0.2, b1.2, b2.2, b3.2⟩
  have hcs' : cs.toList = _ := hcs
  rw [← Array.toArray_toList (xs := cs), hcs']
theorem apart_all (z0 z1 z2 z3 : Nat) (b0 : (z0 : Int) ≤ 255) (b1 : (z1 : Int) ≤ 255) (b2 : (z2 : Int) ≤ 255) (b3 : (z3 : Int) ≤ 255) (A : Option Addr) (n c : Nat) (xs : List En) (ta tf : Int) (w : World) (hr : Rd w w.heap.size 3 A n (ens xs)) (hX : A = none → c = 0) (hnc : n ≤ c) (hok : ∀ x ∈ xs, EnOk x) (hbA : ∀ j, blk A j → j < w.heap.size) :
    Calls Try.prog 6 #[.agg #[.int .u8 z0, .int .u8 z1, .int .u8 z2, .int .u8 z3], .slice A n c, tmV ta tf] w fun e w' => e = .returned (.bool true) ∧ Frm w w' fun _ => False := by
  by_cases hn : n ≤ 60
  · exact apart_any z0 z1 z2 z3 b0 b1 b2 b3 A n c xs ta tf w hr hX hnc hok hbA hn
  · exact apart_long z0 z1 z2 z3 A n c ta tf w (by omega)
end Go.Proofs.Ytajcijocjbakbaa

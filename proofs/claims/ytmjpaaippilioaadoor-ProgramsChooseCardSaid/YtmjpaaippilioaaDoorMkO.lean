import Derived.Test.YtmjpaaippilioaaDoorMkT
namespace Go.Proofs.YtmjpaaippilioaaDoor
open Go.ChangeShapes Go.WideShapes Go.ChangeAt Go.RowKit
set_option maxRecDepth 100000 in
/-- An argument of 64 bits. -/
theorem open_u64 {H : Type} {enc : TypeId × Value → H} {W : World} {base : Nat} {v : Value} {d : DataW H} {p : List MemPlace} {spare : Nat → Bool} {held : Bool}
    (hv : Value.okWide Tryd.prog W .any base 24 v) (h : DataW.Trod enc Tryd.prog W 0 spare held 24 v d p) :
    ∃ n : Nat, v = .int .u64 n ∧ d = .lit (.int .u64 n) ∧ p = [] ∧ (n : Int) ≤ 18446744073709551615 := by
  obtain ⟨b, rfl, rfl, rfl, wb⟩ := open_int Tryd.underlying24 hv h
  have := bounds_u64 wb
  obtain ⟨n, rfl⟩ := Int.eq_ofNat_of_zero_le this.1
  exact ⟨n, rfl, rfl, rfl, this.2⟩
theorem list3 {cs : List Value} (h : cs.length = 3) : ∃ a b c, cs = [a, b, c] := by
  match cs, h with
  | [a, b, c], _ => exact ⟨a, b, c, rfl⟩
set_option maxRecDepth 100000 in
/-- An argument that is a lock's word. -/
theorem open_word {H : Type} {enc : TypeId × Value → H} {W : World} {base : Nat} {v : Value} {d : DataW H} {p : List MemPlace} {spare : Nat → Bool} {held : Bool}
    (hv : Value.okWide Tryd.prog W .any base 23 v) (h : DataW.Trod enc Tryd.prog W 0 spare held 23 v d p) :
    ∃ (l q : Bool) (n : Int), v = .agg #[.bool l, .bool q, .int .i64 n] ∧ (Lit.int .i64 n).wf = true := by
  obtain ⟨cs, rfl, _⟩ := okWide_struct Tryd.underlying23 hv
  obtain ⟨fuel, hf⟩ := h
  obtain ⟨xs, k, _, _, hlen, hxl, hf⟩ := DataW.trod_struct Tryd.underlying23 hf
  obtain ⟨a, b, c, hcs⟩ := list3 (hlen.trans (by kernel_rfl))
  have hcs' : cs = #[a, b, c] := by
    have : cs.toList = [a, b, c] := hcs
    rw [← Array.toArray_toList (xs := cs), this]
  subst hcs'
  have get : ∀ i, i < 3 → ∃ y, xs[i]? = some y := fun i hi => ⟨xs[i]'(by rw [hxl]; exact hi), List.getElem?_eq_getElem _⟩
  obtain ⟨y0, g0⟩ := get 0 (by decide)
  obtain ⟨y1, g1⟩ := get 1 (by decide)
  obtain ⟨y2, g2⟩ := get 2 (by decide)
  have c3 : Tryd.prog.cellsOf 3 = 1 := by kernel_rfl
  have c4 : Tryd.prog.cellsOf 4 = 1 := by kernel_rfl
  have h0 := hf 0 _ rfl
  have h1 := hf 1 _ rfl
  have h2 := hf 2 _ rfl
  simp [g0, g1, g2, c3, c4, Value.cells] at h0 h1 h2
  obtain ⟨x, e0, _⟩ := DataW.trod_bool Tryd.underlying4 h0
  obtain ⟨y, e1, _⟩ := DataW.trod_bool Tryd.underlying4 h1
  obtain ⟨z, e2, _, w2⟩ := DataW.trod_int Tryd.underlying3 h2
  simp at e0 e1 e2
  subst e0 e1 e2
  exact ⟨x, y, z, rfl, w2⟩
end Go.Proofs.YtmjpaaippilioaaDoor

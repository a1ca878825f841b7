import Derived.Test.YtaenclbbiodhfaaLnO
namespace Go.Proofs.Ytaenclbbiodhfaa
open Go.ChangeShapes Go.WideShapes Go.ChangeAt Go.RowKit Go.Deep

theorem cellT56 : Try.prog.cellTypes Try.prog.depth 56 = some [3, 25, 24] := by kernel_rfl
set_option maxRecDepth 100000 in
theorem asked_ok {W : World} {base : Nat} {a b c : Value} (hv : Value.okWide Try.prog W .any base 56 (.agg #[a, b, c])) : Cell.okWide Try.prog W .any base 25 b := by
  simp only [Value.okWide, Try.underlying56] at hv
  obtain ⟨cs, h1, _, ts, e, _, hc⟩ := hv
  injection h1 with h1
  subst h1
  rw [cellT56] at e
  injection e with e
  subst e
  obtain ⟨u, hu, hk⟩ := hc 1 b rfl
  have : u = 25 := by simpa using hu.symm
  subst this
  exact hk
set_option maxRecDepth 100000 in
/-- An argument that says what was asked. -/
theorem open_asked {H : Type} {enc : TypeId × Value → H} {W : World} {base : Nat} {v : Value} {d : DataW H} {p : List MemPlace} {spare : Nat → Bool} {held : Bool}
    (hv : Value.okWide Try.prog W .any base 56 v) (h : DataW.Trod enc Try.prog W 0 spare held 56 v d p) :
    ∃ (most : Int) (X : Option Addr) (m cx : Nat) (ch : List Nat) (dst : Int), v = .agg #[.int .i64 most, .slice X m cx, .int .u32 dst] ∧ most ≤ 9223372036854775807 ∧ m ≤ cx ∧ cx ≤ maxLen ∧ Rd W W.heap.size 1 X m (bz ch) ∧ (∀ c ∈ ch, c ≤ 255) ∧ ∀ j, blk X j → j < W.heap.size := by
  obtain ⟨cs, rfl, _⟩ := okWide_struct Try.underlying56 hv
  obtain ⟨fuel, hf⟩ := h
  obtain ⟨xs, k, _, _, hlen, hxl, hf⟩ := DataW.trod_struct Try.underlying56 hf
  obtain ⟨a, b, c, hcs⟩ := list3 (hlen.trans (by kernel_rfl))
  have hcs' : cs = #[a, b, c] := by
    have : cs.toList = [a, b, c] := hcs
    rw [← Array.toArray_toList (xs := cs), this]
  subst hcs'
  have get : ∀ i, i < 3 → ∃ y, xs[i]? = some y := fun i hi => ⟨xs[i]'(by rw [hxl]; exact hi), List.getElem?_eq_getElem _⟩
  obtain ⟨y0, g0⟩ := get 0 (by decide)
  obtain ⟨⟨d1, p1⟩, g1⟩ := get 1 (by decide)
  obtain ⟨y2, g2⟩ := get 2 (by decide)
  have c3 : Try.prog.cellsOf 3 = 1 := by kernel_rfl
  have c25 : Try.prog.cellsOf 25 = 1 := by kernel_rfl
  have c24 : Try.prog.cellsOf 24 = 1 := by kernel_rfl
  have h0 := hf 0 _ rfl
  have h1 := hf 1 _ rfl
  have h2 := hf 2 _ rfl
  simp [g0, g1, g2, c3, c25, c24, Value.cells] at h0 h1 h2
  obtain ⟨x, e0, _, w0⟩ := DataW.trod_int Try.underlying3 h0
  obtain ⟨z, e2, _, _⟩ := DataW.trod_int Try.underlying24 h2
  simp at e0 e2
  subst e0 e2
  have hb : Value.okWide Try.prog W .any base 25 b := by
    have := asked_ok hv
    simp only [Value.okWide, Try.underlying25]
    exact this
  have hbs : ∃ A n c, b = .slice A n c := by
    rcases DataW.trod_slice Try.underlying25 h1 with ⟨hcs, _⟩ | ⟨_, _, _, _, _, _, _, hcs, _⟩
    · simp at hcs; exact ⟨_, _, _, hcs⟩
    · simp at hcs; exact ⟨_, _, _, hcs⟩
  obtain ⟨A, n, c, rfl⟩ := hbs
  obtain ⟨X, m, cx, ch, e, hl, hm, _, hr, hu, hX⟩ := open_bytes hb ⟨_, h1⟩
  injection e with e1 e2 e3
  subst e1 e2 e3
  have bx := bounds_i64 w0
  exact ⟨x, A, n, c, ch, z, rfl, by omega, hl, hm, hr, hu, hX⟩
end Go.Proofs.Ytaenclbbiodhfaa

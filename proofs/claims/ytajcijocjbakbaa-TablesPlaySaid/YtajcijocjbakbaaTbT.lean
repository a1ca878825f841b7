import Derived.Test.YtajcijocjbakbaaRhC
import Derived.Test.YtajcijocjbakbaaOpr
import Derived.Test.YtajcijocjbakbaaRows
import Derived.OpenShut
import Derived.ProofKit
namespace Go.Proofs.Ytajcijocjbakbaa
open Go.ChangeShapes Go.WideShapes Go.ChangeAt Go.RowKit Go.Deep

/-- A slice that stands in a cell: its elements, each read by 'key'. -/
theorem rows_cs {α : Type} {H : Type} {enc : TypeId × Value → H} {P : Program} {W : World} {t e : TypeId} {fuel : Nat} {cs : List Value} {y : DataW H × List MemPlace} {spare : Nat → Bool} {held : Bool}
    (V : α → List Value) (Ok : α → Prop) (m : Nat) (hV : ∀ x, (V x).length = m) (hm0 : 0 < m) (key : ∀ (n : Nat) (cs : List Value) (y : DataW H × List MemPlace), DataW.trod enc P W 0 spare held n e cs = some y → ∃ x, cs = V x ∧ Ok x)
    (ht : P.underlying t = some (.slice e)) (hc : P.cellsOf e = m) (hf : DataW.trod enc P W 0 spare held fuel t cs = some y) :
    ∃ (A : Option Addr) (len cap : Nat) (xs : List α), cs = [.slice A len cap] ∧ len ≤ cap ∧ cap ≤ maxLen ∧ (A = none → cap = 0) ∧ xs.length = len ∧ Rd W W.heap.size m A len (xs.flatMap V) ∧ ∀ x ∈ xs, Ok x := by
  rcases open_slice ht hf with ⟨rfl, _⟩ | ⟨a, len0, cap0, k, n, D, Pl, rfl, _, hl, hm, hmm, _, hi⟩
  · exact ⟨none, 0, 0, [], rfl, Nat.le_refl _, by unfold maxLen; omega, fun _ => rfl, rfl, Rd.nil _ _ _ _, fun _ h => by cases h⟩
  · have hlk : len0 ≤ k := by rw [hmm]; split <;> omega
    have each : ∀ i : Fin len0, ∃ x, (∀ j, j < m → W.cell? (a.add (i.1 * m + j)) = (V x)[j]?) ∧ Ok x := by
      intro i
      obtain ⟨cs', hcell, htr⟩ := hi i.1 (by omega)
      obtain ⟨x, rfl, hok⟩ := key n cs' _ htr
      rw [hc] at hcell
      obtain ⟨_, _, hat⟩ := World.cells?_some hcell
      exact ⟨x, fun j hj => by rw [← Go.Deep.add_add]; exact hat j hj, hok⟩
    refine ⟨some a, len0, cap0, List.ofFn fun i => Classical.choose (each i), rfl, hl, hm, (fun h => by cases h), by simp, ?_, ?_⟩
    · by_cases h0 : len0 = 0
      · subst h0; simpa using Rd.nil _ _ _ _
      · obtain ⟨x0, hx0, _⟩ := each ⟨0, by omega⟩
        have c0 := hx0 0 hm0
        simp only [Nat.zero_mul, Nat.add_zero, Addr.add_zero'] at c0
        rw [List.getElem?_eq_getElem (by rw [hV]; exact hm0)] at c0
        have hspot : a.add 0 = ⟨a.block, a.off + 0, none⟩ := add_cell (by rw [Addr.add_zero']; exact c0)
        have ha : a = ⟨a.block, a.off, none⟩ := by simpa only [Addr.add_zero', Nat.add_zero] using hspot
        have hab : a.block < W.heap.size := World.block_lt_of_cell? W _ c0
        have hr := Rd.of_rows (c := V) (m := m) hV hm0 (w := W) (g := a.block) (off := a.off) (xs := List.ofFn fun i => Classical.choose (each i)) hab (fun i hi j hj => by
          have hil : i < len0 := by simpa using hi
          have hsp := (Classical.choose_spec (each ⟨i, hil⟩)).1 j hj
          have hu : (V (Classical.choose (each ⟨i, hil⟩)))[j]? = some ((V (Classical.choose (each ⟨i, hil⟩)))[j]'(by rw [hV]; exact hj)) := List.getElem?_eq_getElem _
          rw [hu] at hsp
          rw [add_cell hsp] at hsp
          rw [Nat.add_assoc, hsp]
          simp)
        rw [List.length_ofFn] at hr
        rw [congrArg some ha]; exact hr
    · intro x hx
      obtain ⟨i, hi, rfl⟩ := List.getElem_of_mem hx
      simp only [List.getElem_ofFn]
      exact (Classical.choose_spec (each ⟨i, by simpa using hi⟩)).2
theorem list3 {cs : List Value} (h : cs.length = 3) : ∃ a b c, cs = [a, b, c] := by
  match cs, h with
  | [a, b, c], _ => exact ⟨a, b, c, rfl⟩
theorem list2 {cs : List Value} (h : cs.length = 2) : ∃ a b, cs = [a, b] := by
  match cs, h with
  | [a, b], _ => exact ⟨a, b, rfl⟩
theorem list4 {cs : List Value} (h : cs.length = 4) : ∃ a b c d, cs = [a, b, c, d] := by
  match cs, h with
  | [a, b, c, d], _ => exact ⟨a, b, c, d, rfl⟩
theorem list8 {cs : List Value} (h : cs.length = 8) : ∃ a b c d e f g i, cs = [a, b, c, d, e, f, g, i] := by
  match cs, h with
  | [a, b, c, d, e, f, g, i], _ => exact ⟨a, b, c, d, e, f, g, i, rfl⟩
theorem cT3 : Try.prog.cellsOf 3 = 1 := by kernel_rfl
theorem cT5 : Try.prog.cellsOf 5 = 1 := by kernel_rfl
theorem cT41 : Try.prog.cellsOf 41 = 1 := by kernel_rfl
theorem cT24 : Try.prog.cellsOf 24 = 1 := by kernel_rfl
theorem cT22 : Try.prog.cellsOf 22 = 1 := by kernel_rfl
theorem cT33 : Try.prog.cellsOf 33 = 2 := by kernel_rfl
theorem cT37 : Try.prog.cellsOf 37 = 2 := by kernel_rfl
section
variable {H : Type} {enc : TypeId × Value → H} {W : World} {n : Nat} {cs : List Value} {y : DataW H × List MemPlace} {spare : Nat → Bool} {held : Bool}
set_option maxRecDepth 100000 in
theorem ent_cs (h : DataW.trod enc Try.prog W 0 spare held n 43 cs = some y) : ∃ x, cs = En.V x ∧ EnOk x := by
  obtain ⟨xs, k, _, _, hlen, hxl, hf⟩ := DataW.trod_struct Try.underlying43 h
  obtain ⟨a, b, c, rfl⟩ := list3 (hlen.trans (by kernel_rfl))
  have get : ∀ i, i < 3 → ∃ y, xs[i]? = some y := fun i hi => ⟨xs[i]'(by rw [hxl]; exact hi), List.getElem?_eq_getElem _⟩
  obtain ⟨y0, g0⟩ := get 0 (by decide)
  obtain ⟨y1, g1⟩ := get 1 (by decide)
  obtain ⟨y2, g2⟩ := get 2 (by decide)
  have h0 := hf 0 _ rfl
  have h1 := hf 1 _ rfl
  have h2 := hf 2 _ rfl
  simp [g0, g1, g2, cT3, cT41, cT24] at h0 h1 h2
  obtain ⟨x, e0, _, _⟩ := DataW.trod_int Try.underlying3 h0
  obtain ⟨z, e1, _, w1⟩ := DataW.trod_int Try.underlying41 h1
  obtain ⟨u, e2, _, w2⟩ := DataW.trod_int Try.underlying24 h2
  simp at e0 e1 e2
  subst e0 e1 e2
  have bz := bounds_u32 w1
  have bu := bounds_u64 w2
  exact ⟨⟨x, z, u⟩, rfl, bz, bu.1⟩
theorem ents_cs (h : DataW.trod enc Try.prog W 0 spare held n 22 cs = some y) :
    ∃ (A : Option Addr) (len cap : Nat) (xs : List En), cs = [.slice A len cap] ∧ len ≤ cap ∧ cap ≤ maxLen ∧ (A = none → cap = 0) ∧ xs.length = len ∧ Rd W W.heap.size 3 A len (ens xs) ∧ ∀ x ∈ xs, EnOk x :=
  rows_cs En.V EnOk 3 En.len (by decide) (fun _ _ _ h => ent_cs h) Try.underlying22 (by kernel_rfl) h
set_option maxRecDepth 100000 in
theorem two_cs {t e : TypeId} {f0 f1 : Field} {q : IntKind} (ht : Try.prog.underlying t = some (.struct #[f0, f1])) (hc : Try.prog.cellsOf t = 2) (he : Try.prog.underlying e = some (.int q)) (hce : Try.prog.cellsOf e = 1) (t0 : f0.type = e) (t1 : f1.type = e) (o0 : f0.offset = 0) (o1 : f1.offset = 1)
    (h : DataW.trod enc Try.prog W 0 spare held n t cs = some y) : ∃ a b : Int, cs = [.int q a, .int q b] ∧ (Lit.int q a).wf = true ∧ (Lit.int q b).wf = true := by
  obtain ⟨xs, k, _, _, hlen, hxl, hf⟩ := DataW.trod_struct ht h
  obtain ⟨a, b, rfl⟩ := list2 (hlen.trans hc)
  have get : ∀ i, i < 2 → ∃ y, xs[i]? = some y := fun i hi => ⟨xs[i]'(by rw [hxl]; exact hi), List.getElem?_eq_getElem _⟩
  obtain ⟨y0, g0⟩ := get 0 (by decide)
  obtain ⟨y1, g1⟩ := get 1 (by decide)
  have h0 := hf 0 f0 rfl
  have h1 := hf 1 f1 rfl
  rw [t0, o0, hce] at h0
  rw [t1, o1, hce] at h1
  simp [g0, g1] at h0 h1
  obtain ⟨x, e0, _, w0⟩ := DataW.trod_int he h0
  obtain ⟨z, e1, _, w1⟩ := DataW.trod_int he h1
  simp at e0 e1
  subst e0 e1
  exact ⟨x, z, rfl, w0, w1⟩
theorem tm_cs (h : DataW.trod enc Try.prog W 0 spare held n 33 cs = some y) : ∃ a b : Int, cs = [.int .u64 a, .int .u64 b] ∧ (Lit.int .u64 a).wf = true ∧ (Lit.int .u64 b).wf = true :=
  two_cs Try.underlying33 cT33 Try.underlying24 cT24 rfl rfl rfl rfl h
theorem pl_cs (h : DataW.trod enc Try.prog W 0 spare held n 37 cs = some y) : ∃ a b : Int, cs = [.int .i64 a, .int .i64 b] ∧ (Lit.int .i64 a).wf = true ∧ (Lit.int .i64 b).wf = true :=
  two_cs Try.underlying37 cT37 Try.underlying3 cT3 rfl rfl rfl rfl h
end
/-- An act. -/
structure Ac where
  k : Int
  d : Int
  i : Int
  to_ : Int
  now : Int
  X : Option Addr
  n : Nat
  c : Nat
  a : Int
  f : Int
  l : List En
def Ac.V (x : Ac) : List Value := [.int .u8 x.k, .int .i64 x.d, .int .i64 x.i, .int .i64 x.to_, .int .u64 x.now, .slice x.X x.n x.c, .int .u64 x.a, .int .u64 x.f]
structure AcOk (W : World) (x : Ac) : Prop where
  k : 0 ≤ x.k ∧ x.k ≤ 255
  wi : (Lit.int .i64 x.i).wf = true
  nc : x.n ≤ x.c
  cm : x.c ≤ maxLen
  X : x.X = none → x.c = 0
  len : x.l.length = x.n
  rd : Rd W W.heap.size 3 x.X x.n (ens x.l)
  ok : ∀ e ∈ x.l, EnOk e
theorem Ac.len (x : Ac) : x.V.length = 8 := rfl
section
variable {H : Type} {enc : TypeId × Value → H} {W : World} {n : Nat} {cs : List Value} {y : DataW H × List MemPlace} {spare : Nat → Bool} {held : Bool} {base : Nat} {v : Value} {d : DataW H} {p : List MemPlace}
set_option maxRecDepth 100000 in
theorem act_cs {t : TypeId} (hu : Try.prog.underlying t = Try.prog.underlying 52) (hct : Try.prog.cellsOf t = 8) (h : DataW.trod enc Try.prog W 0 spare held n t cs = some y) : ∃ x, cs = Ac.V x ∧ AcOk W x := by
  rw [Try.underlying52] at hu
  obtain ⟨xs, k, _, _, hlen, hxl, hf⟩ := DataW.trod_struct hu h
  obtain ⟨c0, c1, c2, c3, c4, c5, c6, c7, rfl⟩ := list8 (hlen.trans hct)
  have get : ∀ i, i < 6 → ∃ y, xs[i]? = some y := fun i hi => ⟨xs[i]'(by rw [hxl]; exact hi), List.getElem?_eq_getElem _⟩
  obtain ⟨y0, g0⟩ := get 0 (by decide)
  obtain ⟨y1, g1⟩ := get 1 (by decide)
  obtain ⟨y2, g2⟩ := get 2 (by decide)
  obtain ⟨y3, g3⟩ := get 3 (by decide)
  obtain ⟨y4, g4⟩ := get 4 (by decide)
  obtain ⟨y5, g5⟩ := get 5 (by decide)
  have h0 := hf 0 _ rfl
  have h1 := hf 1 _ rfl
  have h2 := hf 2 _ rfl
  have h3 := hf 3 _ rfl
  have h4 := hf 4 _ rfl
  have h5 := hf 5 _ rfl
  simp [g0, g1, g2, g3, g4, g5, cT3, cT5, cT24, cT22, cT33, cT37] at h0 h1 h2 h3 h4 h5
  obtain ⟨k, e0, _, w0⟩ := DataW.trod_int Try.underlying5 h0
  obtain ⟨pd, pi, e1, _, wi⟩ := pl_cs h1
  obtain ⟨to_, e2, _, _⟩ := DataW.trod_int Try.underlying3 h2
  obtain ⟨now, e3, _, _⟩ := DataW.trod_int Try.underlying24 h3
  obtain ⟨X, m, cx, l, e4, hnc, hcm, hX, hl, hr, hok⟩ := ents_cs h4
  obtain ⟨ta, tf, e5, _, _⟩ := tm_cs h5
  simp at e0 e1 e2 e3 e4 e5
  obtain ⟨rfl, rfl⟩ := e1
  obtain ⟨rfl, rfl⟩ := e5
  subst e0 e2 e3 e4
  have bk := bounds_u8 w0
  exact ⟨⟨k, pd, pi, to_, now, X, m, cx, ta, tf, l⟩, rfl, ⟨bk, wi, hnc, hcm, hX, hl, hr, hok⟩⟩
set_option maxRecDepth 100000 in
/-- An argument that is an act. -/
theorem open_act (hv : Value.okWide Try.prog W .any base 52 v) (h : DataW.Trod enc Try.prog W 0 spare held 52 v d p) : ∃ x, v = .agg (Ac.V x).toArray ∧ AcOk W x := by
  obtain ⟨cs, rfl, _⟩ := okWide_struct Try.underlying52 hv
  obtain ⟨fuel, hf⟩ := h
  obtain ⟨x, hx, hok⟩ := act_cs (by rfl) (by kernel_rfl) hf
  refine ⟨x, ?_, hok⟩
  have : cs.toList = Ac.V x := hx
  rw [← this]
theorem slice_lt {P : Program} {W : World} {r : Reach} {base : Nat} {t e : TypeId} {A : Option Addr} {n c : Nat} (ht : P.underlying t = some (.slice e)) (hv : Value.okWide P W r base t (.slice A n c)) : ∀ j, blk A j → j < W.heap.size := by
  rintro j ⟨a, rfl, rfl⟩
  simp only [Value.okWide, ht, Cell.okWide, Cell.ok] at hv
  obtain ⟨_, _, _, _, row, cells, hs, _⟩ := hv
  rcases Nat.lt_or_ge a.block W.heap.size with h | h
  · exact h
  · unfold World.shape? at hs
    rw [Array.getElem?_eq_none h] at hs
    simp at hs
set_option maxRecDepth 100000 in
/-- An argument that is a slice of entries. -/
theorem open_ents (hv : Value.okWide Try.prog W .any base 22 v) (h : DataW.Trod enc Try.prog W 0 spare held 22 v d p) :
    ∃ (A : Option Addr) (len cap : Nat) (xs : List En), v = .slice A len cap ∧ len ≤ cap ∧ cap ≤ maxLen ∧ (A = none → cap = 0) ∧ xs.length = len ∧ Rd W W.heap.size 3 A len (ens xs) ∧ (∀ x ∈ xs, EnOk x) ∧ ∀ j, blk A j → j < W.heap.size := by
  obtain ⟨a0, len0, cap0, rfl⟩ := okWide_slice Try.underlying22 hv
  obtain ⟨fuel, hf⟩ := h
  obtain ⟨A, len, cap, xs, e, hl, hm, hX, hx, hr, hok⟩ := ents_cs hf
  simp [Value.cells] at e
  obtain ⟨rfl, rfl, rfl⟩ := e
  exact ⟨_, _, _, xs, rfl, hl, hm, hX, hx, hr, hok, slice_lt Try.underlying22 hv⟩
set_option maxRecDepth 100000 in
/-- An argument that is a timer. -/
theorem open_tm (hv : Value.okWide Try.prog W .any base 33 v) (h : DataW.Trod enc Try.prog W 0 spare held 33 v d p) : ∃ a f : Int, v = .agg #[.int .u64 a, .int .u64 f] := by
  obtain ⟨cs, rfl, _⟩ := okWide_struct Try.underlying33 hv
  obtain ⟨fuel, hf⟩ := h
  obtain ⟨a, f, hx, _, _⟩ := tm_cs hf
  refine ⟨a, f, ?_⟩
  have : cs.toList = [.int .u64 a, .int .u64 f] := hx
  rw [← Array.toArray_toList (xs := cs), this]
end
end Go.Proofs.Ytajcijocjbakbaa

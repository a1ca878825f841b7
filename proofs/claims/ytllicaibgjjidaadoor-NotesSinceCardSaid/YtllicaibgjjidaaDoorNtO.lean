import Derived.Test.YtllicaibgjjidaaDoorOpn
import Derived.Test.YtllicaibgjjidaaDoorNtTab
import Derived.Test.YtllicaibgjjidaaDoorNtB
import Derived.Lib.SmallJoins
namespace Go.Proofs.YtllicaibgjjidaaDoor
open Go.ChangeShapes Go.WideShapes Go.ChangeAt Go.WideMaps Go.WideElems Go.RowKit

def numOf : Option Value → Int
  | some (.int _ n) => n
  | _ => 0
theorem add_cell {W : World} {a : Addr} {n : Nat} {v : Value} (h : W.cell? (a.add n) = some v) : a.add n = ⟨a.block, a.off + n, none⟩ := by
  have hs := World.cell?_spot h
  cases hx : a.add n with
  | mk b o sp =>
    have hb : (a.add n).block = a.block := by unfold Addr.add; split <;> rfl
    have ho : (a.add n).off = a.off + n := by
      unfold Addr.add
      split
      · rename_i h0; have : n = 0 := by simpa using h0
        subst this; rfl
      · rfl
    rw [hx] at hs hb ho
    simp only at hs hb ho
    subst hs; subst hb; subst ho
    rfl
section
variable {H : Type} {enc : TypeId × Value → H} {W : World} {base : Nat} {v : Value} {d : DataW H} {p : List MemPlace} {spare : Nat → Bool} {held : Bool}
/-- The notes of an argument. -/
def Args (w : World) (A : Option Addr) (len : Nat) (N : Nat → Nt) : Prop :=
  0 < len → ∃ g off, A = some ⟨g, off, none⟩ ∧ g < w.heap.size ∧ ∀ i, i < len → ∀ j u, (N i).P[j]? = some u → w.cell? ⟨g, off + i * 7 + j, none⟩ = some u
theorem open_note (hv : Value.okWide Tryd.prog W .any base 32 v) (h : DataW.Trod enc Tryd.prog W 0 spare held 32 v d p) : ∃ n : Nt, v = .agg #[.int .i64 n.s, .int .i64 n.t, .int .u8 n.k, .int .u32 n.a, .int .i64 n.o, .int .u32 n.p, .int .u64 n.v] ∧ 0 ≤ n.k ∧ n.k ≤ 255 := by
  obtain ⟨cs, rfl, hsz⟩ := okWide_struct Tryd.underlying32 hv
  obtain ⟨fuel, hf⟩ := h
  have c7 : Tryd.prog.cellsOf 32 = 7 := by kernel_rfl
  obtain ⟨xs, n, _, _, hl, hxl, hfl⟩ := DataW.trod_struct Tryd.underlying32 hf
  have d3 : Tryd.prog.cellsOf 3 = 1 := by kernel_rfl
  have d23 : Tryd.prog.cellsOf 23 = 1 := by kernel_rfl
  have d29 : Tryd.prog.cellsOf 29 = 1 := by kernel_rfl
  have d30 : Tryd.prog.cellsOf 30 = 1 := by kernel_rfl
  rw [c7] at hsz
  obtain ⟨l⟩ := cs
  match l, hsz with
  | [a0, a1, a2, a3, a4, a5, a6], _ =>
    match xs, hxl with
    | [x0, x1, x2, x3, x4, x5, x6], _ =>
      have t0 := hfl 0 _ rfl
      have t1 := hfl 1 _ rfl
      have t2 := hfl 2 _ rfl
      have t3 := hfl 3 _ rfl
      have t4 := hfl 4 _ rfl
      have t5 := hfl 5 _ rfl
      have t6 := hfl 6 _ rfl
      simp [Value.cells, d3, d23, d29, d30] at t0 t1 t2 t3 t4 t5 t6
      obtain ⟨m0, e0, _, _⟩ := DataW.trod_int Tryd.underlying3 t0
      obtain ⟨m1, e1, _, _⟩ := DataW.trod_int Tryd.underlying3 t1
      obtain ⟨m2, e2, _, w2⟩ := DataW.trod_int Tryd.underlying23 t2
      obtain ⟨m3, e3, _, _⟩ := DataW.trod_int Tryd.underlying29 t3
      obtain ⟨m4, e4, _, _⟩ := DataW.trod_int Tryd.underlying3 t4
      obtain ⟨m5, e5, _, _⟩ := DataW.trod_int Tryd.underlying29 t5
      obtain ⟨m6, e6, _, _⟩ := DataW.trod_int Tryd.underlying30 t6
      simp at e0 e1 e2 e3 e4 e5 e6
      subst e0 e1 e2 e3 e4 e5 e6
      have := bounds_u8 w2
      exact ⟨⟨m0, m1, m2, m3, m4, m5, m6⟩, rfl, this.1, this.2⟩

theorem open_notes (hv : Value.okWide Tryd.prog W .any base 36 v) (h : DataW.Trod enc Tryd.prog W 0 spare held 36 v d p) :
    ∃ A len cap N, v = .slice A len cap ∧ len ≤ 9223372036854775807 ∧ Args W A len N ∧ ∀ i, i < len → 0 ≤ (N i).k ∧ (N i).k ≤ 255 := by
  obtain ⟨a0, len0, cap0, rfl⟩ := okWide_slice Tryd.underlying36 hv
  obtain ⟨fuel, hf⟩ := h
  rcases open_slice_fields Tryd.underlying36 Tryd.underlying32 (by kernel_rfl) (by kernel_rfl) hf with ⟨hcs, _⟩ | ⟨a, len, cap, m, D, Pl, hcs, _, hl, hm, hmm, _, hi⟩
  · simp [Value.cells] at hcs
    obtain ⟨rfl, rfl, rfl⟩ := hcs
    exact ⟨none, 0, 0, fun _ => ⟨0, 0, 0, 0, 0, 0, 0⟩, rfl, by omega, fun h => by omega, fun i h => by omega⟩
  · simp [Value.cells] at hcs
    obtain ⟨rfl, rfl, rfl⟩ := hcs
    have key : ∀ i, i < len0 → ∃ n : Nt, (∀ j u, n.P[j]? = some u → W.cell? (a.add (i * 7 + j)) = some u) ∧ 0 ≤ n.k ∧ n.k ≤ 255 := by
      intro i hil
      obtain ⟨ys, n, _, _, _, hj⟩ := hi i (by rw [hmm]; split <;> omega)
      obtain ⟨v0, y0, c0, _, t0⟩ := hj 0 _ rfl
      obtain ⟨v1, y1, c1, _, t1⟩ := hj 1 _ rfl
      obtain ⟨v2, y2, c2, _, t2⟩ := hj 2 _ rfl
      obtain ⟨v3, y3, c3, _, t3⟩ := hj 3 _ rfl
      obtain ⟨v4, y4, c4, _, t4⟩ := hj 4 _ rfl
      obtain ⟨v5, y5, c5, _, t5⟩ := hj 5 _ rfl
      obtain ⟨v6, y6, c6, _, t6⟩ := hj 6 _ rfl
      obtain ⟨m0, e0, _, _⟩ := DataW.trod_int Tryd.underlying3 t0
      obtain ⟨m1, e1, _, _⟩ := DataW.trod_int Tryd.underlying3 t1
      obtain ⟨m2, e2, _, w2⟩ := DataW.trod_int Tryd.underlying23 t2
      obtain ⟨m3, e3, _, _⟩ := DataW.trod_int Tryd.underlying29 t3
      obtain ⟨m4, e4, _, _⟩ := DataW.trod_int Tryd.underlying3 t4
      obtain ⟨m5, e5, _, _⟩ := DataW.trod_int Tryd.underlying29 t5
      obtain ⟨m6, e6, _, _⟩ := DataW.trod_int Tryd.underlying30 t6
      simp at e0 e1 e2 e3 e4 e5 e6
      subst e0 e1 e2 e3 e4 e5 e6
      have := bounds_u8 w2
      refine ⟨⟨m0, m1, m2, m3, m4, m5, m6⟩, fun j u hu => ?_, this.1, this.2⟩
      rcases j with _ | _ | _ | _ | _ | _ | _ | j <;> simp [Nt.P] at hu <;> subst hu
      · exact c0
      · exact c1
      · exact c2
      · exact c3
      · exact c4
      · exact c5
      · exact c6
    obtain ⟨N, hN⟩ : ∃ N : Nat → Nt, ∀ i, i < len0 → (∀ j u, (N i).P[j]? = some u → W.cell? (a.add (i * 7 + j)) = some u) ∧ 0 ≤ (N i).k ∧ (N i).k ≤ 255 := by
      refine ⟨fun i => if h : i < len0 then (key i h).choose else ⟨0, 0, 0, 0, 0, 0, 0⟩, fun i hil => ?_⟩
      simp only [hil, dif_pos]
      exact (key i hil).choose_spec
    refine ⟨some a, len0, cap0, N, rfl, by unfold maxLen at hm; omega, fun hpos => ?_, fun i hil => (hN i hil).2⟩
    have c0 := (hN 0 hpos).1 0 _ rfl
    have ha : a = ⟨a.block, a.off, none⟩ := by have := add_cell c0; simp only [Nat.zero_mul, Addr.add_zero', Nat.add_zero] at this; exact this
    have hab : a.block < W.heap.size := by have := World.block_lt_of_cell? W _ c0; rw [add_cell c0] at this; exact this
    refine ⟨a.block, a.off, congrArg some ha, hab, fun i hil j u hu => ?_⟩
    have c := (hN i hil).1 j u hu
    rw [add_cell c] at c
    rw [Nat.add_assoc]
    exact c
end
end Go.Proofs.YtllicaibgjjidaaDoor

import Derived.Test.YtaenclbbiodhfaaCkO
import Derived.Test.YtaenclbbiodhfaaOpr
namespace Go.Proofs.Ytaenclbbiodhfaa
open Go.ChangeShapes Go.WideShapes Go.ChangeAt Go.RowKit Go.Deep

/-- An act. -/
structure Ac where
  kd : Int
  n : Nat
  on : Bool
  at_ : Nat
  X : Option Addr
  m : Nat
  cx : Nat
  l : List Nat
def Ac.V (a : Ac) : List Value := [.int .u8 a.kd, .int .u64 a.n, .bool a.on, .int .u64 a.at_, .slice a.X a.m a.cx]
structure AcOk (W : World) (a : Ac) : Prop where
  k0 : 0 ≤ a.kd
  k1 : a.kd ≤ 255
  n : U a.n
  c : a.m ≤ a.cx
  rd : Rd W W.heap.size 1 a.X a.m (us a.l)
  u : ∀ d ∈ a.l, U d
theorem Ac.len (a : Ac) : a.V.length = 5 := rfl
set_option maxRecDepth 100000 in
theorem nums_cs {H : Type} {enc : TypeId × Value → H} {W : World} {n : Nat} {cs : List Value} {y : DataW H × List MemPlace} {spare : Nat → Bool} {held : Bool} (h : DataW.trod enc Try.prog W 0 spare held n 28 cs = some y) :
    ∃ (X : Option Addr) (m cx : Nat) (l : List Nat), cs = [.slice X m cx] ∧ m ≤ cx ∧ Rd W W.heap.size 1 X m (us l) ∧ ∀ d ∈ l, U d := by
  have hl : ∃ a m c, cs = [.slice a m c] := by
    rcases open_ints Try.underlying28 Try.underlying33 cells33 h with ⟨hcs, _⟩ | ⟨a, len, cap, zs, hcs, _⟩
    · exact ⟨_, _, _, hcs⟩
    · exact ⟨_, _, _, hcs⟩
  obtain ⟨a, m, c, rfl⟩ := hl
  rcases open_ints Try.underlying28 Try.underlying33 cells33 h with ⟨hcs, _⟩ | ⟨a', len, cap, zs, hcs, _, hl, hm, hlen, _, hcell, hw⟩
  · simp at hcs
    obtain ⟨rfl, rfl, rfl⟩ := hcs
    exact ⟨none, 0, 0, [], rfl, Nat.le_refl _, Rd.nil _ _ _ _, fun _ h => by cases h⟩
  · simp at hcs
    obtain ⟨rfl, rfl, rfl⟩ := hcs
    have hlz : m ≤ zs.length := by rw [hlen]; split <;> omega
    obtain ⟨e, hu⟩ := us_of (zs.take m) (fun n hn => hw n (List.mem_of_mem_take hn))
    refine ⟨some a', m, c, (zs.take m).map Int.toNat, rfl, hl, ?_, hu⟩
    rw [e]
    refine ⟨by simp; omega, fun hp => ?_⟩
    simp at hp
    have c0 := hcell 0 (by omega)
    have ha : a' = ⟨a'.block, a'.off, none⟩ := by have := add_cell c0; simpa only [Addr.add_zero', Nat.add_zero] using this
    have hab : a'.block < W.heap.size := by have := World.block_lt_of_cell? W _ c0; rw [add_cell c0] at this; exact this
    refine ⟨a'.block, a'.off, congrArg some ha, hab, fun j u hu => ?_⟩
    have hj : j < m := by
      have := (List.getElem?_eq_some_iff.1 hu).1
      simp at this
      omega
    have cj := hcell j (by omega)
    rw [add_cell cj] at cj
    rw [cj, ← hu]
    rw [List.getElem?_map, List.getElem?_take, if_pos hj]
    have hjz : j < zs.length := by omega
    simp [List.getD, List.getElem?_eq_getElem hjz]
theorem list5 {cs : List Value} (h : cs.length = 5) : ∃ a b c d e, cs = [a, b, c, d, e] := by
  match cs, h with
  | [a, b, c, d, e], _ => exact ⟨a, b, c, d, e, rfl⟩
set_option maxRecDepth 100000 in
theorem act_cs {H : Type} {enc : TypeId × Value → H} {W : World} {n : Nat} {cs : List Value} {y : DataW H × List MemPlace} {spare : Nat → Bool} {held : Bool} (h : DataW.trod enc Try.prog W 0 spare held n 85 cs = some y) : ∃ x, cs = Ac.V x ∧ AcOk W x := by
  obtain ⟨xs, k, _, _, hlen, hxl, hf⟩ := DataW.trod_struct Try.underlying85 h
  obtain ⟨a, b, c, d, e, rfl⟩ := list5 (hlen.trans (by kernel_rfl))
  have get : ∀ i, i < 4 → ∃ y, xs[i]? = some y := fun i hi => ⟨xs[i]'(by rw [hxl]; exact hi), List.getElem?_eq_getElem _⟩
  obtain ⟨y0, g0⟩ := get 0 (by decide)
  obtain ⟨y1, g1⟩ := get 1 (by decide)
  obtain ⟨y2, g2⟩ := get 2 (by decide)
  obtain ⟨y3, g3⟩ := get 3 (by decide)
  have c5 : Try.prog.cellsOf 5 = 1 := by kernel_rfl
  have c33 : Try.prog.cellsOf 33 = 1 := by kernel_rfl
  have c73 : Try.prog.cellsOf 73 = 2 := by kernel_rfl
  have c28 : Try.prog.cellsOf 28 = 1 := by kernel_rfl
  have c4 : Try.prog.cellsOf 4 = 1 := by kernel_rfl
  have h0 := hf 0 _ rfl
  have h1 := hf 1 _ rfl
  have h2 := hf 2 _ rfl
  have h3 := hf 3 _ rfl
  simp [g0, g1, g2, g3, c5, c33, c73, c28] at h0 h1 h2 h3
  obtain ⟨x, e0, _, w0⟩ := DataW.trod_int Try.underlying5 h0
  obtain ⟨z, e1, _, w1⟩ := DataW.trod_int Try.underlying33 h1
  obtain ⟨ys, k2, _, _, _, hyl, hf2⟩ := DataW.trod_struct Try.underlying73 h2
  have get2 : ∀ i, i < 2 → ∃ y, ys[i]? = some y := fun i hi => ⟨ys[i]'(by rw [hyl]; exact hi), List.getElem?_eq_getElem _⟩
  obtain ⟨q0, p0⟩ := get2 0 (by decide)
  obtain ⟨q1, p1⟩ := get2 1 (by decide)
  have t0 := hf2 0 _ rfl
  have t1 := hf2 1 _ rfl
  simp [p0, p1, c4, c33] at t0 t1
  obtain ⟨on, e2, _⟩ := DataW.trod_bool Try.underlying4 t0
  obtain ⟨s, e3, _, w3⟩ := DataW.trod_int Try.underlying33 t1
  obtain ⟨X, m, cx, l, e4, hc, hr, hu⟩ := nums_cs h3
  simp at e0 e1 e2 e3 e4
  subst e0 e1 e2 e3 e4
  have bx := bounds_u8 w0
  have bz := bounds_u64 w1
  have bs := bounds_u64 w3
  obtain ⟨z, rfl⟩ := Int.eq_ofNat_of_zero_le bz.1
  obtain ⟨s, rfl⟩ := Int.eq_ofNat_of_zero_le bs.1
  have uz : U z := ⟨by omega⟩
  exact ⟨⟨x, z, on, s, X, m, cx, l⟩, rfl, bx.1, bx.2, uz, hc, hr, hu⟩
set_option maxRecDepth 100000 in
/-- An argument that is an act. -/
theorem open_act {H : Type} {enc : TypeId × Value → H} {W : World} {base : Nat} {v : Value} {d : DataW H} {p : List MemPlace} {spare : Nat → Bool} {held : Bool}
    (hv : Value.okWide Try.prog W .any base 85 v) (h : DataW.Trod enc Try.prog W 0 spare held 85 v d p) : ∃ x, v = .agg (Ac.V x).toArray ∧ AcOk W x := by
  obtain ⟨cs, rfl, _⟩ := okWide_struct Try.underlying85 hv
  obtain ⟨fuel, hf⟩ := h
  obtain ⟨x, hx, hok⟩ := act_cs hf
  refine ⟨x, ?_, hok⟩
  have : cs.toList = Ac.V x := hx
  rw [← this]
set_option maxRecDepth 100000 in
/-- An argument that is a slice of acts. -/
theorem open_acts {H : Type} {enc : TypeId × Value → H} {W : World} {base : Nat} {v : Value} {d : DataW H} {p : List MemPlace} {spare : Nat → Bool} {held : Bool}
    (hv : Value.okWide Try.prog W .any base 81 v) (h : DataW.Trod enc Try.prog W 0 spare held 81 v d p) :
    ∃ (A : Option Addr) (len cap : Nat) (xs : List Ac), v = .slice A len cap ∧ len ≤ cap ∧ cap ≤ maxLen ∧ xs.length = len ∧ Rd W W.heap.size 5 A len (xs.flatMap Ac.V) ∧ ∀ x ∈ xs, AcOk W x :=
  open_rows Ac.V (AcOk W) 5 Ac.len (by decide) (fun _ _ _ h => act_cs h) Try.underlying81 (by kernel_rfl) hv h
end Go.Proofs.Ytaenclbbiodhfaa

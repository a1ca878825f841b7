import Derived.Test.YtajcijocjbakbaaDoorOxD
import Derived.Test.YtajcijocjbakbaaDoorOwT
namespace Go.Proofs.YtajcijocjbakbaaDoor
open Go.ChangeShapes Go.WideShapes Go.ChangeAt Go.WideMaps Go.WideElems Go.RowKit

def pairV (p : Int × Int) : List Value := [.int .u8 p.1, .int .u8 p.2]
def pairD (p : Int × Int) : DataW Unit := .agg [.lit (.int .u8 p.1), .lit (.int .u8 p.2)]
theorem gives_eq : (Rows.laid_layby_programs_gives : DataW Unit) = .agg (givesL.map pairD) := by rfl
theorem list2 {cs : List Value} (h : cs.length = 2) : ∃ a b, cs = [a, b] := by
  match cs, h with
  | [a, b], _ => exact ⟨a, b, rfl⟩
set_option maxRecDepth 100000 in
theorem pair_cs {W : World} {spare : Nat → Bool} {held : Bool} {n : Nat} {cs : List Value} {y : DataW Unit × List MemPlace} {u : Int × Int} (h : DataW.trod (fun _ => ()) Tryd.prog W 0 spare held n 78 cs = some y) (hy : y.1 = pairD u) : cs = pairV u := by
  obtain ⟨xs, k, _, ex, hlen, hxl, hf⟩ := DataW.trod_struct Tryd.underlying78 h
  obtain ⟨a, b, rfl⟩ := list2 (hlen.trans (by kernel_rfl))
  have get : ∀ i, i < 2 → ∃ y, xs[i]? = some y := fun i hi => ⟨xs[i]'(by rw [hxl]; exact hi), List.getElem?_eq_getElem _⟩
  obtain ⟨y0, g0⟩ := get 0 (by decide)
  obtain ⟨y1, g1⟩ := get 1 (by decide)
  rw [ex] at hy
  have hm := DataW.agg.inj hy
  have q : ∀ (i : Nat) (z : DataW Unit × List MemPlace), xs[i]? = some z → ([.lit (.int .u8 u.1), .lit (.int .u8 u.2)] : List (DataW Unit))[i]? = some z.1 := fun i z hz => by
    rw [← hm, List.getElem?_map, hz]
    rfl
  have q0 := q 0 _ g0
  have q1 := q 1 _ g1
  have h0 := hf 0 _ rfl
  have h1 := hf 1 _ rfl
  simp [g0, g1, cT32] at h0 h1
  obtain ⟨x0, e0, r0, _⟩ := DataW.trod_int Tryd.underlying32 h0
  obtain ⟨x1, e1, r1, _⟩ := DataW.trod_int Tryd.underlying32 h1
  rw [r0] at q0
  rw [r1] at q1
  simp at e0 e1 q0 q1
  rw [e0, e1, ← q0, ← q1]
  rfl
abbrev laidP : List (String × DataW Unit) := [("layby/programs.uses", Rows.laid_layby_programs_uses), ("layby/programs.gives", Rows.laid_layby_programs_gives), ("layby/owners.asks", Rows.laid_layby_owners_asks)]
theorem gives_of {W : World} (h : ∃ g t cs fuel p, Tryd.prog.globalNamed "layby/programs.gives" = some g ∧ (Tryd.prog.globals[g]?).map (·.type) = some t ∧ W.var? Tryd.prog "layby/programs.gives" = some cs ∧ DataW.trod (fun _ => ()) Tryd.prog W 0 (fun _ => true) false fuel t cs.toList = some ((Rows.laid_layby_programs_gives : DataW Unit), p)) :
    Gives W ∧ 2 < W.heap.size := by
  rw [gives_eq] at h
  have a := rows_of_laid (g := 2) (t := 79) (e := 78) (m := 2) (l := givesL) pairD pairV (fun _ => rfl) (by kernel_rfl) (by kernel_rfl) Tryd.underlying79 (by kernel_rfl) (fun _ _ _ _ h hy => pair_cs h hy) h
  have hg : Gives W := fun k hk => ⟨a k hk 0 _ rfl, a k hk 1 _ rfl⟩
  exact ⟨hg, World.block_lt_of_cell? W _ (hg 0 (by decide)).1⟩
theorem t1_of_laid {W : World} (h : laidMetH Tryd.prog laidP W) : T1 W := by
  rw [MakeChecks.laidMetH_plain _ _ _ (by kernel_rfl)] at h
  obtain ⟨ps, hl, _, _⟩ := h
  obtain ⟨hg, h2⟩ := gives_of (laid_at laidP ps hl (by simp [laidP]))
  exact ⟨tabs_of (laid_at laidP ps hl (by simp [laidP])) (laid_at laidP ps hl (by simp [laidP])), hg, h2⟩
/-- The door's own heap meets the condition. -/
theorem door_metP (os : Os) (args : Array Value) : laidMetH Tryd.prog laidP ((World.doorLaid Tryd.prog 4000 os).forCall (fun _ _ => 0) ⟨#[], args, []⟩).memory :=
  laidMetH_of_parts3 (fuel := 8) (laidMet_of_run' 8 (by kernel_rfl) (by kernel_rfl)) (by kernel_rfl) (by kernel_rfl)
/-- An argument that is a byte. -/
theorem open_byte {H : Type} {enc : TypeId × Value → H} {W : World} {base : Nat} {v : Value} {d : DataW H} {p : List MemPlace} {spare : Nat → Bool} {held : Bool}
    (hv : Value.okWide Tryd.prog W .any base 5 v) (h : DataW.Trod enc Tryd.prog W 0 spare held 5 v d p) : ∃ z : Nat, v = .int .u8 (z : Int) ∧ z ≤ 255 := by
  obtain ⟨b, rfl, rfl, rfl, wb⟩ := open_int Tryd.underlying5 hv h
  have := bounds_u8 wb
  obtain ⟨n, rfl⟩ := Int.eq_ofNat_of_zero_le this.1
  exact ⟨n, rfl, by omega⟩
end Go.Proofs.YtajcijocjbakbaaDoor

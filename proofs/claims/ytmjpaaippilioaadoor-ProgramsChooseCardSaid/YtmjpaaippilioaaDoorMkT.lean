import Derived.Test.YtmjpaaippilioaaDoorMkI
import Derived.Test.YtmjpaaippilioaaDoorTie
import Derived.Test.YtmjpaaippilioaaDoorCards
import Derived.ProofKit
import Derived.LaidMore
import Derived.OpenShut
import Derived.ChangeOld
import Derived.Stop.Joined
namespace Go.Proofs.YtmjpaaippilioaaDoor
open Go.ChangeShapes Go.WideShapes Go.ChangeAt Go.WideMaps Go.WideElems Go.RowKit

theorem ownD : ownKnob Tryd.prog.godebug = none := by kernel_rfl
/-- What a listed variable reads as. -/
theorem laid_at {P : Program} {W : World} {n : String} {d : DataW Unit} : ∀ (l : List (String × DataW Unit)) (ps : List MemPlace), DataW.LaidVars P W l ps → (n, d) ∈ l →
    ∃ g t cs fuel p, P.globalNamed n = some g ∧ (P.globals[g]?).map (·.type) = some t ∧ W.var? P n = some cs ∧ DataW.trod (fun _ => ()) P W 0 (fun _ => true) false fuel t cs.toList = some (d, p)
  | [], _, _, hm => by cases hm
  | (n', d') :: r, ps, h, hm => by
    obtain ⟨g, t, cs, fuel, p, q, h1, h2, h3, h4, h5, _⟩ := h
    rcases List.mem_cons.1 hm with e | hm
    · injection e with e1 e2
      subst e1 e2
      exact ⟨g, t, cs, fuel, p, h1, h2, h3, h4⟩
    · exact laid_at r q h5 hm
theorem strs_of_laid {W : World} {n : String} {g : Nat} {t : TypeId} {bs : List (List UInt8)} (hg : Tryd.prog.globalNamed n = some g) (hty : (Tryd.prog.globals[g]?).map (·.type) = some t) (hu : Tryd.prog.underlying t = some (.array bs.length 9)) (ct : Tryd.prog.cellsOf t = bs.length) (hpos : 0 < bs.length)
    (h : ∃ g t cs fuel p, Tryd.prog.globalNamed n = some g ∧ (Tryd.prog.globals[g]?).map (·.type) = some t ∧ W.var? Tryd.prog n = some cs ∧ DataW.trod (fun _ => ()) Tryd.prog W 0 (fun _ => true) false fuel t cs.toList = some ((.agg (bs.map fun l => .lit (.string l)) : DataW Unit), p)) :
    Rd W W.heap.size 1 (some ⟨g, 0, none⟩) bs.length (strs (bs.map fun l => ⟨l.toArray⟩)) := by
  obtain ⟨g', t', cs, fuel, p, hg', ht', hv, hd⟩ := h
  obtain rfl := Option.some.inj (hg.symm.trans hg')
  obtain rfl := Option.some.inj (hty.symm.trans ht')
  have c9 : Tryd.prog.cellsOf 9 = 1 := by kernel_rfl
  obtain ⟨xs, m, _, ex, hlen, hl, hel⟩ := DataW.trod_array hu hd
  rw [ct] at hlen
  have e3 : bs.map (fun l => (DataW.lit (.string l) : DataW Unit)) = xs.map (·.1) := DataW.agg.inj (Prod.mk.inj ex).1
  have key : ∀ i (hi : i < bs.length), W.cell? ⟨g, i, none⟩ = some (.string ⟨bs[i].toArray⟩) := by
    intro i hi
    have hk := hel i hi
    rw [c9, Nat.mul_one, List.getElem?_eq_getElem (by omega)] at hk
    obtain ⟨s, e1, e2, _⟩ := DataW.trod_string Tryd.underlying9 hk
    have hx : (bs.map (fun l => (DataW.lit (.string l) : DataW Unit)))[i]? = some (.lit (.string s.data.toList)) := by rw [e3, List.getElem?_map, List.getElem?_eq_getElem (by omega), e2]; rfl
    rw [List.getElem?_map, List.getElem?_eq_getElem hi] at hx
    simp at hx
    have hc := World.var?_cell hg hv i
    rw [hc, hx]
    have h0 : (cs.toList.drop i)[0]? = some (.string s) := by
      have := congrArg (·[0]?) e1
      simpa [List.getElem?_take] using this
    rw [List.getElem?_drop, Nat.add_zero] at h0
    simpa using h0
  have hlt := World.block_lt_of_cell? W _ (key 0 hpos)
  refine ⟨by rw [strs_len]; simp, fun _ => ⟨g, 0, rfl, hlt, fun j u hj => ?_⟩⟩
  have hjl : j < bs.length := by have := (List.getElem?_eq_some_iff.1 hj).1; rw [strs_len] at this; simpa using this
  rw [Nat.zero_add, key j hjl, ← hj]
  unfold strs
  rw [List.getElem?_map, List.getElem?_map, List.getElem?_eq_getElem hjl]
  rfl
theorem pow_of_laid {W : World} (h : ∃ g t cs fuel p, Tryd.prog.globalNamed "internal/strconv.uint64pow10" = some g ∧ (Tryd.prog.globals[g]?).map (·.type) = some t ∧ W.var? Tryd.prog "internal/strconv.uint64pow10" = some cs ∧ DataW.trod (fun _ => ()) Tryd.prog W 0 (fun _ => true) false fuel t cs.toList = some ((Lib.tabData .u64 Lib.pow10Tab : DataW Unit), p)) : Pow W := by
  obtain ⟨g', t', cs, fuel, p, hg', ht', hv, hd⟩ := h
  obtain rfl := Option.some.inj (gPow.symm.trans hg')
  obtain rfl := Option.some.inj ((show (Tryd.prog.globals[5]?).map (·.type) = some 148 by kernel_rfl).symm.trans ht')
  unfold Pow Lib.TabIs
  rw [hv, ← Lib.cells_of_tab (n := 20) Tryd.underlying148 Tryd.underlying24 (by kernel_rfl) (by kernel_rfl) hd]
abbrev laidM : List (String × DataW Unit) := [("math/bits.deBruijn32tab", Rows.laid_math_bits_deBruijn32tab), ("math/bits.deBruijn64tab", Rows.laid_math_bits_deBruijn64tab), ("internal/strconv.uint64pow10", Rows.laid_internal_strconv_uint64pow10), ("layby/marks.mutexes", Rows.laid_layby_marks_mutexes), ("layby/marks.rws", Rows.laid_layby_marks_rws), ("layby/marks.onces", Rows.laid_layby_marks_onces)]
/-- What the rows' condition gives the walks. -/
theorem mk_of_laid {W : World} (h : laidMetH Tryd.prog laidM W) : Mk W := by
  rw [MakeChecks.laidMetH_plain _ _ _ (by kernel_rfl)] at h
  obtain ⟨ps, hl, _, _⟩ := h
  refine ⟨pow_of_laid (laid_at laidM ps hl (by simp [laidM]; rfl)), ?_, ?_, ?_⟩
  · exact strs_of_laid (n := "layby/marks.mutexes") (g := 0) (t := 85) (bs := [[108, 111, 99, 107, 101, 100], [112, 97, 114, 107, 101, 100]]) (by kernel_rfl) (by kernel_rfl) Tryd.underlying85 (by kernel_rfl) (by decide) (laid_at laidM ps hl (by simp [laidM]; rfl))
  · exact strs_of_laid (n := "layby/marks.rws") (g := 1) (t := 88) (bs := [[112, 97, 114, 107, 101, 100], [119, 97, 105, 116, 115], [117, 112, 103, 114], [119, 114, 105, 116, 101, 114]]) (by kernel_rfl) (by kernel_rfl) Tryd.underlying88 (by kernel_rfl) (by decide) (laid_at laidM ps hl (by simp [laidM]; rfl))
  · exact strs_of_laid (n := "layby/marks.onces") (g := 2) (t := 88) (bs := [[100, 111, 110, 101], [112, 111, 105, 115, 111, 110], [108, 111, 99, 107, 101, 100], [112, 97, 114, 107, 101, 100]]) (by kernel_rfl) (by kernel_rfl) Tryd.underlying88 (by kernel_rfl) (by decide) (laid_at laidM ps hl (by simp [laidM]; rfl))
/-- The door's own heap meets the condition. -/
theorem door_metM (os : Os) (args : Array Value) : laidMetH Tryd.prog laidM ((World.doorLaid Tryd.prog 4000 os).forCall (fun _ _ => 0) ⟨#[], args, []⟩).memory :=
  laidMetH_of_parts3 (fuel := 8) (laidMet_of_run' 8 (by kernel_rfl) (by kernel_rfl)) (by kernel_rfl) (by kernel_rfl)
end Go.Proofs.YtmjpaaippilioaaDoor

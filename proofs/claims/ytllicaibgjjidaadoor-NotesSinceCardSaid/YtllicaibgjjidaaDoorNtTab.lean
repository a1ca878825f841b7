import Derived.Test.YtllicaibgjjidaaDoorNtA
import Derived.ProofKit
import Derived.LaidMore
import Derived.OpenShut
import Derived.Stop.Joined
namespace Go.Proofs.YtllicaibgjjidaaDoor
open Go.ChangeShapes Go.WideShapes Go.ChangeAt Go.WideMaps Go.WideElems Go.RowKit

abbrev laidN : List (String × DataW Unit) := [("layby/notes.names", Rows.laid_layby_notes_names)]
theorem ownN : ownKnob Tryd.prog.godebug = none := by kernel_rfl
theorem gNames : Tryd.prog.globalNamed "layby/notes.names" = some 0 := by kernel_rfl
theorem tNames : (Tryd.prog.globals[0]?).map (·.type) = some 56 := by kernel_rfl
theorem laid_eq {H : Type} : (Rows.laid_layby_notes_names : DataW H) = .agg (nmL.map fun l => .lit (.string l)) := by rfl
/-- What the row's condition gives the walks: the table of names. -/
theorem tab_of_laid {W : World} (h : laidMetH Tryd.prog laidN W) : Tab W := by
  rw [MakeChecks.laidMetH_plain _ _ _ (by kernel_rfl)] at h
  obtain ⟨ps, ⟨g, t, cs, fuel, p, q, hg, ht, hv, hd, _, _⟩, _, _⟩ := h
  obtain rfl := Option.some.inj (gNames.symm.trans hg)
  obtain rfl := Option.some.inj (tNames.symm.trans ht)
  have c9 : Tryd.prog.cellsOf 9 = 1 := by kernel_rfl
  have c56 : Tryd.prog.cellsOf 56 = 38 := by kernel_rfl
  obtain ⟨xs, m, _, ex, hlen, hl, hel⟩ := DataW.trod_array Tryd.underlying56 hd
  rw [c56] at hlen
  have e3 : nmL.map (fun l => (DataW.lit (.string l) : DataW Unit)) = xs.map (·.1) := DataW.agg.inj (laid_eq.symm.trans (Prod.mk.inj ex).1)
  have key : ∀ i, i < 38 → W.cell? ⟨0, i, none⟩ = some (.string (nm i)) := by
    intro i hi
    have hk := hel i hi
    rw [c9, Nat.mul_one, List.getElem?_eq_getElem (by omega)] at hk
    obtain ⟨s, e1, e2, _⟩ := DataW.trod_string Tryd.underlying9 hk
    have hx : (nmL.map (fun l => (DataW.lit (.string l) : DataW Unit)))[i]? = some (.lit (.string s.data.toList)) := by rw [e3, List.getElem?_map, List.getElem?_eq_getElem (by omega), e2]; rfl
    rw [List.getElem?_map] at hx
    have hn : nmL[i]? = some s.data.toList := by
      cases h' : nmL[i]? with
      | none => rw [h'] at hx; cases hx
      | some l => rw [h'] at hx; simp at hx; rw [hx]
    have hs : nm i = s := by unfold nm; rw [List.getD_eq_getElem?_getD, hn]; simp
    have hc := World.var?_cell gNames hv i
    rw [hc, hs]
    have h0 : (cs.toList.drop i)[0]? = some (.string s) := by
      have := congrArg (·[0]?) e1
      simpa [List.getElem?_take] using this
    rw [List.getElem?_drop, Nat.add_zero] at h0
    simpa using h0
  exact ⟨World.block_lt_of_cell? W _ (key 0 (by decide)), key⟩
/-- The door's own heap meets the condition. -/
theorem door_met (os : Os) (args : Array Value) : laidMetH Tryd.prog laidN ((World.doorLaid Tryd.prog 4000 os).forCall (fun _ _ => 0) ⟨#[], args, []⟩).memory :=
  laidMetH_of_parts3 (fuel := 8) (laidMet_of_run' 8 (by kernel_rfl) (by kernel_rfl)) (by kernel_rfl) (by kernel_rfl)
end Go.Proofs.YtllicaibgjjidaaDoor

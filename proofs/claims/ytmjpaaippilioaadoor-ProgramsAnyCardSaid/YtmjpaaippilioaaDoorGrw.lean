import Derived.Test.YtmjpaaippilioaaDoorSlc
import Derived.BigQuiet
import Derived.Deep.QuietTactic
namespace Go.Proofs.YtmjpaaippilioaaDoor
open Go.RowKit

/-- A world in which nothing of W's has turned; new blocks may have come. -/
def Grown (W : World) : Type := { x : World // Frm W x fun _ => False }
instance (W : World) : Nonempty (Grown W) := ⟨⟨W, Frm.refl _ _⟩⟩
theorem Grown.cell {W : World} {p : Addr} {v : Value} (h : W.cell? p = some v) : ∀ F : Grown W, F.1.cell? p = some v := fun F => F.2.cell h id
theorem Grown.frozen {W : World} {p : Addr} {f : Bool} (h : W.frozen? p = f) (hp : p.block < W.heap.size) : ∀ F : Grown W, F.1.frozen? p = f := fun F => (F.2.frozen hp id).trans h
section
variable {P : Program}
/-- A region that draws its order, whose operations read, and whose callees make new blocks at most. -/
theorem wp_region_grown (W : World) {id : Nat} {Q : Exit → Act → World → Prop} {a : Act} {w : World} {l : List Oper} (h0 : Frm W w fun _ => False) (hm : P.follows .mixedOrders = true) (hB : Region.lexB .any l.toArray = true)
    (h : wpQuiet P l.toArray (fun w' => ∃ F : Grown W, w' = F.1) (fun a' => ∀ w', Frm W w' (fun _ => False) → Q .normal a' w') l a) : (Code.region id l.toArray true).wp P Q a w := by
  refine wp_region_quiet (C := fun w' => ∃ F : Grown W, w' = F.1) hm hB ⟨⟨_, h0.drew⟩, rfl⟩ ?_
  have e : (fun a' => ∀ w', (∃ F : Grown W, w' = F.1) → Q .normal a' w') = (fun a' => ∀ w', Frm W w' (fun _ => False) → Q .normal a' w') := by
    funext a'
    refine propext ⟨fun h w' hw => h w' ⟨⟨w', hw⟩, rfl⟩, ?_⟩
    rintro h w' ⟨F, rfl⟩
    exact h _ F.2
  rw [e]
  exact h
/-- A callee's contract, met in such a world. -/
theorem Calls.grown_of {W : World} {f : FuncId} {args : Array Value} {F : Grown W} {v : Value} (h : Calls P f args F.1 fun e w' => e = .returned v ∧ Frm F.1 w' fun _ => False) : Calls P f args F.1 fun e w'' => e = .returned v ∧ ∃ F' : Grown W, w'' = F'.1 :=
  h.mono fun _ w'' ⟨he, hf⟩ => ⟨he, ⟨w'', F.2.then_ hf⟩, rfl⟩
theorem Calls.grown_same {W : World} {f : FuncId} {args : Array Value} {F : Grown W} {v : Value} (h : Calls P f args F.1 fun e w' => e = .returned v ∧ F.1 = w') : Calls P f args F.1 fun e w'' => e = .returned v ∧ ∃ F' : Grown W, w'' = F'.1 :=
  h.mono fun _ _ ⟨he, hf⟩ => ⟨he, F, hf.symm⟩
end
end Go.Proofs.YtmjpaaippilioaaDoor

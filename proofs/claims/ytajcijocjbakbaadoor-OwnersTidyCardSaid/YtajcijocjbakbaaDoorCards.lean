/-
  DERIVED. GIVEN WITH THE SEED: THE CARDS: each row of YtajcijocjbakbaaDoorRows.lean that lists a variable, with what it lists TIED to the program's text (the seventh form; the later family's looks); each row that meets fmt, with fmt's text TOLD by the authors' own Lean function (tested against real Go, not proved from fmt's source: count such statements apart). THE CARD IS WHAT COUNTS. Prove the row's statement (the work); the ties are given (YtajcijocjbakbaaDoorTie.lean); close each card by the builder's one call (the guide's Derived/Test/ToyasCard.lean, 'card_holds'). Laid BY PROGRAM, IN A SANDBOX (cutbox-door.mjs). By AI agents, Wed Nov 11 2026. No macro, syntax, notation, axiom, sorry.
-/
import Derived.Test.YtajcijocjbakbaaDoorRows
import GoSem.ClaimSeven
namespace Go.Proofs.YtajcijocjbakbaaDoor
namespace Rows

/-- THE TIED CARD OF 'laybylaw35.OwnersOnce'. -/
def ownersOnceCard : Claim7 := { stood := { row := ownersOnceRow, standIns := [], harness := (true, "492d2e87812e45f6c31c44f42dfb0b1c9c9fef80d894cce8143ad23e73a8d365"), looks := false }, kinds := [], alts := [], laidByText := true, laidKinds := [.data, .data], laidTests := true, laidLooks := .later }
def OwnersOnceCardSaid : Prop := Claim7.holds Tryd.pinned (.plain (OpenSpec.ofChange ownersOnceSpec)) ownersOnceCard

/-- THE TIED CARD OF 'laybylaw35.OwnersTidy'. -/
def ownersTidyCard : Claim7 := { stood := { row := ownersTidyRow, standIns := [], harness := (true, "492d2e87812e45f6c31c44f42dfb0b1c9c9fef80d894cce8143ad23e73a8d365"), looks := false }, kinds := [], alts := [], laidByText := true, laidKinds := [.data, .data, .data], laidTests := true, laidLooks := .later }
def OwnersTidyCardSaid : Prop := Claim7.holds Tryd.pinned (.plain (OpenSpec.ofChange ownersTidySpec)) ownersTidyCard

/-- THE SECOND FORM's CARD OF 'laybylaw35.OwnersOnce'. -/
def ownersOnceUptoCard : Claim7 := { stood := { row := ownersOnceUptoRow, standIns := [], harness := (true, "492d2e87812e45f6c31c44f42dfb0b1c9c9fef80d894cce8143ad23e73a8d365"), looks := false }, kinds := [], alts := [], laidByText := true, laidKinds := [.data, .data], laidTests := true, laidLooks := .later }
def OwnersOnceUptoCardSaid : Prop := Claim7.holds Tryd.pinned (.plain (OpenSpec.upto ownersOnceSpec)) ownersOnceUptoCard

/-- THE SECOND FORM's CARD OF 'laybylaw35.OwnersTidy'. -/
def ownersTidyUptoCard : Claim7 := { stood := { row := ownersTidyUptoRow, standIns := [], harness := (true, "492d2e87812e45f6c31c44f42dfb0b1c9c9fef80d894cce8143ad23e73a8d365"), looks := false }, kinds := [], alts := [], laidByText := true, laidKinds := [.data, .data, .data], laidTests := true, laidLooks := .later }
def OwnersTidyUptoCardSaid : Prop := Claim7.holds Tryd.pinned (.plain (OpenSpec.upto ownersTidySpec)) ownersTidyUptoCard
end Rows
end Go.Proofs.YtajcijocjbakbaaDoor

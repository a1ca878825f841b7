/-
  DERIVED. GIVEN WITH THE SEED: THE CARDS: each row of YtllicaibgjjidaaDoorRows.lean that lists a variable, with what it lists TIED to the program's text (the seventh form; the later family's looks); each row that meets fmt, with fmt's text TOLD by the authors' own Lean function (tested against real Go, not proved from fmt's source: count such statements apart). THE CARD IS WHAT COUNTS. Prove the row's statement (the work); the ties are given (YtllicaibgjjidaaDoorTie.lean); close each card by the builder's one call (the guide's Derived/Test/ToyasCard.lean, 'card_holds'). Laid BY PROGRAM, IN A SANDBOX (cutbox-door.mjs). By AI agents, Wed Nov 11 2026. No macro, syntax, notation, axiom, sorry.
-/
import Derived.Test.YtllicaibgjjidaaDoorRows
import GoSem.ClaimSeven
namespace Go.Proofs.YtllicaibgjjidaaDoor
namespace Rows

/-- THE TIED CARD OF 'laybylaw11.NotesKinds'. -/
def notesKindsCard : Claim7 := { stood := { row := notesKindsRow, standIns := [], harness := (true, "28852a579b2181fde2e7590100b02f86edb69cf09c55f7dc568242367fb83553"), looks := false }, kinds := [], alts := [], laidByText := true, laidKinds := [.data], laidTests := true, laidLooks := .later }
def NotesKindsCardSaid : Prop := Claim7.holds Tryd.pinned (.plain (OpenSpec.ofChange notesKindsSpec)) notesKindsCard

/-- THE TIED CARD OF 'laybylaw11.NotesPlay'. -/
def notesPlayCard : Claim7 := { stood := { row := notesPlayRow, standIns := [], harness := (true, "28852a579b2181fde2e7590100b02f86edb69cf09c55f7dc568242367fb83553"), looks := false }, kinds := [], alts := [], laidByText := true, laidKinds := [.data], laidTests := true, laidLooks := .later }
def NotesPlayCardSaid : Prop := Claim7.holds Tryd.pinned (.plain (OpenSpec.ofChange notesPlaySpec)) notesPlayCard

/-- THE TIED CARD OF 'laybylaw11.NotesSince'. -/
def notesSinceCard : Claim7 := { stood := { row := notesSinceRow, standIns := [], harness := (true, "28852a579b2181fde2e7590100b02f86edb69cf09c55f7dc568242367fb83553"), looks := false }, kinds := [], alts := [], laidByText := true, laidKinds := [.data], laidTests := true, laidLooks := .later }
def NotesSinceCardSaid : Prop := Claim7.holds Tryd.pinned (.plain (OpenSpec.ofChange notesSinceSpec)) notesSinceCard

/-- THE TIED CARD OF 'laybylaw11.NotesNames'. -/
def notesNamesCard : Claim7 := { stood := { row := notesNamesRow, standIns := [], harness := (true, "28852a579b2181fde2e7590100b02f86edb69cf09c55f7dc568242367fb83553"), looks := false }, kinds := [], alts := [], laidByText := true, laidKinds := [.data], laidTests := true, laidLooks := .later }
def NotesNamesCardSaid : Prop := Claim7.holds Tryd.pinned (.plain (OpenSpec.ofChange notesNamesSpec)) notesNamesCard

/-- THE SECOND FORM's CARD OF 'laybylaw11.NotesKinds'. -/
def notesKindsUptoCard : Claim7 := { stood := { row := notesKindsUptoRow, standIns := [], harness := (true, "28852a579b2181fde2e7590100b02f86edb69cf09c55f7dc568242367fb83553"), looks := false }, kinds := [], alts := [], laidByText := true, laidKinds := [.data], laidTests := true, laidLooks := .later }
def NotesKindsUptoCardSaid : Prop := Claim7.holds Tryd.pinned (.plain (OpenSpec.upto notesKindsSpec)) notesKindsUptoCard

/-- THE SECOND FORM's CARD OF 'laybylaw11.NotesPlay'. -/
def notesPlayUptoCard : Claim7 := { stood := { row := notesPlayUptoRow, standIns := [], harness := (true, "28852a579b2181fde2e7590100b02f86edb69cf09c55f7dc568242367fb83553"), looks := false }, kinds := [], alts := [], laidByText := true, laidKinds := [.data], laidTests := true, laidLooks := .later }
def NotesPlayUptoCardSaid : Prop := Claim7.holds Tryd.pinned (.plain (OpenSpec.upto notesPlaySpec)) notesPlayUptoCard

/-- THE SECOND FORM's CARD OF 'laybylaw11.NotesSince'. -/
def notesSinceUptoCard : Claim7 := { stood := { row := notesSinceUptoRow, standIns := [], harness := (true, "28852a579b2181fde2e7590100b02f86edb69cf09c55f7dc568242367fb83553"), looks := false }, kinds := [], alts := [], laidByText := true, laidKinds := [.data], laidTests := true, laidLooks := .later }
def NotesSinceUptoCardSaid : Prop := Claim7.holds Tryd.pinned (.plain (OpenSpec.upto notesSinceSpec)) notesSinceUptoCard

/-- THE SECOND FORM's CARD OF 'laybylaw11.NotesNames'. -/
def notesNamesUptoCard : Claim7 := { stood := { row := notesNamesUptoRow, standIns := [], harness := (true, "28852a579b2181fde2e7590100b02f86edb69cf09c55f7dc568242367fb83553"), looks := false }, kinds := [], alts := [], laidByText := true, laidKinds := [.data], laidTests := true, laidLooks := .later }
def NotesNamesUptoCardSaid : Prop := Claim7.holds Tryd.pinned (.plain (OpenSpec.upto notesNamesSpec)) notesNamesUptoCard
end Rows
end Go.Proofs.YtllicaibgjjidaaDoor

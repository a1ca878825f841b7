/-
  DERIVED. GIVEN WITH THE SEED: THE CARDS: each row of YtmjpaaippilioaaDoorRows.lean that lists a variable, with what it lists TIED to the program's text (the seventh form; the later family's looks); each row that meets fmt, with fmt's text TOLD by the authors' own Lean function (tested against real Go, not proved from fmt's source: count such statements apart). THE CARD IS WHAT COUNTS. Prove the row's statement (the work); the ties are given (YtmjpaaippilioaaDoorTie.lean); close each card by the builder's one call (the guide's Derived/Test/ToyasCard.lean, 'card_holds'). Laid BY PROGRAM, IN A SANDBOX (cutbox-door.mjs). By AI agents, Wed Nov 11 2026. No macro, syntax, notation, axiom, sorry.
-/
import Derived.Test.YtmjpaaippilioaaDoorRows
import GoSem.ClaimSeven
namespace Go.Proofs.YtmjpaaippilioaaDoor
namespace Rows

/-- THE TIED CARD OF 'laybylaw01.MarksWord'. -/
def marksWordCard : Claim7 := { stood := { row := marksWordRow, standIns := [], harness := (true, "02a351cab46c9125c2677de3ac3ad8026349e1f74dc5b7befc8c212fd758541e"), looks := false }, kinds := [], alts := [], laidByText := true, laidKinds := [.data, .data, .data, .widerDeep, .widerDeep, .widerDeep], laidTests := true, laidLooks := .later }
def MarksWordCardSaid : Prop := Claim7.holds Tryd.pinned (.plain (OpenSpec.ofChange marksWordSpec)) marksWordCard

/-- THE TIED CARD OF 'laybylaw01.MarksText'. -/
def marksTextCard : Claim7 := { stood := { row := marksTextRow, standIns := [], harness := (true, "02a351cab46c9125c2677de3ac3ad8026349e1f74dc5b7befc8c212fd758541e"), looks := false }, kinds := [], alts := [], laidByText := true, laidKinds := [.data, .data, .data, .widerDeep, .widerDeep, .widerDeep], laidTests := true, laidLooks := .later }
def MarksTextCardSaid : Prop := Claim7.holds Tryd.pinned (.plain (OpenSpec.ofChange marksTextSpec)) marksTextCard

/-- THE TIED CARD OF 'laybylaw01.MarksBack'. -/
def marksBackCard : Claim7 := { stood := { row := marksBackRow, standIns := [], harness := (true, "02a351cab46c9125c2677de3ac3ad8026349e1f74dc5b7befc8c212fd758541e"), looks := false }, kinds := [], alts := [], laidByText := true, laidKinds := [.data, .data, .data, .widerDeep, .widerDeep, .widerDeep], laidTests := true, laidLooks := .later }
def MarksBackCardSaid : Prop := Claim7.holds Tryd.pinned (.plain (OpenSpec.ofChange marksBackSpec)) marksBackCard

/-- THE TIED CARD OF 'laybylaw01.MarksRw'. -/
def marksRwCard : Claim7 := { stood := { row := marksRwRow, standIns := [], harness := (true, "02a351cab46c9125c2677de3ac3ad8026349e1f74dc5b7befc8c212fd758541e"), looks := false }, kinds := [], alts := [], laidByText := true, laidKinds := [.data, .data, .data, .widerDeep, .widerDeep, .widerDeep], laidTests := true, laidLooks := .later }
def MarksRwCardSaid : Prop := Claim7.holds Tryd.pinned (.plain (OpenSpec.ofChange marksRwSpec)) marksRwCard

/-- THE TIED CARD OF 'laybylaw01.MarksReaders'. -/
def marksReadersCard : Claim7 := { stood := { row := marksReadersRow, standIns := [], harness := (true, "02a351cab46c9125c2677de3ac3ad8026349e1f74dc5b7befc8c212fd758541e"), looks := false }, kinds := [], alts := [], laidByText := true, laidKinds := [.data, .data, .data, .widerDeep, .widerDeep, .widerDeep], laidTests := true, laidLooks := .later }
def MarksReadersCardSaid : Prop := Claim7.holds Tryd.pinned (.plain (OpenSpec.ofChange marksReadersSpec)) marksReadersCard

/-- THE TIED CARD OF 'laybylaw34.ProgramsTidy'. -/
def programsTidyCard : Claim7 := { stood := { row := programsTidyRow, standIns := [], harness := (true, "02a351cab46c9125c2677de3ac3ad8026349e1f74dc5b7befc8c212fd758541e"), looks := false }, kinds := [], alts := [], laidByText := true, laidKinds := [.data, .data, .data, .data, .data], laidTests := true, laidLooks := .later }
def ProgramsTidyCardSaid : Prop := Claim7.holds Tryd.pinned (.plain (OpenSpec.ofChange programsTidySpec)) programsTidyCard

/-- THE TIED CARD OF 'laybylaw34.ProgramsJoin'. -/
def programsJoinCard : Claim7 := { stood := { row := programsJoinRow, standIns := [], harness := (true, "02a351cab46c9125c2677de3ac3ad8026349e1f74dc5b7befc8c212fd758541e"), looks := false }, kinds := [], alts := [], laidByText := true, laidKinds := [.data, .data, .data, .data, .data], laidTests := true, laidLooks := .later }
def ProgramsJoinCardSaid : Prop := Claim7.holds Tryd.pinned (.plain (OpenSpec.ofChange programsJoinSpec)) programsJoinCard

/-- THE TIED CARD OF 'laybylaw34.ProgramsChoose'. -/
def programsChooseCard : Claim7 := { stood := { row := programsChooseRow, standIns := [], harness := (true, "02a351cab46c9125c2677de3ac3ad8026349e1f74dc5b7befc8c212fd758541e"), looks := false }, kinds := [], alts := [], laidByText := true, laidKinds := [.data, .data, .data, .data, .data], laidTests := true, laidLooks := .later }
def ProgramsChooseCardSaid : Prop := Claim7.holds Tryd.pinned (.plain (OpenSpec.ofChange programsChooseSpec)) programsChooseCard

/-- THE TIED CARD OF 'laybylaw34.ProgramsFilter'. -/
def programsFilterCard : Claim7 := { stood := { row := programsFilterRow, standIns := [], harness := (true, "02a351cab46c9125c2677de3ac3ad8026349e1f74dc5b7befc8c212fd758541e"), looks := false }, kinds := [], alts := [], laidByText := true, laidKinds := [.data, .data, .data, .data, .data], laidTests := true, laidLooks := .later }
def ProgramsFilterCardSaid : Prop := Claim7.holds Tryd.pinned (.plain (OpenSpec.ofChange programsFilterSpec)) programsFilterCard

/-- THE TIED CARD OF 'laybylaw34.ProgramsParse'. -/
def programsParseCard : Claim7 := { stood := { row := programsParseRow, standIns := [], harness := (true, "02a351cab46c9125c2677de3ac3ad8026349e1f74dc5b7befc8c212fd758541e"), looks := false }, kinds := [], alts := [], laidByText := true, laidKinds := [.data, .data, .data, .data, .data], laidTests := true, laidLooks := .later }
def ProgramsParseCardSaid : Prop := Claim7.holds Tryd.pinned (.plain (OpenSpec.ofChange programsParseSpec)) programsParseCard

/-- THE TIED CARD OF 'laybylaw34.ProgramsTurns'. -/
def programsTurnsCard : Claim7 := { stood := { row := programsTurnsRow, standIns := [], harness := (true, "02a351cab46c9125c2677de3ac3ad8026349e1f74dc5b7befc8c212fd758541e"), looks := false }, kinds := [], alts := [], laidByText := true, laidKinds := [.data, .data, .data, .data, .data], laidTests := true, laidLooks := .later }
def ProgramsTurnsCardSaid : Prop := Claim7.holds Tryd.pinned (.plain (OpenSpec.ofChange programsTurnsSpec)) programsTurnsCard

/-- THE TIED CARD OF 'laybylaw34.ProgramsAny'. -/
def programsAnyCard : Claim7 := { stood := { row := programsAnyRow, standIns := [], harness := (true, "02a351cab46c9125c2677de3ac3ad8026349e1f74dc5b7befc8c212fd758541e"), looks := false }, kinds := [], alts := [], laidByText := true, laidKinds := [.data, .data, .data, .data, .data], laidTests := true, laidLooks := .later }
def ProgramsAnyCardSaid : Prop := Claim7.holds Tryd.pinned (.plain (OpenSpec.ofChange programsAnySpec)) programsAnyCard

/-- THE SECOND FORM's CARD OF 'laybylaw01.MarksWord'. -/
def marksWordUptoCard : Claim7 := { stood := { row := marksWordUptoRow, standIns := [], harness := (true, "02a351cab46c9125c2677de3ac3ad8026349e1f74dc5b7befc8c212fd758541e"), looks := false }, kinds := [], alts := [], laidByText := true, laidKinds := [.data, .data, .data, .widerDeep, .widerDeep, .widerDeep], laidTests := true, laidLooks := .later }
def MarksWordUptoCardSaid : Prop := Claim7.holds Tryd.pinned (.plain (OpenSpec.upto marksWordSpec)) marksWordUptoCard

/-- THE SECOND FORM's CARD OF 'laybylaw01.MarksText'. -/
def marksTextUptoCard : Claim7 := { stood := { row := marksTextUptoRow, standIns := [], harness := (true, "02a351cab46c9125c2677de3ac3ad8026349e1f74dc5b7befc8c212fd758541e"), looks := false }, kinds := [], alts := [], laidByText := true, laidKinds := [.data, .data, .data, .widerDeep, .widerDeep, .widerDeep], laidTests := true, laidLooks := .later }
def MarksTextUptoCardSaid : Prop := Claim7.holds Tryd.pinned (.plain (OpenSpec.upto marksTextSpec)) marksTextUptoCard

/-- THE SECOND FORM's CARD OF 'laybylaw01.MarksBack'. -/
def marksBackUptoCard : Claim7 := { stood := { row := marksBackUptoRow, standIns := [], harness := (true, "02a351cab46c9125c2677de3ac3ad8026349e1f74dc5b7befc8c212fd758541e"), looks := false }, kinds := [], alts := [], laidByText := true, laidKinds := [.data, .data, .data, .widerDeep, .widerDeep, .widerDeep], laidTests := true, laidLooks := .later }
def MarksBackUptoCardSaid : Prop := Claim7.holds Tryd.pinned (.plain (OpenSpec.upto marksBackSpec)) marksBackUptoCard

/-- THE SECOND FORM's CARD OF 'laybylaw01.MarksRw'. -/
def marksRwUptoCard : Claim7 := { stood := { row := marksRwUptoRow, standIns := [], harness := (true, "02a351cab46c9125c2677de3ac3ad8026349e1f74dc5b7befc8c212fd758541e"), looks := false }, kinds := [], alts := [], laidByText := true, laidKinds := [.data, .data, .data, .widerDeep, .widerDeep, .widerDeep], laidTests := true, laidLooks := .later }
def MarksRwUptoCardSaid : Prop := Claim7.holds Tryd.pinned (.plain (OpenSpec.upto marksRwSpec)) marksRwUptoCard

/-- THE SECOND FORM's CARD OF 'laybylaw01.MarksReaders'. -/
def marksReadersUptoCard : Claim7 := { stood := { row := marksReadersUptoRow, standIns := [], harness := (true, "02a351cab46c9125c2677de3ac3ad8026349e1f74dc5b7befc8c212fd758541e"), looks := false }, kinds := [], alts := [], laidByText := true, laidKinds := [.data, .data, .data, .widerDeep, .widerDeep, .widerDeep], laidTests := true, laidLooks := .later }
def MarksReadersUptoCardSaid : Prop := Claim7.holds Tryd.pinned (.plain (OpenSpec.upto marksReadersSpec)) marksReadersUptoCard

/-- THE SECOND FORM's CARD OF 'laybylaw34.ProgramsTidy'. -/
def programsTidyUptoCard : Claim7 := { stood := { row := programsTidyUptoRow, standIns := [], harness := (true, "02a351cab46c9125c2677de3ac3ad8026349e1f74dc5b7befc8c212fd758541e"), looks := false }, kinds := [], alts := [], laidByText := true, laidKinds := [.data, .data, .data, .data, .data], laidTests := true, laidLooks := .later }
def ProgramsTidyUptoCardSaid : Prop := Claim7.holds Tryd.pinned (.plain (OpenSpec.upto programsTidySpec)) programsTidyUptoCard

/-- THE SECOND FORM's CARD OF 'laybylaw34.ProgramsJoin'. -/
def programsJoinUptoCard : Claim7 := { stood := { row := programsJoinUptoRow, standIns := [], harness := (true, "02a351cab46c9125c2677de3ac3ad8026349e1f74dc5b7befc8c212fd758541e"), looks := false }, kinds := [], alts := [], laidByText := true, laidKinds := [.data, .data, .data, .data, .data], laidTests := true, laidLooks := .later }
def ProgramsJoinUptoCardSaid : Prop := Claim7.holds Tryd.pinned (.plain (OpenSpec.upto programsJoinSpec)) programsJoinUptoCard

/-- THE SECOND FORM's CARD OF 'laybylaw34.ProgramsChoose'. -/
def programsChooseUptoCard : Claim7 := { stood := { row := programsChooseUptoRow, standIns := [], harness := (true, "02a351cab46c9125c2677de3ac3ad8026349e1f74dc5b7befc8c212fd758541e"), looks := false }, kinds := [], alts := [], laidByText := true, laidKinds := [.data, .data, .data, .data, .data], laidTests := true, laidLooks := .later }
def ProgramsChooseUptoCardSaid : Prop := Claim7.holds Tryd.pinned (.plain (OpenSpec.upto programsChooseSpec)) programsChooseUptoCard

/-- THE SECOND FORM's CARD OF 'laybylaw34.ProgramsFilter'. -/
def programsFilterUptoCard : Claim7 := { stood := { row := programsFilterUptoRow, standIns := [], harness := (true, "02a351cab46c9125c2677de3ac3ad8026349e1f74dc5b7befc8c212fd758541e"), looks := false }, kinds := [], alts := [], laidByText := true, laidKinds := [.data, .data, .data, .data, .data], laidTests := true, laidLooks := .later }
def ProgramsFilterUptoCardSaid : Prop := Claim7.holds Tryd.pinned (.plain (OpenSpec.upto programsFilterSpec)) programsFilterUptoCard

/-- THE SECOND FORM's CARD OF 'laybylaw34.ProgramsParse'. -/
def programsParseUptoCard : Claim7 := { stood := { row := programsParseUptoRow, standIns := [], harness := (true, "02a351cab46c9125c2677de3ac3ad8026349e1f74dc5b7befc8c212fd758541e"), looks := false }, kinds := [], alts := [], laidByText := true, laidKinds := [.data, .data, .data, .data, .data], laidTests := true, laidLooks := .later }
def ProgramsParseUptoCardSaid : Prop := Claim7.holds Tryd.pinned (.plain (OpenSpec.upto programsParseSpec)) programsParseUptoCard

/-- THE SECOND FORM's CARD OF 'laybylaw34.ProgramsTurns'. -/
def programsTurnsUptoCard : Claim7 := { stood := { row := programsTurnsUptoRow, standIns := [], harness := (true, "02a351cab46c9125c2677de3ac3ad8026349e1f74dc5b7befc8c212fd758541e"), looks := false }, kinds := [], alts := [], laidByText := true, laidKinds := [.data, .data, .data, .data, .data], laidTests := true, laidLooks := .later }
def ProgramsTurnsUptoCardSaid : Prop := Claim7.holds Tryd.pinned (.plain (OpenSpec.upto programsTurnsSpec)) programsTurnsUptoCard

/-- THE SECOND FORM's CARD OF 'laybylaw34.ProgramsAny'. -/
def programsAnyUptoCard : Claim7 := { stood := { row := programsAnyUptoRow, standIns := [], harness := (true, "02a351cab46c9125c2677de3ac3ad8026349e1f74dc5b7befc8c212fd758541e"), looks := false }, kinds := [], alts := [], laidByText := true, laidKinds := [.data, .data, .data, .data, .data], laidTests := true, laidLooks := .later }
def ProgramsAnyUptoCardSaid : Prop := Claim7.holds Tryd.pinned (.plain (OpenSpec.upto programsAnySpec)) programsAnyUptoCard
end Rows
end Go.Proofs.YtmjpaaippilioaaDoor

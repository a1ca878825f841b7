/-
  NARROWER THAN 'FOR EVERY INPUT', by the rows' own cells (each row's printed sentence says how): NotesKinds: laid · NotesPlay: laid · NotesSince: laid · NotesNames: laid.
  DERIVED. THE GIVEN ROWS OF THIS SEAT. 4 by the template 'for every input the law returns true; each argument reads behind the call as it read before'; 0 by the template 'total and deterministic' (their statements: YtllicaibgjjidaaDoorTotals.lean).
  GIVEN WITH THE SEED: the statements are not yours to turn. If you find one false, say at which input.
  Laid BY PROGRAM, IN A SANDBOX (cutbox-rows.mjs): the forced cells as the released guide's own fill.sh prints them over the translation 33104d6984730574… (all of the seat's roots in one cut). By AI agents, Wed Nov 11 2026. No macro, syntax, notation, axiom, sorry.
-/
import Derived.Test.YtllicaibgjjidaaDoorChecked
import GoSem.Claim
import GoSem.ClaimJoined
import GoSem.ClaimMapViews
import Derived.JoinedTies
import Derived.KernelRfl
namespace Go.Proofs.YtllicaibgjjidaaDoor
/- THE CELL 'sum', in the pinned program and in every row, IS THE sha256 OF THE DUMP (.gsa) THAT YtllicaibgjjidaaDoorProg.lean LOADS. Nothing in Lean hashes anything: it is a label: what it is worth is what the hold of that sum in a sandbox is worth. -/
noncomputable def Tryd.pinned : Pinned := { name := "ytllicaibgjjidaadoor", sum := "33104d6984730574b79ec4641f4c3e9e5a03e5d291b8ff505d17e360ca68fc9f", checked := Tryd.checked }
namespace Rows
def none {H : Type} : Left H := { results := [], args := [] }

/- WHAT THE LISTED PACKAGE-LEVEL VARIABLES READ AS WHEN THE CALL BEGINS. Each datum BY PROGRAM (the guide's laid-datum.mjs) off the statement by which the dump's own 'gosem.cut.vars' lays the variable. In a bare row this is a premise. The card (YtllicaibgjjidaaDoorCards.lean) ties it to the program's text. -/
def laid_layby_notes_names {H : Type} : DataW H := .agg [.lit (.string []), .lit (.string [112, 97, 114, 107]), .lit (.string [116, 97, 107, 101]), .lit (.string [112, 105, 99, 107]), .lit (.string [109, 111, 118, 101]), .lit (.string [103, 111, 110, 101]), .lit (.string []), .lit (.string []), .lit (.string []), .lit (.string []), .lit (.string []), .lit (.string []), .lit (.string []), .lit (.string []), .lit (.string []), .lit (.string []), .lit (.string [108, 111, 99, 107]), .lit (.string [102, 114, 101, 101]), .lit (.string [104, 97, 110, 100]), .lit (.string [98, 117, 115, 121]), .lit (.string [108, 97, 116, 101]), .lit (.string [114, 101, 97, 100]), .lit (.string [117, 112, 103, 114]), .lit (.string [99, 108, 97, 105, 109]), .lit (.string [119, 114, 105, 116, 101]), .lit (.string [117, 110, 114, 101, 97, 100]), .lit (.string [117, 110, 117, 112, 103, 114]), .lit (.string [117, 110, 99, 108, 97, 105, 109]), .lit (.string [117, 110, 119, 114, 105, 116, 101]), .lit (.string [119, 97, 105, 116]), .lit (.string [119, 97, 107, 101]), .lit (.string [103, 105, 118, 101]), .lit (.string [110, 111, 98, 111, 100, 121]), .lit (.string [98, 101, 103, 105, 110]), .lit (.string [101, 110, 100]), .lit (.string [102, 97, 105, 108]), .lit (.string [100, 111, 110, 101]), .lit (.string [115, 105, 99, 107])]

/-- 'laybylaw11.NotesKinds': WHATEVER THE INPUT: true; the input reads as it did. -/
def notesKindsSpec : ChangeSpec := { name := "notesKinds", fn := fun _ => fun
  | [d1, d2] => { results := [.lit (.bool true)], args := [d1, d2] }
  | _ => none }
def notesKindsRow : OpenClaim := { program := "ytllicaibgjjidaadoor", sum := "33104d6984730574b79ec4641f4c3e9e5a03e5d291b8ff505d17e360ca68fc9f", func := "layby/laybylaw11.NotesKinds", spec := "notesKinds", named := ["layby/notes.names"], apart := false, laid := [("layby/notes.names", laid_layby_notes_names)] }
def NotesKindsSaid : Prop := notesKindsRow.holds Tryd.pinned (OpenSpec.ofChange notesKindsSpec)

/-- ITS FALSE NEIGHBOUR: 'it returns false'. Refute it at one input. -/
def notesKindsWrong : ChangeSpec := { name := "notesKinds", fn := fun _ => fun
  | [d1, d2] => { results := [.lit (.bool false)], args := [d1, d2] }
  | _ => none }
def NotesKindsWrongFalsely : Prop := notesKindsRow.holds Tryd.pinned (OpenSpec.ofChange notesKindsWrong)

/-- 'laybylaw11.NotesPlay': WHATEVER THE INPUT: true; the input reads as it did. -/
def notesPlaySpec : ChangeSpec := { name := "notesPlay", fn := fun _ => fun
  | [d1, d2] => { results := [.lit (.bool true)], args := [d1, d2] }
  | _ => none }
def notesPlayRow : OpenClaim := { program := "ytllicaibgjjidaadoor", sum := "33104d6984730574b79ec4641f4c3e9e5a03e5d291b8ff505d17e360ca68fc9f", func := "layby/laybylaw11.NotesPlay", spec := "notesPlay", named := ["layby/notes.names"], apart := false, laid := [("layby/notes.names", laid_layby_notes_names)] }
def NotesPlaySaid : Prop := notesPlayRow.holds Tryd.pinned (OpenSpec.ofChange notesPlaySpec)

/-- ITS FALSE NEIGHBOUR: 'it returns false'. Refute it at one input. -/
def notesPlayWrong : ChangeSpec := { name := "notesPlay", fn := fun _ => fun
  | [d1, d2] => { results := [.lit (.bool false)], args := [d1, d2] }
  | _ => none }
def NotesPlayWrongFalsely : Prop := notesPlayRow.holds Tryd.pinned (OpenSpec.ofChange notesPlayWrong)

/-- 'laybylaw11.NotesSince': WHATEVER THE INPUT: true; the input reads as it did. -/
def notesSinceSpec : ChangeSpec := { name := "notesSince", fn := fun _ => fun
  | [d1, d2] => { results := [.lit (.bool true)], args := [d1, d2] }
  | _ => none }
def notesSinceRow : OpenClaim := { program := "ytllicaibgjjidaadoor", sum := "33104d6984730574b79ec4641f4c3e9e5a03e5d291b8ff505d17e360ca68fc9f", func := "layby/laybylaw11.NotesSince", spec := "notesSince", named := ["layby/notes.names"], apart := false, laid := [("layby/notes.names", laid_layby_notes_names)] }
def NotesSinceSaid : Prop := notesSinceRow.holds Tryd.pinned (OpenSpec.ofChange notesSinceSpec)

/-- ITS FALSE NEIGHBOUR: 'it returns false'. Refute it at one input. -/
def notesSinceWrong : ChangeSpec := { name := "notesSince", fn := fun _ => fun
  | [d1, d2] => { results := [.lit (.bool false)], args := [d1, d2] }
  | _ => none }
def NotesSinceWrongFalsely : Prop := notesSinceRow.holds Tryd.pinned (OpenSpec.ofChange notesSinceWrong)

/-- 'laybylaw11.NotesNames': WHATEVER THE INPUT: true; the input reads as it did. -/
def notesNamesSpec : ChangeSpec := { name := "notesNames", fn := fun _ => fun
  | [d1, d2] => { results := [.lit (.bool true)], args := [d1, d2] }
  | _ => none }
def notesNamesRow : OpenClaim := { program := "ytllicaibgjjidaadoor", sum := "33104d6984730574b79ec4641f4c3e9e5a03e5d291b8ff505d17e360ca68fc9f", func := "layby/laybylaw11.NotesNames", spec := "notesNames", named := ["layby/notes.names"], apart := false, laid := [("layby/notes.names", laid_layby_notes_names)] }
def NotesNamesSaid : Prop := notesNamesRow.holds Tryd.pinned (OpenSpec.ofChange notesNamesSpec)

/-- ITS FALSE NEIGHBOUR: 'it returns false'. Refute it at one input. -/
def notesNamesWrong : ChangeSpec := { name := "notesNames", fn := fun _ => fun
  | [d1, d2] => { results := [.lit (.bool false)], args := [d1, d2] }
  | _ => none }
def NotesNamesWrongFalsely : Prop := notesNamesRow.holds Tryd.pinned (OpenSpec.ofChange notesNamesWrong)

/- THE SECOND FORM. 'bulk': how many values and letters a reading holds, each counted each time it is reached (what is shared counts as often as it is met; a slice's spare places count too). A statement '..UptoSaid' is the law's where the arguments, and the package variables that the reading takes, are together of bulk at most 1048576: NARROWER than '..Said'. Prove '..Said' where nothing that the law and all that it calls make is longer than what came in: it says more and counts as full. Else prove '..UptoSaid'. A law counts once. -/
mutual
def uptoBulk {H : Type} : DataW H → Nat
  | .lit (.string bytes) => bytes.length + 1
  | .lit _ => 1
  | .nil => 1
  | .ptr d => uptoBulk d + 1
  | .slice elems spare => uptoBulkAll elems + uptoBulkAll spare + 1
  | .agg parts => uptoBulkAll parts + 1
  | .iface _ d => uptoBulk d + 1
  | .map entries => uptoBulkEntries entries + 1
  | .held _ => 1
def uptoBulkAll {H : Type} : List (DataW H) → Nat
  | [] => 0
  | d :: r => uptoBulk d + uptoBulkAll r
def uptoBulkEntries {H : Type} : List (Lit × DataW H) → Nat
  | [] => 0
  | x :: r => uptoBulkEntry x + uptoBulkEntries r
def uptoBulkEntry {H : Type} : Lit × DataW H → Nat
  | (.string bytes, d) => bytes.length + uptoBulk d + 1
  | (_, d) => uptoBulk d + 1
 end
def uptoSmall : (H : Type) → List (DataW H) → Bool := fun _ ds => decide (uptoBulkAll ds ≤ 1048576)
def OpenSpec.upto (s : _root_.Go.ChangeSpec) : _root_.Go.OpenSpec := { _root_.Go.OpenSpec.ofChange s with cond := some uptoSmall }

/-- 'laybylaw11.NotesKinds', WHERE WHAT IT READS IS OF BULK AT MOST 1048576: true; the input reads as it did. -/
def notesKindsUptoRow : OpenClaim := { program := "ytllicaibgjjidaadoor", sum := "33104d6984730574b79ec4641f4c3e9e5a03e5d291b8ff505d17e360ca68fc9f", func := "layby/laybylaw11.NotesKinds", spec := "notesKinds", named := ["layby/notes.names"], apart := false, laid := [("layby/notes.names", laid_layby_notes_names)], narrowed := true }
def NotesKindsUptoSaid : Prop := notesKindsUptoRow.holds Tryd.pinned (OpenSpec.upto notesKindsSpec)

/-- 'laybylaw11.NotesPlay', WHERE WHAT IT READS IS OF BULK AT MOST 1048576: true; the input reads as it did. -/
def notesPlayUptoRow : OpenClaim := { program := "ytllicaibgjjidaadoor", sum := "33104d6984730574b79ec4641f4c3e9e5a03e5d291b8ff505d17e360ca68fc9f", func := "layby/laybylaw11.NotesPlay", spec := "notesPlay", named := ["layby/notes.names"], apart := false, laid := [("layby/notes.names", laid_layby_notes_names)], narrowed := true }
def NotesPlayUptoSaid : Prop := notesPlayUptoRow.holds Tryd.pinned (OpenSpec.upto notesPlaySpec)

/-- 'laybylaw11.NotesSince', WHERE WHAT IT READS IS OF BULK AT MOST 1048576: true; the input reads as it did. -/
def notesSinceUptoRow : OpenClaim := { program := "ytllicaibgjjidaadoor", sum := "33104d6984730574b79ec4641f4c3e9e5a03e5d291b8ff505d17e360ca68fc9f", func := "layby/laybylaw11.NotesSince", spec := "notesSince", named := ["layby/notes.names"], apart := false, laid := [("layby/notes.names", laid_layby_notes_names)], narrowed := true }
def NotesSinceUptoSaid : Prop := notesSinceUptoRow.holds Tryd.pinned (OpenSpec.upto notesSinceSpec)

/-- 'laybylaw11.NotesNames', WHERE WHAT IT READS IS OF BULK AT MOST 1048576: true; the input reads as it did. -/
def notesNamesUptoRow : OpenClaim := { program := "ytllicaibgjjidaadoor", sum := "33104d6984730574b79ec4641f4c3e9e5a03e5d291b8ff505d17e360ca68fc9f", func := "layby/laybylaw11.NotesNames", spec := "notesNames", named := ["layby/notes.names"], apart := false, laid := [("layby/notes.names", laid_layby_notes_names)], narrowed := true }
def NotesNamesUptoSaid : Prop := notesNamesUptoRow.holds Tryd.pinned (OpenSpec.upto notesNamesSpec)

end Rows
end Go.Proofs.YtllicaibgjjidaaDoor

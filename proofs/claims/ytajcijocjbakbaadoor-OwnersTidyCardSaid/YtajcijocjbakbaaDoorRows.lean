/-
  NARROWER THAN 'FOR EVERY INPUT', by the rows' own cells (each row's printed sentence says how): OwnersOnce: laid · OwnersTidy: laid.
  DERIVED. THE GIVEN ROWS OF THIS SEAT. 2 by the template 'for every input the law returns true; each argument reads behind the call as it read before'; 0 by the template 'total and deterministic' (their statements: YtajcijocjbakbaaDoorTotals.lean).
  GIVEN WITH THE SEED: the statements are not yours to turn. If you find one false, say at which input.
  Laid BY PROGRAM, IN A SANDBOX (cutbox-rows.mjs): the forced cells as the released guide's own fill.sh prints them over the translation cec5939a20be8cbd… (all of the seat's roots in one cut). By AI agents, Wed Nov 11 2026. No macro, syntax, notation, axiom, sorry.
-/
import Derived.Test.YtajcijocjbakbaaDoorChecked
import GoSem.Claim
import GoSem.ClaimJoined
import GoSem.ClaimMapViews
import Derived.JoinedTies
import Derived.KernelRfl
namespace Go.Proofs.YtajcijocjbakbaaDoor
/- THE CELL 'sum', in the pinned program and in every row, IS THE sha256 OF THE DUMP (.gsa) THAT YtajcijocjbakbaaDoorProg.lean LOADS. Nothing in Lean hashes anything: it is a label: what it is worth is what the hold of that sum in a sandbox is worth. -/
noncomputable def Tryd.pinned : Pinned := { name := "ytajcijocjbakbaadoor", sum := "cec5939a20be8cbd69f0d855ec36ec11324b77e2a31909cd171c8ea31e2718f9", checked := Tryd.checked }
namespace Rows
def none {H : Type} : Left H := { results := [], args := [] }

/- WHAT THE LISTED PACKAGE-LEVEL VARIABLES READ AS WHEN THE CALL BEGINS. Each datum BY PROGRAM (the guide's laid-datum.mjs) off the statement by which the dump's own 'gosem.cut.vars' lays the variable. In a bare row this is a premise. The card (YtajcijocjbakbaaDoorCards.lean) ties it to the program's text. -/
def laid_layby_programs_uses {H : Type} : DataW H := .agg [.agg [.lit (.string [108, 111, 99, 107]), .lit (.int .u32 1024), .lit (.int .u32 0), .lit (.bool true), .lit (.string []), .lit (.bool false), .lit (.int .i64 0)], .agg [.lit (.string [116, 114, 121]), .lit (.int .u32 1024), .lit (.int .u32 0), .lit (.bool false), .lit (.string []), .lit (.bool false), .lit (.int .i64 0)], .agg [.lit (.string [117, 110, 108, 111, 99, 107]), .lit (.int .u32 1024), .lit (.int .u32 0), .lit (.bool false), .lit (.string [102, 97, 105, 114]), .lit (.bool false), .lit (.int .i64 0)], .agg [.lit (.string [114, 101, 97, 100]), .lit (.int .u32 1056), .lit (.int .u32 0), .lit (.bool true), .lit (.string []), .lit (.bool false), .lit (.int .i64 0)], .agg [.lit (.string [116, 114, 121, 114, 101, 97, 100]), .lit (.int .u32 1056), .lit (.int .u32 0), .lit (.bool false), .lit (.string []), .lit (.bool false), .lit (.int .i64 0)], .agg [.lit (.string [117, 110, 114, 101, 97, 100]), .lit (.int .u32 1056), .lit (.int .u32 0), .lit (.bool false), .lit (.string []), .lit (.bool false), .lit (.int .i64 0)], .agg [.lit (.string [117, 112, 103, 114]), .lit (.int .u32 1056), .lit (.int .u32 0), .lit (.bool true), .lit (.string []), .lit (.bool false), .lit (.int .i64 0)], .agg [.lit (.string [116, 114, 121, 117, 112, 103, 114]), .lit (.int .u32 1056), .lit (.int .u32 0), .lit (.bool false), .lit (.string []), .lit (.bool false), .lit (.int .i64 0)], .agg [.lit (.string [117, 110, 117, 112, 103, 114]), .lit (.int .u32 1056), .lit (.int .u32 0), .lit (.bool false), .lit (.string [102, 97, 105, 114]), .lit (.bool false), .lit (.int .i64 0)], .agg [.lit (.string [119, 114, 105, 116, 101]), .lit (.int .u32 1056), .lit (.int .u32 0), .lit (.bool true), .lit (.string []), .lit (.bool false), .lit (.int .i64 0)], .agg [.lit (.string [116, 114, 121, 119, 114, 105, 116, 101]), .lit (.int .u32 1056), .lit (.int .u32 0), .lit (.bool false), .lit (.string []), .lit (.bool false), .lit (.int .i64 0)], .agg [.lit (.string [117, 110, 119, 114, 105, 116, 101]), .lit (.int .u32 1056), .lit (.int .u32 0), .lit (.bool false), .lit (.string [102, 97, 105, 114]), .lit (.bool false), .lit (.int .i64 0)], .agg [.lit (.string [117, 112]), .lit (.int .u32 1056), .lit (.int .u32 0), .lit (.bool true), .lit (.string []), .lit (.bool false), .lit (.int .i64 0)], .agg [.lit (.string [116, 114, 121, 117, 112]), .lit (.int .u32 1056), .lit (.int .u32 0), .lit (.bool false), .lit (.string []), .lit (.bool false), .lit (.int .i64 0)], .agg [.lit (.string [100, 111, 119, 110]), .lit (.int .u32 1056), .lit (.int .u32 0), .lit (.bool false), .lit (.string []), .lit (.bool false), .lit (.int .i64 0)], .agg [.lit (.string [115, 111, 102, 116]), .lit (.int .u32 1056), .lit (.int .u32 0), .lit (.bool false), .lit (.string []), .lit (.bool false), .lit (.int .i64 0)], .agg [.lit (.string [108, 111, 111, 115, 101]), .lit (.int .u32 1056), .lit (.int .u32 0), .lit (.bool false), .lit (.string []), .lit (.bool false), .lit (.int .i64 0)], .agg [.lit (.string [119, 97, 105, 116]), .lit (.int .u32 1088), .lit (.int .u32 1024), .lit (.bool true), .lit (.string []), .lit (.bool false), .lit (.int .i64 0)], .agg [.lit (.string [110, 111, 116, 105, 102, 121]), .lit (.int .u32 1088), .lit (.int .u32 0), .lit (.bool false), .lit (.string []), .lit (.bool false), .lit (.int .i64 0)], .agg [.lit (.string [110, 111, 116, 105, 102, 121, 97, 108, 108]), .lit (.int .u32 1088), .lit (.int .u32 0), .lit (.bool false), .lit (.string []), .lit (.bool false), .lit (.int .i64 0)], .agg [.lit (.string [100, 111]), .lit (.int .u32 1120), .lit (.int .u32 0), .lit (.bool false), .lit (.string [102, 111, 114, 99, 101]), .lit (.bool true), .lit (.int .i64 16)], .agg [.lit (.string [112, 97, 114, 107]), .lit (.int .u32 1152), .lit (.int .u32 0), .lit (.bool true), .lit (.string []), .lit (.bool false), .lit (.int .i64 256)], .agg [.lit (.string [111, 110, 101]), .lit (.int .u32 1152), .lit (.int .u32 0), .lit (.bool false), .lit (.string []), .lit (.bool false), .lit (.int .i64 256)], .agg [.lit (.string [97, 108, 108]), .lit (.int .u32 1152), .lit (.int .u32 0), .lit (.bool false), .lit (.string []), .lit (.bool false), .lit (.int .i64 256)], .agg [.lit (.string [115, 111, 109, 101]), .lit (.int .u32 1152), .lit (.int .u32 0), .lit (.bool false), .lit (.string []), .lit (.bool false), .lit (.int .i64 256)], .agg [.lit (.string [114, 101, 113, 117, 101, 117, 101]), .lit (.int .u32 1152), .lit (.int .u32 1152), .lit (.bool false), .lit (.string []), .lit (.bool false), .lit (.int .i64 5)]]
def laid_layby_owners_asks {H : Type} : DataW H := .agg [.agg [.lit (.bool true), .lit (.int .u8 0), .lit (.int .u8 3), .lit (.int .i64 3), .lit (.bool false)], .agg [.lit (.bool true), .lit (.int .u8 0), .lit (.int .u8 3), .lit (.int .i64 3), .lit (.bool false)], .agg [.lit (.bool true), .lit (.int .u8 3), .lit (.int .u8 0), .lit (.int .i64 4), .lit (.bool false)], .agg [.lit (.bool true), .lit (.int .u8 0), .lit (.int .u8 1), .lit (.int .i64 3), .lit (.bool false)], .agg [.lit (.bool true), .lit (.int .u8 0), .lit (.int .u8 1), .lit (.int .i64 3), .lit (.bool false)], .agg [.lit (.bool true), .lit (.int .u8 1), .lit (.int .u8 0), .lit (.int .i64 4), .lit (.bool false)], .agg [.lit (.bool true), .lit (.int .u8 0), .lit (.int .u8 2), .lit (.int .i64 3), .lit (.bool false)], .agg [.lit (.bool true), .lit (.int .u8 0), .lit (.int .u8 2), .lit (.int .i64 3), .lit (.bool false)], .agg [.lit (.bool true), .lit (.int .u8 2), .lit (.int .u8 0), .lit (.int .i64 4), .lit (.bool false)], .agg [.lit (.bool true), .lit (.int .u8 0), .lit (.int .u8 3), .lit (.int .i64 3), .lit (.bool false)], .agg [.lit (.bool true), .lit (.int .u8 0), .lit (.int .u8 3), .lit (.int .i64 3), .lit (.bool false)], .agg [.lit (.bool true), .lit (.int .u8 3), .lit (.int .u8 0), .lit (.int .i64 4), .lit (.bool false)], .agg [.lit (.bool true), .lit (.int .u8 2), .lit (.int .u8 3), .lit (.int .i64 4), .lit (.bool false)], .agg [.lit (.bool true), .lit (.int .u8 2), .lit (.int .u8 3), .lit (.int .i64 4), .lit (.bool false)], .agg [.lit (.bool true), .lit (.int .u8 3), .lit (.int .u8 1), .lit (.int .i64 4), .lit (.bool false)], .agg [.lit (.bool true), .lit (.int .u8 3), .lit (.int .u8 2), .lit (.int .i64 4), .lit (.bool false)], .agg [.lit (.bool true), .lit (.int .u8 2), .lit (.int .u8 1), .lit (.int .i64 4), .lit (.bool false)], .agg [.lit (.bool true), .lit (.int .u8 3), .lit (.int .u8 3), .lit (.int .i64 4), .lit (.bool true)], .agg [.lit (.bool false), .lit (.int .u8 0), .lit (.int .u8 0), .lit (.int .i64 0), .lit (.bool false)], .agg [.lit (.bool false), .lit (.int .u8 0), .lit (.int .u8 0), .lit (.int .i64 0), .lit (.bool false)], .agg [.lit (.bool false), .lit (.int .u8 0), .lit (.int .u8 0), .lit (.int .i64 0), .lit (.bool false)], .agg [.lit (.bool false), .lit (.int .u8 0), .lit (.int .u8 0), .lit (.int .i64 0), .lit (.bool false)], .agg [.lit (.bool false), .lit (.int .u8 0), .lit (.int .u8 0), .lit (.int .i64 0), .lit (.bool false)], .agg [.lit (.bool false), .lit (.int .u8 0), .lit (.int .u8 0), .lit (.int .i64 0), .lit (.bool false)], .agg [.lit (.bool false), .lit (.int .u8 0), .lit (.int .u8 0), .lit (.int .i64 0), .lit (.bool false)], .agg [.lit (.bool false), .lit (.int .u8 0), .lit (.int .u8 0), .lit (.int .i64 0), .lit (.bool false)]]
def laid_layby_programs_gives {H : Type} : DataW H := .agg [.agg [.lit (.int .u8 0), .lit (.int .u8 0)], .agg [.lit (.int .u8 0), .lit (.int .u8 0)], .agg [.lit (.int .u8 0), .lit (.int .u8 2)], .agg [.lit (.int .u8 0), .lit (.int .u8 0)], .agg [.lit (.int .u8 0), .lit (.int .u8 0)], .agg [.lit (.int .u8 3), .lit (.int .u8 5)], .agg [.lit (.int .u8 0), .lit (.int .u8 0)], .agg [.lit (.int .u8 0), .lit (.int .u8 0)], .agg [.lit (.int .u8 6), .lit (.int .u8 8)], .agg [.lit (.int .u8 0), .lit (.int .u8 0)], .agg [.lit (.int .u8 0), .lit (.int .u8 0)], .agg [.lit (.int .u8 9), .lit (.int .u8 11)], .agg [.lit (.int .u8 0), .lit (.int .u8 0)], .agg [.lit (.int .u8 0), .lit (.int .u8 0)], .agg [.lit (.int .u8 9), .lit (.int .u8 3)], .agg [.lit (.int .u8 9), .lit (.int .u8 6)], .agg [.lit (.int .u8 6), .lit (.int .u8 3)]]

/-- 'laybylaw35.OwnersOnce': WHATEVER THE INPUT: true; the input reads as it did. -/
def ownersOnceSpec : ChangeSpec := { name := "ownersOnce", fn := fun _ => fun
  | [d1, d2] => { results := [.lit (.bool true)], args := [d1, d2] }
  | _ => none }
def ownersOnceRow : OpenClaim := { program := "ytajcijocjbakbaadoor", sum := "cec5939a20be8cbd69f0d855ec36ec11324b77e2a31909cd171c8ea31e2718f9", func := "layby/laybylaw35.OwnersOnce", spec := "ownersOnce", recurses := true, named := ["layby/programs.uses", "layby/owners.asks"], plainKeys := false, apart := false, laid := [("layby/programs.uses", laid_layby_programs_uses), ("layby/owners.asks", laid_layby_owners_asks)] }
def OwnersOnceSaid : Prop := ownersOnceRow.holds Tryd.pinned (OpenSpec.ofChange ownersOnceSpec)

/-- ITS FALSE NEIGHBOUR: 'it returns false'. Refute it at one input. -/
def ownersOnceWrong : ChangeSpec := { name := "ownersOnce", fn := fun _ => fun
  | [d1, d2] => { results := [.lit (.bool false)], args := [d1, d2] }
  | _ => none }
def OwnersOnceWrongFalsely : Prop := ownersOnceRow.holds Tryd.pinned (OpenSpec.ofChange ownersOnceWrong)

/-- 'laybylaw35.OwnersTidy': WHATEVER THE INPUT: true; the input reads as it did. -/
def ownersTidySpec : ChangeSpec := { name := "ownersTidy", fn := fun _ => fun
  | [d1, d2, d3] => { results := [.lit (.bool true)], args := [d1, d2, d3] }
  | _ => none }
def ownersTidyRow : OpenClaim := { program := "ytajcijocjbakbaadoor", sum := "cec5939a20be8cbd69f0d855ec36ec11324b77e2a31909cd171c8ea31e2718f9", func := "layby/laybylaw35.OwnersTidy", spec := "ownersTidy", named := ["layby/programs.uses", "layby/owners.asks", "layby/programs.gives"], plainKeys := false, apart := false, laid := [("layby/programs.uses", laid_layby_programs_uses), ("layby/programs.gives", laid_layby_programs_gives), ("layby/owners.asks", laid_layby_owners_asks)] }
def OwnersTidySaid : Prop := ownersTidyRow.holds Tryd.pinned (OpenSpec.ofChange ownersTidySpec)

/-- ITS FALSE NEIGHBOUR: 'it returns false'. Refute it at one input. -/
def ownersTidyWrong : ChangeSpec := { name := "ownersTidy", fn := fun _ => fun
  | [d1, d2, d3] => { results := [.lit (.bool false)], args := [d1, d2, d3] }
  | _ => none }
def OwnersTidyWrongFalsely : Prop := ownersTidyRow.holds Tryd.pinned (OpenSpec.ofChange ownersTidyWrong)

/- THE SECOND FORM. 'bulk': how many values and letters a reading holds, each counted each time it is reached (what is shared counts as often as it is met; a slice's spare places count too). A statement '..UptoSaid' is the law's where the arguments, and the package variables that the reading takes, are together of bulk at most 1048576: NARROWER than '..Said'. Prove '..Said' where nothing that the law and all that it calls make is longer than what came in: it says more and counts as full. Else prove '..UptoSaid'. A law counts once. -/
mutual
def uptoBulk {H : Type} : DataW H → Nat
  | .lit (.string bytes) => bytes.length + 1
  | .lit _ => 1
  | .nil => 1
  | .ptr d => uptoBulk d + 1
  | .slice elems spare => uptoBulkAll elems + uptoBulkAll spare + 1
  | .agg parts => uptoBulkAll parts + 1
  | .iface _ d => uptoBulk d + 1
  | .map entries => uptoBulkEntries entries + 1
  | .held _ => 1
def uptoBulkAll {H : Type} : List (DataW H) → Nat
  | [] => 0
  | d :: r => uptoBulk d + uptoBulkAll r
def uptoBulkEntries {H : Type} : List (Lit × DataW H) → Nat
  | [] => 0
  | x :: r => uptoBulkEntry x + uptoBulkEntries r
def uptoBulkEntry {H : Type} : Lit × DataW H → Nat
  | (.string bytes, d) => bytes.length + uptoBulk d + 1
  | (_, d) => uptoBulk d + 1
 end
def uptoSmall : (H : Type) → List (DataW H) → Bool := fun _ ds => decide (uptoBulkAll ds ≤ 1048576)
def OpenSpec.upto (s : _root_.Go.ChangeSpec) : _root_.Go.OpenSpec := { _root_.Go.OpenSpec.ofChange s with cond := some uptoSmall }

/-- 'laybylaw35.OwnersOnce', WHERE WHAT IT READS IS OF BULK AT MOST 1048576: true; the input reads as it did. -/
def ownersOnceUptoRow : OpenClaim := { program := "ytajcijocjbakbaadoor", sum := "cec5939a20be8cbd69f0d855ec36ec11324b77e2a31909cd171c8ea31e2718f9", func := "layby/laybylaw35.OwnersOnce", spec := "ownersOnce", recurses := true, named := ["layby/programs.uses", "layby/owners.asks"], plainKeys := false, apart := false, laid := [("layby/programs.uses", laid_layby_programs_uses), ("layby/owners.asks", laid_layby_owners_asks)], narrowed := true }
def OwnersOnceUptoSaid : Prop := ownersOnceUptoRow.holds Tryd.pinned (OpenSpec.upto ownersOnceSpec)

/-- 'laybylaw35.OwnersTidy', WHERE WHAT IT READS IS OF BULK AT MOST 1048576: true; the input reads as it did. -/
def ownersTidyUptoRow : OpenClaim := { program := "ytajcijocjbakbaadoor", sum := "cec5939a20be8cbd69f0d855ec36ec11324b77e2a31909cd171c8ea31e2718f9", func := "layby/laybylaw35.OwnersTidy", spec := "ownersTidy", named := ["layby/programs.uses", "layby/owners.asks", "layby/programs.gives"], plainKeys := false, apart := false, laid := [("layby/programs.uses", laid_layby_programs_uses), ("layby/programs.gives", laid_layby_programs_gives), ("layby/owners.asks", laid_layby_owners_asks)], narrowed := true }
def OwnersTidyUptoSaid : Prop := ownersTidyUptoRow.holds Tryd.pinned (OpenSpec.upto ownersTidySpec)

end Rows
end Go.Proofs.YtajcijocjbakbaaDoor

/-
  No cell of these rows narrows 'for every input' (looked for: loops, veiled, ifaces, maps, wideKeys, modest, calm, conditions, laid).
  DERIVED. THE GIVEN ROWS OF THIS SEAT. 4 by the template 'for every input the law returns true; each argument reads behind the call as it read before'; 0 by the template 'total and deterministic' (their statements: YtajcijocjbakbaaTotals.lean).
  GIVEN WITH THE SEED: the statements are not yours to turn. If you find one false, say at which input.
  Laid BY PROGRAM, IN A SANDBOX (cutbox-rows.mjs): the forced cells as the released guide's own fill.sh prints them over the translation 28f1b3307f512ab8… (all of the seat's roots in one cut). By AI agents, Wed Nov 11 2026. No macro, syntax, notation, axiom, sorry.
-/
import Derived.Test.YtajcijocjbakbaaChecked
import GoSem.Claim
import GoSem.ClaimJoined
import GoSem.ClaimMapViews
import Derived.JoinedTies
import Derived.KernelRfl
namespace Go.Proofs.Ytajcijocjbakbaa
/- THE CELL 'sum', in the pinned program and in every row, IS THE sha256 OF THE DUMP (.gsa) THAT YtajcijocjbakbaaProg.lean LOADS. Nothing in Lean hashes anything: it is a label: what it is worth is what the hold of that sum in a sandbox is worth. -/
noncomputable def Try.pinned : Pinned := { name := "ytajcijocjbakbaa", sum := "28f1b3307f512ab82a01997524a7f0614d21c5906d1cb405c06514874953e3d5", checked := Try.checked }
namespace Rows
def none {H : Type} : Left H := { results := [], args := [] }

/-- 'laybylaw10.TablesGrow': WHATEVER THE INPUT: true; the input reads as it did. -/
def tablesGrowSpec : ChangeSpec := { name := "tablesGrow", fn := fun _ => fun
  | [d1, d2, d3] => { results := [.lit (.bool true)], args := [d1, d2, d3] }
  | _ => none }
def tablesGrowRow : OpenClaim := { program := "ytajcijocjbakbaa", sum := "28f1b3307f512ab82a01997524a7f0614d21c5906d1cb405c06514874953e3d5", func := "layby/laybylaw10.TablesGrow", spec := "tablesGrow", unfollowed := true, recurses := true, apart := false }
def TablesGrowSaid : Prop := tablesGrowRow.holds Try.pinned (OpenSpec.ofChange tablesGrowSpec)

/-- ITS FALSE NEIGHBOUR: 'it returns false'. Refute it at one input. -/
def tablesGrowWrong : ChangeSpec := { name := "tablesGrow", fn := fun _ => fun
  | [d1, d2, d3] => { results := [.lit (.bool false)], args := [d1, d2, d3] }
  | _ => none }
def TablesGrowWrongFalsely : Prop := tablesGrowRow.holds Try.pinned (OpenSpec.ofChange tablesGrowWrong)

/-- 'laybylaw10.TablesPlay': WHATEVER THE INPUT: true; the input reads as it did. -/
def tablesPlaySpec : ChangeSpec := { name := "tablesPlay", fn := fun _ => fun
  | [d1, d2] => { results := [.lit (.bool true)], args := [d1, d2] }
  | _ => none }
def tablesPlayRow : OpenClaim := { program := "ytajcijocjbakbaa", sum := "28f1b3307f512ab82a01997524a7f0614d21c5906d1cb405c06514874953e3d5", func := "layby/laybylaw10.TablesPlay", spec := "tablesPlay", unfollowed := true, recurses := true, apart := false }
def TablesPlaySaid : Prop := tablesPlayRow.holds Try.pinned (OpenSpec.ofChange tablesPlaySpec)

/-- ITS FALSE NEIGHBOUR: 'it returns false'. Refute it at one input. -/
def tablesPlayWrong : ChangeSpec := { name := "tablesPlay", fn := fun _ => fun
  | [d1, d2] => { results := [.lit (.bool false)], args := [d1, d2] }
  | _ => none }
def TablesPlayWrongFalsely : Prop := tablesPlayRow.holds Try.pinned (OpenSpec.ofChange tablesPlayWrong)

/-- 'laybylaw10.TablesVoid': WHATEVER THE INPUT: true; the input reads as it did. -/
def tablesVoidSpec : ChangeSpec := { name := "tablesVoid", fn := fun _ => fun
  | [d] => { results := [.lit (.bool true)], args := [d] }
  | _ => none }
def tablesVoidRow : OpenClaim := { program := "ytajcijocjbakbaa", sum := "28f1b3307f512ab82a01997524a7f0614d21c5906d1cb405c06514874953e3d5", func := "layby/laybylaw10.TablesVoid", spec := "tablesVoid", unfollowed := true, recurses := true, apart := false }
def TablesVoidSaid : Prop := tablesVoidRow.holds Try.pinned (OpenSpec.ofChange tablesVoidSpec)

/-- ITS FALSE NEIGHBOUR: 'it returns false'. Refute it at one input. -/
def tablesVoidWrong : ChangeSpec := { name := "tablesVoid", fn := fun _ => fun
  | [d] => { results := [.lit (.bool false)], args := [d] }
  | _ => none }
def TablesVoidWrongFalsely : Prop := tablesVoidRow.holds Try.pinned (OpenSpec.ofChange tablesVoidWrong)

/-- 'laybylaw10.TablesApart': WHATEVER THE INPUT: true; the input reads as it did. -/
def tablesApartSpec : ChangeSpec := { name := "tablesApart", fn := fun _ => fun
  | [d1, d2, d3] => { results := [.lit (.bool true)], args := [d1, d2, d3] }
  | _ => none }
def tablesApartRow : OpenClaim := { program := "ytajcijocjbakbaa", sum := "28f1b3307f512ab82a01997524a7f0614d21c5906d1cb405c06514874953e3d5", func := "layby/laybylaw10.TablesApart", spec := "tablesApart", unfollowed := true, recurses := true, apart := false }
def TablesApartSaid : Prop := tablesApartRow.holds Try.pinned (OpenSpec.ofChange tablesApartSpec)

/-- ITS FALSE NEIGHBOUR: 'it returns false'. Refute it at one input. -/
def tablesApartWrong : ChangeSpec := { name := "tablesApart", fn := fun _ => fun
  | [d1, d2, d3] => { results := [.lit (.bool false)], args := [d1, d2, d3] }
  | _ => none }
def TablesApartWrongFalsely : Prop := tablesApartRow.holds Try.pinned (OpenSpec.ofChange tablesApartWrong)

/- THE SECOND FORM. 'bulk': how many values and letters a reading holds, each counted each time it is reached (what is shared counts as often as it is met; a slice's spare places count too). A statement '..UptoSaid' is the law's where the arguments, and the package variables that the reading takes, are together of bulk at most 1048576: NARROWER than '..Said'. Prove '..Said' where nothing that the law and all that it calls make is longer than what came in: it says more and counts as full. Else prove '..UptoSaid'. A law counts once. -/
mutual
def uptoBulk {H : Type} : DataW H → Nat
  | .lit (.string bytes) => bytes.length + 1
  | .lit _ => 1
  | .nil => 1
  | .ptr d => uptoBulk d + 1
  | .slice elems spare => uptoBulkAll elems + uptoBulkAll spare + 1
  | .agg parts => uptoBulkAll parts + 1
  | .iface _ d => uptoBulk d + 1
  | .map entries => uptoBulkEntries entries + 1
  | .held _ => 1
def uptoBulkAll {H : Type} : List (DataW H) → Nat
  | [] => 0
  | d :: r => uptoBulk d + uptoBulkAll r
def uptoBulkEntries {H : Type} : List (Lit × DataW H) → Nat
  | [] => 0
  | x :: r => uptoBulkEntry x + uptoBulkEntries r
def uptoBulkEntry {H : Type} : Lit × DataW H → Nat
  | (.string bytes, d) => bytes.length + uptoBulk d + 1
  | (_, d) => uptoBulk d + 1
 end
def uptoSmall : (H : Type) → List (DataW H) → Bool := fun _ ds => decide (uptoBulkAll ds ≤ 1048576)
def OpenSpec.upto (s : _root_.Go.ChangeSpec) : _root_.Go.OpenSpec := { _root_.Go.OpenSpec.ofChange s with cond := some uptoSmall }

/-- 'laybylaw10.TablesGrow', WHERE WHAT IT READS IS OF BULK AT MOST 1048576: true; the input reads as it did. -/
def tablesGrowUptoRow : OpenClaim := { program := "ytajcijocjbakbaa", sum := "28f1b3307f512ab82a01997524a7f0614d21c5906d1cb405c06514874953e3d5", func := "layby/laybylaw10.TablesGrow", spec := "tablesGrow", unfollowed := true, recurses := true, apart := false, narrowed := true }
def TablesGrowUptoSaid : Prop := tablesGrowUptoRow.holds Try.pinned (OpenSpec.upto tablesGrowSpec)

/-- 'laybylaw10.TablesPlay', WHERE WHAT IT READS IS OF BULK AT MOST 1048576: true; the input reads as it did. -/
def tablesPlayUptoRow : OpenClaim := { program := "ytajcijocjbakbaa", sum := "28f1b3307f512ab82a01997524a7f0614d21c5906d1cb405c06514874953e3d5", func := "layby/laybylaw10.TablesPlay", spec := "tablesPlay", unfollowed := true, recurses := true, apart := false, narrowed := true }
def TablesPlayUptoSaid : Prop := tablesPlayUptoRow.holds Try.pinned (OpenSpec.upto tablesPlaySpec)

/-- 'laybylaw10.TablesVoid', WHERE WHAT IT READS IS OF BULK AT MOST 1048576: true; the input reads as it did. -/
def tablesVoidUptoRow : OpenClaim := { program := "ytajcijocjbakbaa", sum := "28f1b3307f512ab82a01997524a7f0614d21c5906d1cb405c06514874953e3d5", func := "layby/laybylaw10.TablesVoid", spec := "tablesVoid", unfollowed := true, recurses := true, apart := false, narrowed := true }
def TablesVoidUptoSaid : Prop := tablesVoidUptoRow.holds Try.pinned (OpenSpec.upto tablesVoidSpec)

/-- 'laybylaw10.TablesApart', WHERE WHAT IT READS IS OF BULK AT MOST 1048576: true; the input reads as it did. -/
def tablesApartUptoRow : OpenClaim := { program := "ytajcijocjbakbaa", sum := "28f1b3307f512ab82a01997524a7f0614d21c5906d1cb405c06514874953e3d5", func := "layby/laybylaw10.TablesApart", spec := "tablesApart", unfollowed := true, recurses := true, apart := false, narrowed := true }
def TablesApartUptoSaid : Prop := tablesApartUptoRow.holds Try.pinned (OpenSpec.upto tablesApartSpec)

end Rows
end Go.Proofs.Ytajcijocjbakbaa

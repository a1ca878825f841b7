/-
  No cell of these rows narrows 'for every input' (looked for: loops, veiled, ifaces, maps, wideKeys, modest, calm, conditions, laid).
  DERIVED. THE GIVEN ROWS OF THIS SEAT. 7 by the template 'for every input the law returns true; each argument reads behind the call as it read before'; 0 by the template 'total and deterministic' (their statements: YtllicaibgjjidaaTotals.lean).
  GIVEN WITH THE SEED: the statements are not yours to turn. If you find one false, say at which input.
  Laid BY PROGRAM, IN A SANDBOX (cutbox-rows.mjs): the forced cells as the released guide's own fill.sh prints them over the translation 99f4ee24062d1bf2… (all of the seat's roots in one cut). By AI agents, Wed Nov 11 2026. No macro, syntax, notation, axiom, sorry.
-/
import Derived.Test.YtllicaibgjjidaaChecked
import GoSem.Claim
import GoSem.ClaimJoined
import GoSem.ClaimMapViews
import Derived.JoinedTies
import Derived.KernelRfl
namespace Go.Proofs.Ytllicaibgjjidaa
/- THE CELL 'sum', in the pinned program and in every row, IS THE sha256 OF THE DUMP (.gsa) THAT YtllicaibgjjidaaProg.lean LOADS. Nothing in Lean hashes anything: it is a label: what it is worth is what the hold of that sum in a sandbox is worth. -/
noncomputable def Try.pinned : Pinned := { name := "ytllicaibgjjidaa", sum := "99f4ee24062d1bf2bdf4e59dfcb42158832bfa05e8402a74af9964ed830431e6", checked := Try.checked }
namespace Rows
def none {H : Type} : Left H := { results := [], args := [] }

/-- 'laybylaw09.RehashesAny': WHATEVER THE INPUT: true; the input reads as it did. -/
def rehashesAnySpec : ChangeSpec := { name := "rehashesAny", fn := fun _ => fun
  | [d1, d2] => { results := [.lit (.bool true)], args := [d1, d2] }
  | _ => none }
def rehashesAnyRow : OpenClaim := { program := "ytllicaibgjjidaa", sum := "99f4ee24062d1bf2bdf4e59dfcb42158832bfa05e8402a74af9964ed830431e6", func := "layby/laybylaw09.RehashesAny", spec := "rehashesAny", unfollowed := true, recurses := true, apart := false }
def RehashesAnySaid : Prop := rehashesAnyRow.holds Try.pinned (OpenSpec.ofChange rehashesAnySpec)

/-- ITS FALSE NEIGHBOUR: 'it returns false'. Refute it at one input. -/
def rehashesAnyWrong : ChangeSpec := { name := "rehashesAny", fn := fun _ => fun
  | [d1, d2] => { results := [.lit (.bool false)], args := [d1, d2] }
  | _ => none }
def RehashesAnyWrongFalsely : Prop := rehashesAnyRow.holds Try.pinned (OpenSpec.ofChange rehashesAnyWrong)

/-- 'laybylaw09.RehashesKeep': WHATEVER THE INPUT: true; the input reads as it did. -/
def rehashesKeepSpec : ChangeSpec := { name := "rehashesKeep", fn := fun _ => fun
  | [d1, d2] => { results := [.lit (.bool true)], args := [d1, d2] }
  | _ => none }
def rehashesKeepRow : OpenClaim := { program := "ytllicaibgjjidaa", sum := "99f4ee24062d1bf2bdf4e59dfcb42158832bfa05e8402a74af9964ed830431e6", func := "layby/laybylaw09.RehashesKeep", spec := "rehashesKeep", unfollowed := true, recurses := true, apart := false }
def RehashesKeepSaid : Prop := rehashesKeepRow.holds Try.pinned (OpenSpec.ofChange rehashesKeepSpec)

/-- ITS FALSE NEIGHBOUR: 'it returns false'. Refute it at one input. -/
def rehashesKeepWrong : ChangeSpec := { name := "rehashesKeep", fn := fun _ => fun
  | [d1, d2] => { results := [.lit (.bool false)], args := [d1, d2] }
  | _ => none }
def RehashesKeepWrongFalsely : Prop := rehashesKeepRow.holds Try.pinned (OpenSpec.ofChange rehashesKeepWrong)

/-- 'laybylaw09.RehashesTwice': WHATEVER THE INPUT: true; the input reads as it did. -/
def rehashesTwiceSpec : ChangeSpec := { name := "rehashesTwice", fn := fun _ => fun
  | [d1, d2, d3] => { results := [.lit (.bool true)], args := [d1, d2, d3] }
  | _ => none }
def rehashesTwiceRow : OpenClaim := { program := "ytllicaibgjjidaa", sum := "99f4ee24062d1bf2bdf4e59dfcb42158832bfa05e8402a74af9964ed830431e6", func := "layby/laybylaw09.RehashesTwice", spec := "rehashesTwice", unfollowed := true, recurses := true, apart := false }
def RehashesTwiceSaid : Prop := rehashesTwiceRow.holds Try.pinned (OpenSpec.ofChange rehashesTwiceSpec)

/-- ITS FALSE NEIGHBOUR: 'it returns false'. Refute it at one input. -/
def rehashesTwiceWrong : ChangeSpec := { name := "rehashesTwice", fn := fun _ => fun
  | [d1, d2, d3] => { results := [.lit (.bool false)], args := [d1, d2, d3] }
  | _ => none }
def RehashesTwiceWrongFalsely : Prop := rehashesTwiceRow.holds Try.pinned (OpenSpec.ofChange rehashesTwiceWrong)

/-- 'laybylaw05.LinksPlay': WHATEVER THE INPUT: true; the input reads as it did. -/
def linksPlaySpec : ChangeSpec := { name := "linksPlay", fn := fun _ => fun
  | [d] => { results := [.lit (.bool true)], args := [d] }
  | _ => none }
def linksPlayRow : OpenClaim := { program := "ytllicaibgjjidaa", sum := "99f4ee24062d1bf2bdf4e59dfcb42158832bfa05e8402a74af9964ed830431e6", func := "layby/laybylaw05.LinksPlay", spec := "linksPlay", apart := false }
def LinksPlaySaid : Prop := linksPlayRow.holds Try.pinned (OpenSpec.ofChange linksPlaySpec)

/-- ITS FALSE NEIGHBOUR: 'it returns false'. Refute it at one input. -/
def linksPlayWrong : ChangeSpec := { name := "linksPlay", fn := fun _ => fun
  | [d] => { results := [.lit (.bool false)], args := [d] }
  | _ => none }
def LinksPlayWrongFalsely : Prop := linksPlayRow.holds Try.pinned (OpenSpec.ofChange linksPlayWrong)

/-- 'laybylaw05.LinksVoid': WHATEVER THE INPUT: true; the input reads as it did. -/
def linksVoidSpec : ChangeSpec := { name := "linksVoid", fn := fun _ => fun
  | [d] => { results := [.lit (.bool true)], args := [d] }
  | _ => none }
def linksVoidRow : OpenClaim := { program := "ytllicaibgjjidaa", sum := "99f4ee24062d1bf2bdf4e59dfcb42158832bfa05e8402a74af9964ed830431e6", func := "layby/laybylaw05.LinksVoid", spec := "linksVoid", apart := false }
def LinksVoidSaid : Prop := linksVoidRow.holds Try.pinned (OpenSpec.ofChange linksVoidSpec)

/-- ITS FALSE NEIGHBOUR: 'it returns false'. Refute it at one input. -/
def linksVoidWrong : ChangeSpec := { name := "linksVoid", fn := fun _ => fun
  | [d] => { results := [.lit (.bool false)], args := [d] }
  | _ => none }
def LinksVoidWrongFalsely : Prop := linksVoidRow.holds Try.pinned (OpenSpec.ofChange linksVoidWrong)

/-- 'laybylaw05.LinksQueue': WHATEVER THE INPUT: true; the input reads as it did. -/
def linksQueueSpec : ChangeSpec := { name := "linksQueue", fn := fun _ => fun
  | [d] => { results := [.lit (.bool true)], args := [d] }
  | _ => none }
def linksQueueRow : OpenClaim := { program := "ytllicaibgjjidaa", sum := "99f4ee24062d1bf2bdf4e59dfcb42158832bfa05e8402a74af9964ed830431e6", func := "layby/laybylaw05.LinksQueue", spec := "linksQueue", apart := false }
def LinksQueueSaid : Prop := linksQueueRow.holds Try.pinned (OpenSpec.ofChange linksQueueSpec)

/-- ITS FALSE NEIGHBOUR: 'it returns false'. Refute it at one input. -/
def linksQueueWrong : ChangeSpec := { name := "linksQueue", fn := fun _ => fun
  | [d] => { results := [.lit (.bool false)], args := [d] }
  | _ => none }
def LinksQueueWrongFalsely : Prop := linksQueueRow.holds Try.pinned (OpenSpec.ofChange linksQueueWrong)

/-- 'laybylaw05.LinksFirst': WHATEVER THE INPUT: true; the input reads as it did. -/
def linksFirstSpec : ChangeSpec := { name := "linksFirst", fn := fun _ => fun
  | [d1, d2, d3] => { results := [.lit (.bool true)], args := [d1, d2, d3] }
  | _ => none }
def linksFirstRow : OpenClaim := { program := "ytllicaibgjjidaa", sum := "99f4ee24062d1bf2bdf4e59dfcb42158832bfa05e8402a74af9964ed830431e6", func := "layby/laybylaw05.LinksFirst", spec := "linksFirst", apart := false }
def LinksFirstSaid : Prop := linksFirstRow.holds Try.pinned (OpenSpec.ofChange linksFirstSpec)

/-- ITS FALSE NEIGHBOUR: 'it returns false'. Refute it at one input. -/
def linksFirstWrong : ChangeSpec := { name := "linksFirst", fn := fun _ => fun
  | [d1, d2, d3] => { results := [.lit (.bool false)], args := [d1, d2, d3] }
  | _ => none }
def LinksFirstWrongFalsely : Prop := linksFirstRow.holds Try.pinned (OpenSpec.ofChange linksFirstWrong)

/- THE SECOND FORM. 'bulk': how many values and letters a reading holds, each counted each time it is reached (what is shared counts as often as it is met; a slice's spare places count too). A statement '..UptoSaid' is the law's where the arguments, and the package variables that the reading takes, are together of bulk at most 1048576: NARROWER than '..Said'. Prove '..Said' where nothing that the law and all that it calls make is longer than what came in: it says more and counts as full. Else prove '..UptoSaid'. A law counts once. -/
mutual
def uptoBulk {H : Type} : DataW H → Nat
  | .lit (.string bytes) => bytes.length + 1
  | .lit _ => 1
  | .nil => 1
  | .ptr d => uptoBulk d + 1
  | .slice elems spare => uptoBulkAll elems + uptoBulkAll spare + 1
  | .agg parts => uptoBulkAll parts + 1
  | .iface _ d => uptoBulk d + 1
  | .map entries => uptoBulkEntries entries + 1
  | .held _ => 1
def uptoBulkAll {H : Type} : List (DataW H) → Nat
  | [] => 0
  | d :: r => uptoBulk d + uptoBulkAll r
def uptoBulkEntries {H : Type} : List (Lit × DataW H) → Nat
  | [] => 0
  | x :: r => uptoBulkEntry x + uptoBulkEntries r
def uptoBulkEntry {H : Type} : Lit × DataW H → Nat
  | (.string bytes, d) => bytes.length + uptoBulk d + 1
  | (_, d) => uptoBulk d + 1
 end
def uptoSmall : (H : Type) → List (DataW H) → Bool := fun _ ds => decide (uptoBulkAll ds ≤ 1048576)
def OpenSpec.upto (s : _root_.Go.ChangeSpec) : _root_.Go.OpenSpec := { _root_.Go.OpenSpec.ofChange s with cond := some uptoSmall }

/-- 'laybylaw09.RehashesAny', WHERE WHAT IT READS IS OF BULK AT MOST 1048576: true; the input reads as it did. -/
def rehashesAnyUptoRow : OpenClaim := { program := "ytllicaibgjjidaa", sum := "99f4ee24062d1bf2bdf4e59dfcb42158832bfa05e8402a74af9964ed830431e6", func := "layby/laybylaw09.RehashesAny", spec := "rehashesAny", unfollowed := true, recurses := true, apart := false, narrowed := true }
def RehashesAnyUptoSaid : Prop := rehashesAnyUptoRow.holds Try.pinned (OpenSpec.upto rehashesAnySpec)

/-- 'laybylaw09.RehashesKeep', WHERE WHAT IT READS IS OF BULK AT MOST 1048576: true; the input reads as it did. -/
def rehashesKeepUptoRow : OpenClaim := { program := "ytllicaibgjjidaa", sum := "99f4ee24062d1bf2bdf4e59dfcb42158832bfa05e8402a74af9964ed830431e6", func := "layby/laybylaw09.RehashesKeep", spec := "rehashesKeep", unfollowed := true, recurses := true, apart := false, narrowed := true }
def RehashesKeepUptoSaid : Prop := rehashesKeepUptoRow.holds Try.pinned (OpenSpec.upto rehashesKeepSpec)

/-- 'laybylaw09.RehashesTwice', WHERE WHAT IT READS IS OF BULK AT MOST 1048576: true; the input reads as it did. -/
def rehashesTwiceUptoRow : OpenClaim := { program := "ytllicaibgjjidaa", sum := "99f4ee24062d1bf2bdf4e59dfcb42158832bfa05e8402a74af9964ed830431e6", func := "layby/laybylaw09.RehashesTwice", spec := "rehashesTwice", unfollowed := true, recurses := true, apart := false, narrowed := true }
def RehashesTwiceUptoSaid : Prop := rehashesTwiceUptoRow.holds Try.pinned (OpenSpec.upto rehashesTwiceSpec)

/-- 'laybylaw05.LinksPlay', WHERE WHAT IT READS IS OF BULK AT MOST 1048576: true; the input reads as it did. -/
def linksPlayUptoRow : OpenClaim := { program := "ytllicaibgjjidaa", sum := "99f4ee24062d1bf2bdf4e59dfcb42158832bfa05e8402a74af9964ed830431e6", func := "layby/laybylaw05.LinksPlay", spec := "linksPlay", apart := false, narrowed := true }
def LinksPlayUptoSaid : Prop := linksPlayUptoRow.holds Try.pinned (OpenSpec.upto linksPlaySpec)

/-- 'laybylaw05.LinksVoid', WHERE WHAT IT READS IS OF BULK AT MOST 1048576: true; the input reads as it did. -/
def linksVoidUptoRow : OpenClaim := { program := "ytllicaibgjjidaa", sum := "99f4ee24062d1bf2bdf4e59dfcb42158832bfa05e8402a74af9964ed830431e6", func := "layby/laybylaw05.LinksVoid", spec := "linksVoid", apart := false, narrowed := true }
def LinksVoidUptoSaid : Prop := linksVoidUptoRow.holds Try.pinned (OpenSpec.upto linksVoidSpec)

/-- 'laybylaw05.LinksQueue', WHERE WHAT IT READS IS OF BULK AT MOST 1048576: true; the input reads as it did. -/
def linksQueueUptoRow : OpenClaim := { program := "ytllicaibgjjidaa", sum := "99f4ee24062d1bf2bdf4e59dfcb42158832bfa05e8402a74af9964ed830431e6", func := "layby/laybylaw05.LinksQueue", spec := "linksQueue", apart := false, narrowed := true }
def LinksQueueUptoSaid : Prop := linksQueueUptoRow.holds Try.pinned (OpenSpec.upto linksQueueSpec)

/-- 'laybylaw05.LinksFirst', WHERE WHAT IT READS IS OF BULK AT MOST 1048576: true; the input reads as it did. -/
def linksFirstUptoRow : OpenClaim := { program := "ytllicaibgjjidaa", sum := "99f4ee24062d1bf2bdf4e59dfcb42158832bfa05e8402a74af9964ed830431e6", func := "layby/laybylaw05.LinksFirst", spec := "linksFirst", apart := false, narrowed := true }
def LinksFirstUptoSaid : Prop := linksFirstUptoRow.holds Try.pinned (OpenSpec.upto linksFirstSpec)

end Rows
end Go.Proofs.Ytllicaibgjjidaa

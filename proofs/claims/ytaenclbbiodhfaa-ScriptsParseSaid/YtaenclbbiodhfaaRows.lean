/-
  No cell of these rows narrows 'for every input' (looked for: loops, veiled, ifaces, maps, wideKeys, modest, calm, conditions, laid).
  DERIVED. THE GIVEN ROWS OF THIS SEAT. 11 by the template 'for every input the law returns true; each argument reads behind the call as it read before'; 0 by the template 'total and deterministic' (their statements: YtaenclbbiodhfaaTotals.lean).
  GIVEN WITH THE SEED: the statements are not yours to turn. If you find one false, say at which input.
  Laid BY PROGRAM, IN A SANDBOX (cutbox-rows.mjs): the forced cells as the released guide's own fill.sh prints them over the translation ac9d1306dc605a2d… (all of the seat's roots in one cut). By AI agents, Wed Nov 11 2026. No macro, syntax, notation, axiom, sorry.
-/
import Derived.Test.YtaenclbbiodhfaaChecked
import GoSem.Claim
import GoSem.ClaimJoined
import GoSem.ClaimMapViews
import Derived.JoinedTies
import Derived.KernelRfl
namespace Go.Proofs.Ytaenclbbiodhfaa
/- THE CELL 'sum', in the pinned program and in every row, IS THE sha256 OF THE DUMP (.gsa) THAT YtaenclbbiodhfaaProg.lean LOADS. Nothing in Lean hashes anything: it is a label: what it is worth is what the hold of that sum in a sandbox is worth. -/
noncomputable def Try.pinned : Pinned := { name := "ytaenclbbiodhfaa", sum := "ac9d1306dc605a2d881dcb753f962f02e8a678e104bbc7b9bcf03ce9898313c3", checked := Try.checked }
namespace Rows
def none {H : Type} : Left H := { results := [], args := [] }

/-- 'laybylaw06.LinesPart': WHATEVER THE INPUT: true; the input reads as it did. -/
def linesPartSpec : ChangeSpec := { name := "linesPart", fn := fun _ => fun
  | [d1, d2, d3] => { results := [.lit (.bool true)], args := [d1, d2, d3] }
  | _ => none }
def linesPartRow : OpenClaim := { program := "ytaenclbbiodhfaa", sum := "ac9d1306dc605a2d881dcb753f962f02e8a678e104bbc7b9bcf03ce9898313c3", func := "layby/laybylaw06.LinesPart", spec := "linesPart", unfollowed := true, recurses := true, apart := false }
def LinesPartSaid : Prop := linesPartRow.holds Try.pinned (OpenSpec.ofChange linesPartSpec)

/-- ITS FALSE NEIGHBOUR: 'it returns false'. Refute it at one input. -/
def linesPartWrong : ChangeSpec := { name := "linesPart", fn := fun _ => fun
  | [d1, d2, d3] => { results := [.lit (.bool false)], args := [d1, d2, d3] }
  | _ => none }
def LinesPartWrongFalsely : Prop := linesPartRow.holds Try.pinned (OpenSpec.ofChange linesPartWrong)

/-- 'laybylaw06.LinesAsk': WHATEVER THE INPUT: true; the input reads as it did. -/
def linesAskSpec : ChangeSpec := { name := "linesAsk", fn := fun _ => fun
  | [d1, d2, d3] => { results := [.lit (.bool true)], args := [d1, d2, d3] }
  | _ => none }
def linesAskRow : OpenClaim := { program := "ytaenclbbiodhfaa", sum := "ac9d1306dc605a2d881dcb753f962f02e8a678e104bbc7b9bcf03ce9898313c3", func := "layby/laybylaw06.LinesAsk", spec := "linesAsk", unfollowed := true, recurses := true, apart := false }
def LinesAskSaid : Prop := linesAskRow.holds Try.pinned (OpenSpec.ofChange linesAskSpec)

/-- ITS FALSE NEIGHBOUR: 'it returns false'. Refute it at one input. -/
def linesAskWrong : ChangeSpec := { name := "linesAsk", fn := fun _ => fun
  | [d1, d2, d3] => { results := [.lit (.bool false)], args := [d1, d2, d3] }
  | _ => none }
def LinesAskWrongFalsely : Prop := linesAskRow.holds Try.pinned (OpenSpec.ofChange linesAskWrong)

/-- 'laybylaw06.LinesTake': WHATEVER THE INPUT: true; the input reads as it did. -/
def linesTakeSpec : ChangeSpec := { name := "linesTake", fn := fun _ => fun
  | [d1, d2, d3] => { results := [.lit (.bool true)], args := [d1, d2, d3] }
  | _ => none }
def linesTakeRow : OpenClaim := { program := "ytaenclbbiodhfaa", sum := "ac9d1306dc605a2d881dcb753f962f02e8a678e104bbc7b9bcf03ce9898313c3", func := "layby/laybylaw06.LinesTake", spec := "linesTake", unfollowed := true, recurses := true, apart := false }
def LinesTakeSaid : Prop := linesTakeRow.holds Try.pinned (OpenSpec.ofChange linesTakeSpec)

/-- ITS FALSE NEIGHBOUR: 'it returns false'. Refute it at one input. -/
def linesTakeWrong : ChangeSpec := { name := "linesTake", fn := fun _ => fun
  | [d1, d2, d3] => { results := [.lit (.bool false)], args := [d1, d2, d3] }
  | _ => none }
def LinesTakeWrongFalsely : Prop := linesTakeRow.holds Try.pinned (OpenSpec.ofChange linesTakeWrong)

/-- 'laybylaw06.LinesAll': WHATEVER THE INPUT: true; the input reads as it did. -/
def linesAllSpec : ChangeSpec := { name := "linesAll", fn := fun _ => fun
  | [d1, d2, d3] => { results := [.lit (.bool true)], args := [d1, d2, d3] }
  | _ => none }
def linesAllRow : OpenClaim := { program := "ytaenclbbiodhfaa", sum := "ac9d1306dc605a2d881dcb753f962f02e8a678e104bbc7b9bcf03ce9898313c3", func := "layby/laybylaw06.LinesAll", spec := "linesAll", unfollowed := true, recurses := true, apart := false }
def LinesAllSaid : Prop := linesAllRow.holds Try.pinned (OpenSpec.ofChange linesAllSpec)

/-- ITS FALSE NEIGHBOUR: 'it returns false'. Refute it at one input. -/
def linesAllWrong : ChangeSpec := { name := "linesAll", fn := fun _ => fun
  | [d1, d2, d3] => { results := [.lit (.bool false)], args := [d1, d2, d3] }
  | _ => none }
def LinesAllWrongFalsely : Prop := linesAllRow.holds Try.pinned (OpenSpec.ofChange linesAllWrong)

/-- 'laybylaw03.ClocksCome': WHATEVER THE INPUT: true; the input reads as it did. -/
def clocksComeSpec : ChangeSpec := { name := "clocksCome", fn := fun _ => fun
  | [d1, d2, d3] => { results := [.lit (.bool true)], args := [d1, d2, d3] }
  | _ => none }
def clocksComeRow : OpenClaim := { program := "ytaenclbbiodhfaa", sum := "ac9d1306dc605a2d881dcb753f962f02e8a678e104bbc7b9bcf03ce9898313c3", func := "layby/laybylaw03.ClocksCome", spec := "clocksCome", inPlace := ["math/bits.Add64"], apart := false }
def ClocksComeSaid : Prop := clocksComeRow.holds Try.pinned (OpenSpec.ofChange clocksComeSpec)

/-- ITS FALSE NEIGHBOUR: 'it returns false'. Refute it at one input. -/
def clocksComeWrong : ChangeSpec := { name := "clocksCome", fn := fun _ => fun
  | [d1, d2, d3] => { results := [.lit (.bool false)], args := [d1, d2, d3] }
  | _ => none }
def ClocksComeWrongFalsely : Prop := clocksComeRow.holds Try.pinned (OpenSpec.ofChange clocksComeWrong)

/-- 'laybylaw03.ClocksDraws': WHATEVER THE INPUT: true; the input reads as it did. -/
def clocksDrawsSpec : ChangeSpec := { name := "clocksDraws", fn := fun _ => fun
  | [d1, d2, d3] => { results := [.lit (.bool true)], args := [d1, d2, d3] }
  | _ => none }
def clocksDrawsRow : OpenClaim := { program := "ytaenclbbiodhfaa", sum := "ac9d1306dc605a2d881dcb753f962f02e8a678e104bbc7b9bcf03ce9898313c3", func := "layby/laybylaw03.ClocksDraws", spec := "clocksDraws", inPlace := ["math/bits.Add64"], apart := false }
def ClocksDrawsSaid : Prop := clocksDrawsRow.holds Try.pinned (OpenSpec.ofChange clocksDrawsSpec)

/-- ITS FALSE NEIGHBOUR: 'it returns false'. Refute it at one input. -/
def clocksDrawsWrong : ChangeSpec := { name := "clocksDraws", fn := fun _ => fun
  | [d1, d2, d3] => { results := [.lit (.bool false)], args := [d1, d2, d3] }
  | _ => none }
def ClocksDrawsWrongFalsely : Prop := clocksDrawsRow.holds Try.pinned (OpenSpec.ofChange clocksDrawsWrong)

/-- 'laybylaw03.ClocksPlay': WHATEVER THE INPUT: true; the input reads as it did. -/
def clocksPlaySpec : ChangeSpec := { name := "clocksPlay", fn := fun _ => fun
  | [d1, d2, d3] => { results := [.lit (.bool true)], args := [d1, d2, d3] }
  | _ => none }
def clocksPlayRow : OpenClaim := { program := "ytaenclbbiodhfaa", sum := "ac9d1306dc605a2d881dcb753f962f02e8a678e104bbc7b9bcf03ce9898313c3", func := "layby/laybylaw03.ClocksPlay", spec := "clocksPlay", inPlace := ["math/bits.Add64"], apart := false }
def ClocksPlaySaid : Prop := clocksPlayRow.holds Try.pinned (OpenSpec.ofChange clocksPlaySpec)

/-- ITS FALSE NEIGHBOUR: 'it returns false'. Refute it at one input. -/
def clocksPlayWrong : ChangeSpec := { name := "clocksPlay", fn := fun _ => fun
  | [d1, d2, d3] => { results := [.lit (.bool false)], args := [d1, d2, d3] }
  | _ => none }
def ClocksPlayWrongFalsely : Prop := clocksPlayRow.holds Try.pinned (OpenSpec.ofChange clocksPlayWrong)

/-- 'laybylaw03.ClocksVoid': WHATEVER THE INPUT: true; the input reads as it did. -/
def clocksVoidSpec : ChangeSpec := { name := "clocksVoid", fn := fun _ => fun
  | [d] => { results := [.lit (.bool true)], args := [d] }
  | _ => none }
def clocksVoidRow : OpenClaim := { program := "ytaenclbbiodhfaa", sum := "ac9d1306dc605a2d881dcb753f962f02e8a678e104bbc7b9bcf03ce9898313c3", func := "layby/laybylaw03.ClocksVoid", spec := "clocksVoid", inPlace := ["math/bits.Add64"], apart := false }
def ClocksVoidSaid : Prop := clocksVoidRow.holds Try.pinned (OpenSpec.ofChange clocksVoidSpec)

/-- ITS FALSE NEIGHBOUR: 'it returns false'. Refute it at one input. -/
def clocksVoidWrong : ChangeSpec := { name := "clocksVoid", fn := fun _ => fun
  | [d] => { results := [.lit (.bool false)], args := [d] }
  | _ => none }
def ClocksVoidWrongFalsely : Prop := clocksVoidRow.holds Try.pinned (OpenSpec.ofChange clocksVoidWrong)

/-- 'laybylaw07.HashesHalves': WHATEVER THE INPUT: true; the input reads as it did. -/
def hashesHalvesSpec : ChangeSpec := { name := "hashesHalves", fn := fun _ => fun
  | [d1, d2] => { results := [.lit (.bool true)], args := [d1, d2] }
  | _ => none }
def hashesHalvesRow : OpenClaim := { program := "ytaenclbbiodhfaa", sum := "ac9d1306dc605a2d881dcb753f962f02e8a678e104bbc7b9bcf03ce9898313c3", func := "layby/laybylaw07.HashesHalves", spec := "hashesHalves", apart := false }
def HashesHalvesSaid : Prop := hashesHalvesRow.holds Try.pinned (OpenSpec.ofChange hashesHalvesSpec)

/-- ITS FALSE NEIGHBOUR: 'it returns false'. Refute it at one input. -/
def hashesHalvesWrong : ChangeSpec := { name := "hashesHalves", fn := fun _ => fun
  | [d1, d2] => { results := [.lit (.bool false)], args := [d1, d2] }
  | _ => none }
def HashesHalvesWrongFalsely : Prop := hashesHalvesRow.holds Try.pinned (OpenSpec.ofChange hashesHalvesWrong)

/-- 'laybylaw07.HashesLocks': WHATEVER THE INPUT: true; the input reads as it did. -/
def hashesLocksSpec : ChangeSpec := { name := "hashesLocks", fn := fun _ => fun
  | [d1, d2] => { results := [.lit (.bool true)], args := [d1, d2] }
  | _ => none }
def hashesLocksRow : OpenClaim := { program := "ytaenclbbiodhfaa", sum := "ac9d1306dc605a2d881dcb753f962f02e8a678e104bbc7b9bcf03ce9898313c3", func := "layby/laybylaw07.HashesLocks", spec := "hashesLocks", apart := false }
def HashesLocksSaid : Prop := hashesLocksRow.holds Try.pinned (OpenSpec.ofChange hashesLocksSpec)

/-- ITS FALSE NEIGHBOUR: 'it returns false'. Refute it at one input. -/
def hashesLocksWrong : ChangeSpec := { name := "hashesLocks", fn := fun _ => fun
  | [d1, d2] => { results := [.lit (.bool false)], args := [d1, d2] }
  | _ => none }
def HashesLocksWrongFalsely : Prop := hashesLocksRow.holds Try.pinned (OpenSpec.ofChange hashesLocksWrong)

/-- 'laybylaw33.ScriptsParse': WHATEVER THE INPUT: true; the input reads as it did. -/
def scriptsParseSpec : ChangeSpec := { name := "scriptsParse", fn := fun _ => fun
  | [d1, d2] => { results := [.lit (.bool true)], args := [d1, d2] }
  | _ => none }
def scriptsParseRow : OpenClaim := { program := "ytaenclbbiodhfaa", sum := "ac9d1306dc605a2d881dcb753f962f02e8a678e104bbc7b9bcf03ce9898313c3", func := "layby/laybylaw33.ScriptsParse", spec := "scriptsParse", unfollowed := true, recurses := true, apart := false }
def ScriptsParseSaid : Prop := scriptsParseRow.holds Try.pinned (OpenSpec.ofChange scriptsParseSpec)

/-- ITS FALSE NEIGHBOUR: 'it returns false'. Refute it at one input. -/
def scriptsParseWrong : ChangeSpec := { name := "scriptsParse", fn := fun _ => fun
  | [d1, d2] => { results := [.lit (.bool false)], args := [d1, d2] }
  | _ => none }
def ScriptsParseWrongFalsely : Prop := scriptsParseRow.holds Try.pinned (OpenSpec.ofChange scriptsParseWrong)

/- THE SECOND FORM. 'bulk': how many values and letters a reading holds, each counted each time it is reached (what is shared counts as often as it is met; a slice's spare places count too). A statement '..UptoSaid' is the law's where the arguments, and the package variables that the reading takes, are together of bulk at most 1048576: NARROWER than '..Said'. Prove '..Said' where nothing that the law and all that it calls make is longer than what came in: it says more and counts as full. Else prove '..UptoSaid'. A law counts once. -/
mutual
def uptoBulk {H : Type} : DataW H → Nat
  | .lit (.string bytes) => bytes.length + 1
  | .lit _ => 1
  | .nil => 1
  | .ptr d => uptoBulk d + 1
  | .slice elems spare => uptoBulkAll elems + uptoBulkAll spare + 1
  | .agg parts => uptoBulkAll parts + 1
  | .iface _ d => uptoBulk d + 1
  | .map entries => uptoBulkEntries entries + 1
  | .held _ => 1
def uptoBulkAll {H : Type} : List (DataW H) → Nat
  | [] => 0
  | d :: r => uptoBulk d + uptoBulkAll r
def uptoBulkEntries {H : Type} : List (Lit × DataW H) → Nat
  | [] => 0
  | x :: r => uptoBulkEntry x + uptoBulkEntries r
def uptoBulkEntry {H : Type} : Lit × DataW H → Nat
  | (.string bytes, d) => bytes.length + uptoBulk d + 1
  | (_, d) => uptoBulk d + 1
 end
def uptoSmall : (H : Type) → List (DataW H) → Bool := fun _ ds => decide (uptoBulkAll ds ≤ 1048576)
def OpenSpec.upto (s : _root_.Go.ChangeSpec) : _root_.Go.OpenSpec := { _root_.Go.OpenSpec.ofChange s with cond := some uptoSmall }

/-- 'laybylaw06.LinesPart', WHERE WHAT IT READS IS OF BULK AT MOST 1048576: true; the input reads as it did. -/
def linesPartUptoRow : OpenClaim := { program := "ytaenclbbiodhfaa", sum := "ac9d1306dc605a2d881dcb753f962f02e8a678e104bbc7b9bcf03ce9898313c3", func := "layby/laybylaw06.LinesPart", spec := "linesPart", unfollowed := true, recurses := true, apart := false, narrowed := true }
def LinesPartUptoSaid : Prop := linesPartUptoRow.holds Try.pinned (OpenSpec.upto linesPartSpec)

/-- 'laybylaw06.LinesAsk', WHERE WHAT IT READS IS OF BULK AT MOST 1048576: true; the input reads as it did. -/
def linesAskUptoRow : OpenClaim := { program := "ytaenclbbiodhfaa", sum := "ac9d1306dc605a2d881dcb753f962f02e8a678e104bbc7b9bcf03ce9898313c3", func := "layby/laybylaw06.LinesAsk", spec := "linesAsk", unfollowed := true, recurses := true, apart := false, narrowed := true }
def LinesAskUptoSaid : Prop := linesAskUptoRow.holds Try.pinned (OpenSpec.upto linesAskSpec)

/-- 'laybylaw06.LinesTake', WHERE WHAT IT READS IS OF BULK AT MOST 1048576: true; the input reads as it did. -/
def linesTakeUptoRow : OpenClaim := { program := "ytaenclbbiodhfaa", sum := "ac9d1306dc605a2d881dcb753f962f02e8a678e104bbc7b9bcf03ce9898313c3", func := "layby/laybylaw06.LinesTake", spec := "linesTake", unfollowed := true, recurses := true, apart := false, narrowed := true }
def LinesTakeUptoSaid : Prop := linesTakeUptoRow.holds Try.pinned (OpenSpec.upto linesTakeSpec)

/-- 'laybylaw06.LinesAll', WHERE WHAT IT READS IS OF BULK AT MOST 1048576: true; the input reads as it did. -/
def linesAllUptoRow : OpenClaim := { program := "ytaenclbbiodhfaa", sum := "ac9d1306dc605a2d881dcb753f962f02e8a678e104bbc7b9bcf03ce9898313c3", func := "layby/laybylaw06.LinesAll", spec := "linesAll", unfollowed := true, recurses := true, apart := false, narrowed := true }
def LinesAllUptoSaid : Prop := linesAllUptoRow.holds Try.pinned (OpenSpec.upto linesAllSpec)

/-- 'laybylaw03.ClocksCome', WHERE WHAT IT READS IS OF BULK AT MOST 1048576: true; the input reads as it did. -/
def clocksComeUptoRow : OpenClaim := { program := "ytaenclbbiodhfaa", sum := "ac9d1306dc605a2d881dcb753f962f02e8a678e104bbc7b9bcf03ce9898313c3", func := "layby/laybylaw03.ClocksCome", spec := "clocksCome", inPlace := ["math/bits.Add64"], apart := false, narrowed := true }
def ClocksComeUptoSaid : Prop := clocksComeUptoRow.holds Try.pinned (OpenSpec.upto clocksComeSpec)

/-- 'laybylaw03.ClocksDraws', WHERE WHAT IT READS IS OF BULK AT MOST 1048576: true; the input reads as it did. -/
def clocksDrawsUptoRow : OpenClaim := { program := "ytaenclbbiodhfaa", sum := "ac9d1306dc605a2d881dcb753f962f02e8a678e104bbc7b9bcf03ce9898313c3", func := "layby/laybylaw03.ClocksDraws", spec := "clocksDraws", inPlace := ["math/bits.Add64"], apart := false, narrowed := true }
def ClocksDrawsUptoSaid : Prop := clocksDrawsUptoRow.holds Try.pinned (OpenSpec.upto clocksDrawsSpec)

/-- 'laybylaw03.ClocksPlay', WHERE WHAT IT READS IS OF BULK AT MOST 1048576: true; the input reads as it did. -/
def clocksPlayUptoRow : OpenClaim := { program := "ytaenclbbiodhfaa", sum := "ac9d1306dc605a2d881dcb753f962f02e8a678e104bbc7b9bcf03ce9898313c3", func := "layby/laybylaw03.ClocksPlay", spec := "clocksPlay", inPlace := ["math/bits.Add64"], apart := false, narrowed := true }
def ClocksPlayUptoSaid : Prop := clocksPlayUptoRow.holds Try.pinned (OpenSpec.upto clocksPlaySpec)

/-- 'laybylaw03.ClocksVoid', WHERE WHAT IT READS IS OF BULK AT MOST 1048576: true; the input reads as it did. -/
def clocksVoidUptoRow : OpenClaim := { program := "ytaenclbbiodhfaa", sum := "ac9d1306dc605a2d881dcb753f962f02e8a678e104bbc7b9bcf03ce9898313c3", func := "layby/laybylaw03.ClocksVoid", spec := "clocksVoid", inPlace := ["math/bits.Add64"], apart := false, narrowed := true }
def ClocksVoidUptoSaid : Prop := clocksVoidUptoRow.holds Try.pinned (OpenSpec.upto clocksVoidSpec)

/-- 'laybylaw07.HashesHalves', WHERE WHAT IT READS IS OF BULK AT MOST 1048576: true; the input reads as it did. -/
def hashesHalvesUptoRow : OpenClaim := { program := "ytaenclbbiodhfaa", sum := "ac9d1306dc605a2d881dcb753f962f02e8a678e104bbc7b9bcf03ce9898313c3", func := "layby/laybylaw07.HashesHalves", spec := "hashesHalves", apart := false, narrowed := true }
def HashesHalvesUptoSaid : Prop := hashesHalvesUptoRow.holds Try.pinned (OpenSpec.upto hashesHalvesSpec)

/-- 'laybylaw07.HashesLocks', WHERE WHAT IT READS IS OF BULK AT MOST 1048576: true; the input reads as it did. -/
def hashesLocksUptoRow : OpenClaim := { program := "ytaenclbbiodhfaa", sum := "ac9d1306dc605a2d881dcb753f962f02e8a678e104bbc7b9bcf03ce9898313c3", func := "layby/laybylaw07.HashesLocks", spec := "hashesLocks", apart := false, narrowed := true }
def HashesLocksUptoSaid : Prop := hashesLocksUptoRow.holds Try.pinned (OpenSpec.upto hashesLocksSpec)

/-- 'laybylaw33.ScriptsParse', WHERE WHAT IT READS IS OF BULK AT MOST 1048576: true; the input reads as it did. -/
def scriptsParseUptoRow : OpenClaim := { program := "ytaenclbbiodhfaa", sum := "ac9d1306dc605a2d881dcb753f962f02e8a678e104bbc7b9bcf03ce9898313c3", func := "layby/laybylaw33.ScriptsParse", spec := "scriptsParse", unfollowed := true, recurses := true, apart := false, narrowed := true }
def ScriptsParseUptoSaid : Prop := scriptsParseUptoRow.holds Try.pinned (OpenSpec.upto scriptsParseSpec)

end Rows
end Go.Proofs.Ytaenclbbiodhfaa

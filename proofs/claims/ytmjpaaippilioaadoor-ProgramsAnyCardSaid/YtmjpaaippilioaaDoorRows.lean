/-
  NARROWER THAN 'FOR EVERY INPUT', by the rows' own cells (each row's printed sentence says how): MarksWord: laid · MarksText: laid · MarksBack: laid · MarksRw: laid · MarksReaders: laid · ProgramsTidy: laid · ProgramsJoin: laid · ProgramsChoose: laid · ProgramsFilter: laid · ProgramsParse: laid · ProgramsTurns: laid · ProgramsAny: laid.
  DERIVED. THE GIVEN ROWS OF THIS SEAT. 12 by the template 'for every input the law returns true; each argument reads behind the call as it read before'; 0 by the template 'total and deterministic' (their statements: YtmjpaaippilioaaDoorTotals.lean).
  GIVEN WITH THE SEED: the statements are not yours to turn. If you find one false, say at which input.
  Laid BY PROGRAM, IN A SANDBOX (cutbox-rows.mjs): the forced cells as the released guide's own fill.sh prints them over the translation 3de0cbda5825efc7… (all of the seat's roots in one cut). By AI agents, Wed Nov 11 2026. No macro, syntax, notation, axiom, sorry.
-/
import Derived.Test.YtmjpaaippilioaaDoorChecked
import GoSem.Claim
import GoSem.ClaimJoined
import GoSem.ClaimMapViews
import Derived.JoinedTies
import Derived.KernelRfl
namespace Go.Proofs.YtmjpaaippilioaaDoor
/- THE CELL 'sum', in the pinned program and in every row, IS THE sha256 OF THE DUMP (.gsa) THAT YtmjpaaippilioaaDoorProg.lean LOADS. Nothing in Lean hashes anything: it is a label: what it is worth is what the hold of that sum in a sandbox is worth. -/
noncomputable def Tryd.pinned : Pinned := { name := "ytmjpaaippilioaadoor", sum := "3de0cbda5825efc7b6bc7d29e8c481eb77e2175b98a5c4c1a5e7c1399faa5f58", checked := Tryd.checked }
namespace Rows
def none {H : Type} : Left H := { results := [], args := [] }

/- WHAT THE LISTED PACKAGE-LEVEL VARIABLES READ AS WHEN THE CALL BEGINS. Each datum BY PROGRAM (the guide's laid-datum.mjs) off the statement by which the dump's own 'gosem.cut.vars' lays the variable. In a bare row this is a premise. The card (YtmjpaaippilioaaDoorCards.lean) ties it to the program's text. -/
def laid_math_bits_deBruijn32tab {H : Type} : DataW H := .agg [.lit (.int .u8 0), .lit (.int .u8 1), .lit (.int .u8 28), .lit (.int .u8 2), .lit (.int .u8 29), .lit (.int .u8 14), .lit (.int .u8 24), .lit (.int .u8 3), .lit (.int .u8 30), .lit (.int .u8 22), .lit (.int .u8 20), .lit (.int .u8 15), .lit (.int .u8 25), .lit (.int .u8 17), .lit (.int .u8 4), .lit (.int .u8 8), .lit (.int .u8 31), .lit (.int .u8 27), .lit (.int .u8 13), .lit (.int .u8 23), .lit (.int .u8 21), .lit (.int .u8 19), .lit (.int .u8 16), .lit (.int .u8 7), .lit (.int .u8 26), .lit (.int .u8 12), .lit (.int .u8 18), .lit (.int .u8 6), .lit (.int .u8 11), .lit (.int .u8 5), .lit (.int .u8 10), .lit (.int .u8 9)]
def laid_math_bits_deBruijn64tab {H : Type} : DataW H := .agg [.lit (.int .u8 0), .lit (.int .u8 1), .lit (.int .u8 56), .lit (.int .u8 2), .lit (.int .u8 57), .lit (.int .u8 49), .lit (.int .u8 28), .lit (.int .u8 3), .lit (.int .u8 61), .lit (.int .u8 58), .lit (.int .u8 42), .lit (.int .u8 50), .lit (.int .u8 38), .lit (.int .u8 29), .lit (.int .u8 17), .lit (.int .u8 4), .lit (.int .u8 62), .lit (.int .u8 47), .lit (.int .u8 59), .lit (.int .u8 36), .lit (.int .u8 45), .lit (.int .u8 43), .lit (.int .u8 51), .lit (.int .u8 22), .lit (.int .u8 53), .lit (.int .u8 39), .lit (.int .u8 33), .lit (.int .u8 30), .lit (.int .u8 24), .lit (.int .u8 18), .lit (.int .u8 12), .lit (.int .u8 5), .lit (.int .u8 63), .lit (.int .u8 55), .lit (.int .u8 48), .lit (.int .u8 27), .lit (.int .u8 60), .lit (.int .u8 41), .lit (.int .u8 37), .lit (.int .u8 16), .lit (.int .u8 46), .lit (.int .u8 35), .lit (.int .u8 44), .lit (.int .u8 21), .lit (.int .u8 52), .lit (.int .u8 32), .lit (.int .u8 23), .lit (.int .u8 11), .lit (.int .u8 54), .lit (.int .u8 26), .lit (.int .u8 40), .lit (.int .u8 15), .lit (.int .u8 34), .lit (.int .u8 20), .lit (.int .u8 31), .lit (.int .u8 10), .lit (.int .u8 25), .lit (.int .u8 14), .lit (.int .u8 19), .lit (.int .u8 9), .lit (.int .u8 13), .lit (.int .u8 8), .lit (.int .u8 7), .lit (.int .u8 6)]
def laid_internal_strconv_uint64pow10 {H : Type} : DataW H := .agg [.lit (.int .u64 1), .lit (.int .u64 10), .lit (.int .u64 100), .lit (.int .u64 1000), .lit (.int .u64 10000), .lit (.int .u64 100000), .lit (.int .u64 1000000), .lit (.int .u64 10000000), .lit (.int .u64 100000000), .lit (.int .u64 1000000000), .lit (.int .u64 10000000000), .lit (.int .u64 100000000000), .lit (.int .u64 1000000000000), .lit (.int .u64 10000000000000), .lit (.int .u64 100000000000000), .lit (.int .u64 1000000000000000), .lit (.int .u64 10000000000000000), .lit (.int .u64 100000000000000000), .lit (.int .u64 1000000000000000000), .lit (.int .u64 10000000000000000000)]
def laid_layby_marks_mutexes {H : Type} : DataW H := .agg [.lit (.string [108, 111, 99, 107, 101, 100]), .lit (.string [112, 97, 114, 107, 101, 100])]
def laid_layby_marks_rws {H : Type} : DataW H := .agg [.lit (.string [112, 97, 114, 107, 101, 100]), .lit (.string [119, 97, 105, 116, 115]), .lit (.string [117, 112, 103, 114]), .lit (.string [119, 114, 105, 116, 101, 114])]
def laid_layby_marks_onces {H : Type} : DataW H := .agg [.lit (.string [100, 111, 110, 101]), .lit (.string [112, 111, 105, 115, 111, 110]), .lit (.string [108, 111, 99, 107, 101, 100]), .lit (.string [112, 97, 114, 107, 101, 100])]
def laid_layby_programs_uses {H : Type} : DataW H := .agg [.agg [.lit (.string [108, 111, 99, 107]), .lit (.int .u32 1024), .lit (.int .u32 0), .lit (.bool true), .lit (.string []), .lit (.bool false), .lit (.int .i64 0)], .agg [.lit (.string [116, 114, 121]), .lit (.int .u32 1024), .lit (.int .u32 0), .lit (.bool false), .lit (.string []), .lit (.bool false), .lit (.int .i64 0)], .agg [.lit (.string [117, 110, 108, 111, 99, 107]), .lit (.int .u32 1024), .lit (.int .u32 0), .lit (.bool false), .lit (.string [102, 97, 105, 114]), .lit (.bool false), .lit (.int .i64 0)], .agg [.lit (.string [114, 101, 97, 100]), .lit (.int .u32 1056), .lit (.int .u32 0), .lit (.bool true), .lit (.string []), .lit (.bool false), .lit (.int .i64 0)], .agg [.lit (.string [116, 114, 121, 114, 101, 97, 100]), .lit (.int .u32 1056), .lit (.int .u32 0), .lit (.bool false), .lit (.string []), .lit (.bool false), .lit (.int .i64 0)], .agg [.lit (.string [117, 110, 114, 101, 97, 100]), .lit (.int .u32 1056), .lit (.int .u32 0), .lit (.bool false), .lit (.string []), .lit (.bool false), .lit (.int .i64 0)], .agg [.lit (.string [117, 112, 103, 114]), .lit (.int .u32 1056), .lit (.int .u32 0), .lit (.bool true), .lit (.string []), .lit (.bool false), .lit (.int .i64 0)], .agg [.lit (.string [116, 114, 121, 117, 112, 103, 114]), .lit (.int .u32 1056), .lit (.int .u32 0), .lit (.bool false), .lit (.string []), .lit (.bool false), .lit (.int .i64 0)], .agg [.lit (.string [117, 110, 117, 112, 103, 114]), .lit (.int .u32 1056), .lit (.int .u32 0), .lit (.bool false), .lit (.string [102, 97, 105, 114]), .lit (.bool false), .lit (.int .i64 0)], .agg [.lit (.string [119, 114, 105, 116, 101]), .lit (.int .u32 1056), .lit (.int .u32 0), .lit (.bool true), .lit (.string []), .lit (.bool false), .lit (.int .i64 0)], .agg [.lit (.string [116, 114, 121, 119, 114, 105, 116, 101]), .lit (.int .u32 1056), .lit (.int .u32 0), .lit (.bool false), .lit (.string []), .lit (.bool false), .lit (.int .i64 0)], .agg [.lit (.string [117, 110, 119, 114, 105, 116, 101]), .lit (.int .u32 1056), .lit (.int .u32 0), .lit (.bool false), .lit (.string [102, 97, 105, 114]), .lit (.bool false), .lit (.int .i64 0)], .agg [.lit (.string [117, 112]), .lit (.int .u32 1056), .lit (.int .u32 0), .lit (.bool true), .lit (.string []), .lit (.bool false), .lit (.int .i64 0)], .agg [.lit (.string [116, 114, 121, 117, 112]), .lit (.int .u32 1056), .lit (.int .u32 0), .lit (.bool false), .lit (.string []), .lit (.bool false), .lit (.int .i64 0)], .agg [.lit (.string [100, 111, 119, 110]), .lit (.int .u32 1056), .lit (.int .u32 0), .lit (.bool false), .lit (.string []), .lit (.bool false), .lit (.int .i64 0)], .agg [.lit (.string [115, 111, 102, 116]), .lit (.int .u32 1056), .lit (.int .u32 0), .lit (.bool false), .lit (.string []), .lit (.bool false), .lit (.int .i64 0)], .agg [.lit (.string [108, 111, 111, 115, 101]), .lit (.int .u32 1056), .lit (.int .u32 0), .lit (.bool false), .lit (.string []), .lit (.bool false), .lit (.int .i64 0)], .agg [.lit (.string [119, 97, 105, 116]), .lit (.int .u32 1088), .lit (.int .u32 1024), .lit (.bool true), .lit (.string []), .lit (.bool false), .lit (.int .i64 0)], .agg [.lit (.string [110, 111, 116, 105, 102, 121]), .lit (.int .u32 1088), .lit (.int .u32 0), .lit (.bool false), .lit (.string []), .lit (.bool false), .lit (.int .i64 0)], .agg [.lit (.string [110, 111, 116, 105, 102, 121, 97, 108, 108]), .lit (.int .u32 1088), .lit (.int .u32 0), .lit (.bool false), .lit (.string []), .lit (.bool false), .lit (.int .i64 0)], .agg [.lit (.string [100, 111]), .lit (.int .u32 1120), .lit (.int .u32 0), .lit (.bool false), .lit (.string [102, 111, 114, 99, 101]), .lit (.bool true), .lit (.int .i64 16)], .agg [.lit (.string [112, 97, 114, 107]), .lit (.int .u32 1152), .lit (.int .u32 0), .lit (.bool true), .lit (.string []), .lit (.bool false), .lit (.int .i64 256)], .agg [.lit (.string [111, 110, 101]), .lit (.int .u32 1152), .lit (.int .u32 0), .lit (.bool false), .lit (.string []), .lit (.bool false), .lit (.int .i64 256)], .agg [.lit (.string [97, 108, 108]), .lit (.int .u32 1152), .lit (.int .u32 0), .lit (.bool false), .lit (.string []), .lit (.bool false), .lit (.int .i64 256)], .agg [.lit (.string [115, 111, 109, 101]), .lit (.int .u32 1152), .lit (.int .u32 0), .lit (.bool false), .lit (.string []), .lit (.bool false), .lit (.int .i64 256)], .agg [.lit (.string [114, 101, 113, 117, 101, 117, 101]), .lit (.int .u32 1152), .lit (.int .u32 1152), .lit (.bool false), .lit (.string []), .lit (.bool false), .lit (.int .i64 5)]]
def laid_layby_programs_gives {H : Type} : DataW H := .agg [.agg [.lit (.int .u8 0), .lit (.int .u8 0)], .agg [.lit (.int .u8 0), .lit (.int .u8 0)], .agg [.lit (.int .u8 0), .lit (.int .u8 2)], .agg [.lit (.int .u8 0), .lit (.int .u8 0)], .agg [.lit (.int .u8 0), .lit (.int .u8 0)], .agg [.lit (.int .u8 3), .lit (.int .u8 5)], .agg [.lit (.int .u8 0), .lit (.int .u8 0)], .agg [.lit (.int .u8 0), .lit (.int .u8 0)], .agg [.lit (.int .u8 6), .lit (.int .u8 8)], .agg [.lit (.int .u8 0), .lit (.int .u8 0)], .agg [.lit (.int .u8 0), .lit (.int .u8 0)], .agg [.lit (.int .u8 9), .lit (.int .u8 11)], .agg [.lit (.int .u8 0), .lit (.int .u8 0)], .agg [.lit (.int .u8 0), .lit (.int .u8 0)], .agg [.lit (.int .u8 9), .lit (.int .u8 3)], .agg [.lit (.int .u8 9), .lit (.int .u8 6)], .agg [.lit (.int .u8 6), .lit (.int .u8 3)]]

/-- 'laybylaw01.MarksWord': WHATEVER THE INPUT: true; the input reads as it did. -/
def marksWordSpec : ChangeSpec := { name := "marksWord", fn := fun _ => fun
  | [d1, d2] => { results := [.lit (.bool true)], args := [d1, d2] }
  | _ => none }
def marksWordRow : OpenClaim := { program := "ytmjpaaippilioaadoor", sum := "3de0cbda5825efc7b6bc7d29e8c481eb77e2175b98a5c4c1a5e7c1399faa5f58", func := "layby/laybylaw01.MarksWord", spec := "marksWord", inPlace := ["internal/abi.NoEscape", "internal/bytealg.MakeNoZero"], named := ["layby/marks.mutexes", "internal/strconv.uint64pow10", "math/bits.deBruijn32tab", "math/bits.deBruijn64tab", "layby/marks.rws", "layby/marks.onces"], plainKeys := false, apart := false, laid := [("math/bits.deBruijn32tab", laid_math_bits_deBruijn32tab), ("math/bits.deBruijn64tab", laid_math_bits_deBruijn64tab), ("internal/strconv.uint64pow10", laid_internal_strconv_uint64pow10), ("layby/marks.mutexes", laid_layby_marks_mutexes), ("layby/marks.rws", laid_layby_marks_rws), ("layby/marks.onces", laid_layby_marks_onces)] }
def MarksWordSaid : Prop := marksWordRow.holds Tryd.pinned (OpenSpec.ofChange marksWordSpec)

/-- ITS FALSE NEIGHBOUR: 'it returns false'. Refute it at one input. -/
def marksWordWrong : ChangeSpec := { name := "marksWord", fn := fun _ => fun
  | [d1, d2] => { results := [.lit (.bool false)], args := [d1, d2] }
  | _ => none }
def MarksWordWrongFalsely : Prop := marksWordRow.holds Tryd.pinned (OpenSpec.ofChange marksWordWrong)

/-- 'laybylaw01.MarksText': WHATEVER THE INPUT: true; the input reads as it did. -/
def marksTextSpec : ChangeSpec := { name := "marksText", fn := fun _ => fun
  | [d] => { results := [.lit (.bool true)], args := [d] }
  | _ => none }
def marksTextRow : OpenClaim := { program := "ytmjpaaippilioaadoor", sum := "3de0cbda5825efc7b6bc7d29e8c481eb77e2175b98a5c4c1a5e7c1399faa5f58", func := "layby/laybylaw01.MarksText", spec := "marksText", inPlace := ["internal/abi.NoEscape", "internal/bytealg.MakeNoZero"], named := ["layby/marks.mutexes", "internal/strconv.uint64pow10", "math/bits.deBruijn32tab", "math/bits.deBruijn64tab", "layby/marks.rws", "layby/marks.onces"], plainKeys := false, apart := false, laid := [("math/bits.deBruijn32tab", laid_math_bits_deBruijn32tab), ("math/bits.deBruijn64tab", laid_math_bits_deBruijn64tab), ("internal/strconv.uint64pow10", laid_internal_strconv_uint64pow10), ("layby/marks.mutexes", laid_layby_marks_mutexes), ("layby/marks.rws", laid_layby_marks_rws), ("layby/marks.onces", laid_layby_marks_onces)] }
def MarksTextSaid : Prop := marksTextRow.holds Tryd.pinned (OpenSpec.ofChange marksTextSpec)

/-- ITS FALSE NEIGHBOUR: 'it returns false'. Refute it at one input. -/
def marksTextWrong : ChangeSpec := { name := "marksText", fn := fun _ => fun
  | [d] => { results := [.lit (.bool false)], args := [d] }
  | _ => none }
def MarksTextWrongFalsely : Prop := marksTextRow.holds Tryd.pinned (OpenSpec.ofChange marksTextWrong)

/-- 'laybylaw01.MarksBack': WHATEVER THE INPUT: true; the input reads as it did. -/
def marksBackSpec : ChangeSpec := { name := "marksBack", fn := fun _ => fun
  | [d1, d2, d3] => { results := [.lit (.bool true)], args := [d1, d2, d3] }
  | _ => none }
def marksBackRow : OpenClaim := { program := "ytmjpaaippilioaadoor", sum := "3de0cbda5825efc7b6bc7d29e8c481eb77e2175b98a5c4c1a5e7c1399faa5f58", func := "layby/laybylaw01.MarksBack", spec := "marksBack", inPlace := ["internal/abi.NoEscape", "internal/bytealg.MakeNoZero"], named := ["layby/marks.mutexes", "internal/strconv.uint64pow10", "math/bits.deBruijn32tab", "math/bits.deBruijn64tab", "layby/marks.rws", "layby/marks.onces"], plainKeys := false, apart := false, laid := [("math/bits.deBruijn32tab", laid_math_bits_deBruijn32tab), ("math/bits.deBruijn64tab", laid_math_bits_deBruijn64tab), ("internal/strconv.uint64pow10", laid_internal_strconv_uint64pow10), ("layby/marks.mutexes", laid_layby_marks_mutexes), ("layby/marks.rws", laid_layby_marks_rws), ("layby/marks.onces", laid_layby_marks_onces)] }
def MarksBackSaid : Prop := marksBackRow.holds Tryd.pinned (OpenSpec.ofChange marksBackSpec)

/-- ITS FALSE NEIGHBOUR: 'it returns false'. Refute it at one input. -/
def marksBackWrong : ChangeSpec := { name := "marksBack", fn := fun _ => fun
  | [d1, d2, d3] => { results := [.lit (.bool false)], args := [d1, d2, d3] }
  | _ => none }
def MarksBackWrongFalsely : Prop := marksBackRow.holds Tryd.pinned (OpenSpec.ofChange marksBackWrong)

/-- 'laybylaw01.MarksRw': WHATEVER THE INPUT: true; the input reads as it did. -/
def marksRwSpec : ChangeSpec := { name := "marksRw", fn := fun _ => fun
  | [d] => { results := [.lit (.bool true)], args := [d] }
  | _ => none }
def marksRwRow : OpenClaim := { program := "ytmjpaaippilioaadoor", sum := "3de0cbda5825efc7b6bc7d29e8c481eb77e2175b98a5c4c1a5e7c1399faa5f58", func := "layby/laybylaw01.MarksRw", spec := "marksRw", inPlace := ["internal/abi.NoEscape", "internal/bytealg.MakeNoZero"], named := ["layby/marks.mutexes", "internal/strconv.uint64pow10", "math/bits.deBruijn32tab", "math/bits.deBruijn64tab", "layby/marks.rws", "layby/marks.onces"], plainKeys := false, apart := false, laid := [("math/bits.deBruijn32tab", laid_math_bits_deBruijn32tab), ("math/bits.deBruijn64tab", laid_math_bits_deBruijn64tab), ("internal/strconv.uint64pow10", laid_internal_strconv_uint64pow10), ("layby/marks.mutexes", laid_layby_marks_mutexes), ("layby/marks.rws", laid_layby_marks_rws), ("layby/marks.onces", laid_layby_marks_onces)] }
def MarksRwSaid : Prop := marksRwRow.holds Tryd.pinned (OpenSpec.ofChange marksRwSpec)

/-- ITS FALSE NEIGHBOUR: 'it returns false'. Refute it at one input. -/
def marksRwWrong : ChangeSpec := { name := "marksRw", fn := fun _ => fun
  | [d] => { results := [.lit (.bool false)], args := [d] }
  | _ => none }
def MarksRwWrongFalsely : Prop := marksRwRow.holds Tryd.pinned (OpenSpec.ofChange marksRwWrong)

/-- 'laybylaw01.MarksReaders': WHATEVER THE INPUT: true; the input reads as it did. -/
def marksReadersSpec : ChangeSpec := { name := "marksReaders", fn := fun _ => fun
  | [d1, d2] => { results := [.lit (.bool true)], args := [d1, d2] }
  | _ => none }
def marksReadersRow : OpenClaim := { program := "ytmjpaaippilioaadoor", sum := "3de0cbda5825efc7b6bc7d29e8c481eb77e2175b98a5c4c1a5e7c1399faa5f58", func := "layby/laybylaw01.MarksReaders", spec := "marksReaders", inPlace := ["internal/abi.NoEscape", "internal/bytealg.MakeNoZero"], named := ["layby/marks.mutexes", "internal/strconv.uint64pow10", "math/bits.deBruijn32tab", "math/bits.deBruijn64tab", "layby/marks.rws", "layby/marks.onces"], plainKeys := false, apart := false, laid := [("math/bits.deBruijn32tab", laid_math_bits_deBruijn32tab), ("math/bits.deBruijn64tab", laid_math_bits_deBruijn64tab), ("internal/strconv.uint64pow10", laid_internal_strconv_uint64pow10), ("layby/marks.mutexes", laid_layby_marks_mutexes), ("layby/marks.rws", laid_layby_marks_rws), ("layby/marks.onces", laid_layby_marks_onces)] }
def MarksReadersSaid : Prop := marksReadersRow.holds Tryd.pinned (OpenSpec.ofChange marksReadersSpec)

/-- ITS FALSE NEIGHBOUR: 'it returns false'. Refute it at one input. -/
def marksReadersWrong : ChangeSpec := { name := "marksReaders", fn := fun _ => fun
  | [d1, d2] => { results := [.lit (.bool false)], args := [d1, d2] }
  | _ => none }
def MarksReadersWrongFalsely : Prop := marksReadersRow.holds Tryd.pinned (OpenSpec.ofChange marksReadersWrong)

/-- 'laybylaw34.ProgramsTidy': WHATEVER THE INPUT: true; the input reads as it did. -/
def programsTidySpec : ChangeSpec := { name := "programsTidy", fn := fun _ => fun
  | [d] => { results := [.lit (.bool true)], args := [d] }
  | _ => none }
def programsTidyRow : OpenClaim := { program := "ytmjpaaippilioaadoor", sum := "3de0cbda5825efc7b6bc7d29e8c481eb77e2175b98a5c4c1a5e7c1399faa5f58", func := "layby/laybylaw34.ProgramsTidy", spec := "programsTidy", inPlace := ["internal/abi.NoEscape", "internal/bytealg.MakeNoZero"], unfollowed := true, recurses := true, named := ["layby/programs.uses", "internal/strconv.uint64pow10", "math/bits.deBruijn32tab", "math/bits.deBruijn64tab", "layby/programs.gives"], plainKeys := false, apart := false, laid := [("math/bits.deBruijn32tab", laid_math_bits_deBruijn32tab), ("math/bits.deBruijn64tab", laid_math_bits_deBruijn64tab), ("internal/strconv.uint64pow10", laid_internal_strconv_uint64pow10), ("layby/programs.uses", laid_layby_programs_uses), ("layby/programs.gives", laid_layby_programs_gives)] }
def ProgramsTidySaid : Prop := programsTidyRow.holds Tryd.pinned (OpenSpec.ofChange programsTidySpec)

/-- ITS FALSE NEIGHBOUR: 'it returns false'. Refute it at one input. -/
def programsTidyWrong : ChangeSpec := { name := "programsTidy", fn := fun _ => fun
  | [d] => { results := [.lit (.bool false)], args := [d] }
  | _ => none }
def ProgramsTidyWrongFalsely : Prop := programsTidyRow.holds Tryd.pinned (OpenSpec.ofChange programsTidyWrong)

/-- 'laybylaw34.ProgramsJoin': WHATEVER THE INPUT: true; the input reads as it did. -/
def programsJoinSpec : ChangeSpec := { name := "programsJoin", fn := fun _ => fun
  | [d1, d2] => { results := [.lit (.bool true)], args := [d1, d2] }
  | _ => none }
def programsJoinRow : OpenClaim := { program := "ytmjpaaippilioaadoor", sum := "3de0cbda5825efc7b6bc7d29e8c481eb77e2175b98a5c4c1a5e7c1399faa5f58", func := "layby/laybylaw34.ProgramsJoin", spec := "programsJoin", inPlace := ["internal/abi.NoEscape", "internal/bytealg.MakeNoZero"], unfollowed := true, recurses := true, named := ["layby/programs.uses", "internal/strconv.uint64pow10", "math/bits.deBruijn32tab", "math/bits.deBruijn64tab", "layby/programs.gives"], plainKeys := false, apart := false, laid := [("math/bits.deBruijn32tab", laid_math_bits_deBruijn32tab), ("math/bits.deBruijn64tab", laid_math_bits_deBruijn64tab), ("internal/strconv.uint64pow10", laid_internal_strconv_uint64pow10), ("layby/programs.uses", laid_layby_programs_uses), ("layby/programs.gives", laid_layby_programs_gives)] }
def ProgramsJoinSaid : Prop := programsJoinRow.holds Tryd.pinned (OpenSpec.ofChange programsJoinSpec)

/-- ITS FALSE NEIGHBOUR: 'it returns false'. Refute it at one input. -/
def programsJoinWrong : ChangeSpec := { name := "programsJoin", fn := fun _ => fun
  | [d1, d2] => { results := [.lit (.bool false)], args := [d1, d2] }
  | _ => none }
def ProgramsJoinWrongFalsely : Prop := programsJoinRow.holds Tryd.pinned (OpenSpec.ofChange programsJoinWrong)

/-- 'laybylaw34.ProgramsChoose': WHATEVER THE INPUT: true; the input reads as it did. -/
def programsChooseSpec : ChangeSpec := { name := "programsChoose", fn := fun _ => fun
  | [d1, d2] => { results := [.lit (.bool true)], args := [d1, d2] }
  | _ => none }
def programsChooseRow : OpenClaim := { program := "ytmjpaaippilioaadoor", sum := "3de0cbda5825efc7b6bc7d29e8c481eb77e2175b98a5c4c1a5e7c1399faa5f58", func := "layby/laybylaw34.ProgramsChoose", spec := "programsChoose", inPlace := ["internal/abi.NoEscape", "internal/bytealg.MakeNoZero"], unfollowed := true, recurses := true, named := ["layby/programs.uses", "internal/strconv.uint64pow10", "math/bits.deBruijn32tab", "math/bits.deBruijn64tab", "layby/programs.gives"], plainKeys := false, apart := false, laid := [("math/bits.deBruijn32tab", laid_math_bits_deBruijn32tab), ("math/bits.deBruijn64tab", laid_math_bits_deBruijn64tab), ("internal/strconv.uint64pow10", laid_internal_strconv_uint64pow10), ("layby/programs.uses", laid_layby_programs_uses), ("layby/programs.gives", laid_layby_programs_gives)] }
def ProgramsChooseSaid : Prop := programsChooseRow.holds Tryd.pinned (OpenSpec.ofChange programsChooseSpec)

/-- ITS FALSE NEIGHBOUR: 'it returns false'. Refute it at one input. -/
def programsChooseWrong : ChangeSpec := { name := "programsChoose", fn := fun _ => fun
  | [d1, d2] => { results := [.lit (.bool false)], args := [d1, d2] }
  | _ => none }
def ProgramsChooseWrongFalsely : Prop := programsChooseRow.holds Tryd.pinned (OpenSpec.ofChange programsChooseWrong)

/-- 'laybylaw34.ProgramsFilter': WHATEVER THE INPUT: true; the input reads as it did. -/
def programsFilterSpec : ChangeSpec := { name := "programsFilter", fn := fun _ => fun
  | [d1, d2] => { results := [.lit (.bool true)], args := [d1, d2] }
  | _ => none }
def programsFilterRow : OpenClaim := { program := "ytmjpaaippilioaadoor", sum := "3de0cbda5825efc7b6bc7d29e8c481eb77e2175b98a5c4c1a5e7c1399faa5f58", func := "layby/laybylaw34.ProgramsFilter", spec := "programsFilter", inPlace := ["internal/abi.NoEscape", "internal/bytealg.MakeNoZero"], unfollowed := true, recurses := true, named := ["layby/programs.uses", "internal/strconv.uint64pow10", "math/bits.deBruijn32tab", "math/bits.deBruijn64tab", "layby/programs.gives"], plainKeys := false, apart := false, laid := [("math/bits.deBruijn32tab", laid_math_bits_deBruijn32tab), ("math/bits.deBruijn64tab", laid_math_bits_deBruijn64tab), ("internal/strconv.uint64pow10", laid_internal_strconv_uint64pow10), ("layby/programs.uses", laid_layby_programs_uses), ("layby/programs.gives", laid_layby_programs_gives)] }
def ProgramsFilterSaid : Prop := programsFilterRow.holds Tryd.pinned (OpenSpec.ofChange programsFilterSpec)

/-- ITS FALSE NEIGHBOUR: 'it returns false'. Refute it at one input. -/
def programsFilterWrong : ChangeSpec := { name := "programsFilter", fn := fun _ => fun
  | [d1, d2] => { results := [.lit (.bool false)], args := [d1, d2] }
  | _ => none }
def ProgramsFilterWrongFalsely : Prop := programsFilterRow.holds Tryd.pinned (OpenSpec.ofChange programsFilterWrong)

/-- 'laybylaw34.ProgramsParse': WHATEVER THE INPUT: true; the input reads as it did. -/
def programsParseSpec : ChangeSpec := { name := "programsParse", fn := fun _ => fun
  | [d1, d2] => { results := [.lit (.bool true)], args := [d1, d2] }
  | _ => none }
def programsParseRow : OpenClaim := { program := "ytmjpaaippilioaadoor", sum := "3de0cbda5825efc7b6bc7d29e8c481eb77e2175b98a5c4c1a5e7c1399faa5f58", func := "layby/laybylaw34.ProgramsParse", spec := "programsParse", inPlace := ["internal/abi.NoEscape", "internal/bytealg.MakeNoZero"], unfollowed := true, recurses := true, named := ["layby/programs.uses", "internal/strconv.uint64pow10", "math/bits.deBruijn32tab", "math/bits.deBruijn64tab", "layby/programs.gives"], plainKeys := false, apart := false, laid := [("math/bits.deBruijn32tab", laid_math_bits_deBruijn32tab), ("math/bits.deBruijn64tab", laid_math_bits_deBruijn64tab), ("internal/strconv.uint64pow10", laid_internal_strconv_uint64pow10), ("layby/programs.uses", laid_layby_programs_uses), ("layby/programs.gives", laid_layby_programs_gives)] }
def ProgramsParseSaid : Prop := programsParseRow.holds Tryd.pinned (OpenSpec.ofChange programsParseSpec)

/-- ITS FALSE NEIGHBOUR: 'it returns false'. Refute it at one input. -/
def programsParseWrong : ChangeSpec := { name := "programsParse", fn := fun _ => fun
  | [d1, d2] => { results := [.lit (.bool false)], args := [d1, d2] }
  | _ => none }
def ProgramsParseWrongFalsely : Prop := programsParseRow.holds Tryd.pinned (OpenSpec.ofChange programsParseWrong)

/-- 'laybylaw34.ProgramsTurns': WHATEVER THE INPUT: true; the input reads as it did. -/
def programsTurnsSpec : ChangeSpec := { name := "programsTurns", fn := fun _ => fun
  | [d1, d2] => { results := [.lit (.bool true)], args := [d1, d2] }
  | _ => none }
def programsTurnsRow : OpenClaim := { program := "ytmjpaaippilioaadoor", sum := "3de0cbda5825efc7b6bc7d29e8c481eb77e2175b98a5c4c1a5e7c1399faa5f58", func := "layby/laybylaw34.ProgramsTurns", spec := "programsTurns", inPlace := ["internal/abi.NoEscape", "internal/bytealg.MakeNoZero"], unfollowed := true, recurses := true, named := ["layby/programs.uses", "internal/strconv.uint64pow10", "math/bits.deBruijn32tab", "math/bits.deBruijn64tab", "layby/programs.gives"], plainKeys := false, apart := false, laid := [("math/bits.deBruijn32tab", laid_math_bits_deBruijn32tab), ("math/bits.deBruijn64tab", laid_math_bits_deBruijn64tab), ("internal/strconv.uint64pow10", laid_internal_strconv_uint64pow10), ("layby/programs.uses", laid_layby_programs_uses), ("layby/programs.gives", laid_layby_programs_gives)] }
def ProgramsTurnsSaid : Prop := programsTurnsRow.holds Tryd.pinned (OpenSpec.ofChange programsTurnsSpec)

/-- ITS FALSE NEIGHBOUR: 'it returns false'. Refute it at one input. -/
def programsTurnsWrong : ChangeSpec := { name := "programsTurns", fn := fun _ => fun
  | [d1, d2] => { results := [.lit (.bool false)], args := [d1, d2] }
  | _ => none }
def ProgramsTurnsWrongFalsely : Prop := programsTurnsRow.holds Tryd.pinned (OpenSpec.ofChange programsTurnsWrong)

/-- 'laybylaw34.ProgramsAny': WHATEVER THE INPUT: true; the input reads as it did. -/
def programsAnySpec : ChangeSpec := { name := "programsAny", fn := fun _ => fun
  | [d] => { results := [.lit (.bool true)], args := [d] }
  | _ => none }
def programsAnyRow : OpenClaim := { program := "ytmjpaaippilioaadoor", sum := "3de0cbda5825efc7b6bc7d29e8c481eb77e2175b98a5c4c1a5e7c1399faa5f58", func := "layby/laybylaw34.ProgramsAny", spec := "programsAny", inPlace := ["internal/abi.NoEscape", "internal/bytealg.MakeNoZero"], unfollowed := true, recurses := true, named := ["layby/programs.uses", "internal/strconv.uint64pow10", "math/bits.deBruijn32tab", "math/bits.deBruijn64tab", "layby/programs.gives"], plainKeys := false, apart := false, laid := [("math/bits.deBruijn32tab", laid_math_bits_deBruijn32tab), ("math/bits.deBruijn64tab", laid_math_bits_deBruijn64tab), ("internal/strconv.uint64pow10", laid_internal_strconv_uint64pow10), ("layby/programs.uses", laid_layby_programs_uses), ("layby/programs.gives", laid_layby_programs_gives)] }
def ProgramsAnySaid : Prop := programsAnyRow.holds Tryd.pinned (OpenSpec.ofChange programsAnySpec)

/-- ITS FALSE NEIGHBOUR: 'it returns false'. Refute it at one input. -/
def programsAnyWrong : ChangeSpec := { name := "programsAny", fn := fun _ => fun
  | [d] => { results := [.lit (.bool false)], args := [d] }
  | _ => none }
def ProgramsAnyWrongFalsely : Prop := programsAnyRow.holds Tryd.pinned (OpenSpec.ofChange programsAnyWrong)

/- THE SECOND FORM. 'bulk': how many values and letters a reading holds, each counted each time it is reached (what is shared counts as often as it is met; a slice's spare places count too). A statement '..UptoSaid' is the law's where the arguments, and the package variables that the reading takes, are together of bulk at most 1048576: NARROWER than '..Said'. Prove '..Said' where nothing that the law and all that it calls make is longer than what came in: it says more and counts as full. Else prove '..UptoSaid'. A law counts once. -/
mutual
def uptoBulk {H : Type} : DataW H → Nat
  | .lit (.string bytes) => bytes.length + 1
  | .lit _ => 1
  | .nil => 1
  | .ptr d => uptoBulk d + 1
  | .slice elems spare => uptoBulkAll elems + uptoBulkAll spare + 1
  | .agg parts => uptoBulkAll parts + 1
  | .iface _ d => uptoBulk d + 1
  | .map entries => uptoBulkEntries entries + 1
  | .held _ => 1
def uptoBulkAll {H : Type} : List (DataW H) → Nat
  | [] => 0
  | d :: r => uptoBulk d + uptoBulkAll r
def uptoBulkEntries {H : Type} : List (Lit × DataW H) → Nat
  | [] => 0
  | x :: r => uptoBulkEntry x + uptoBulkEntries r
def uptoBulkEntry {H : Type} : Lit × DataW H → Nat
  | (.string bytes, d) => bytes.length + uptoBulk d + 1
  | (_, d) => uptoBulk d + 1
 end
def uptoSmall : (H : Type) → List (DataW H) → Bool := fun _ ds => decide (uptoBulkAll ds ≤ 1048576)
def OpenSpec.upto (s : _root_.Go.ChangeSpec) : _root_.Go.OpenSpec := { _root_.Go.OpenSpec.ofChange s with cond := some uptoSmall }

/-- 'laybylaw01.MarksWord', WHERE WHAT IT READS IS OF BULK AT MOST 1048576: true; the input reads as it did. -/
def marksWordUptoRow : OpenClaim := { program := "ytmjpaaippilioaadoor", sum := "3de0cbda5825efc7b6bc7d29e8c481eb77e2175b98a5c4c1a5e7c1399faa5f58", func := "layby/laybylaw01.MarksWord", spec := "marksWord", inPlace := ["internal/abi.NoEscape", "internal/bytealg.MakeNoZero"], named := ["layby/marks.mutexes", "internal/strconv.uint64pow10", "math/bits.deBruijn32tab", "math/bits.deBruijn64tab", "layby/marks.rws", "layby/marks.onces"], plainKeys := false, apart := false, laid := [("math/bits.deBruijn32tab", laid_math_bits_deBruijn32tab), ("math/bits.deBruijn64tab", laid_math_bits_deBruijn64tab), ("internal/strconv.uint64pow10", laid_internal_strconv_uint64pow10), ("layby/marks.mutexes", laid_layby_marks_mutexes), ("layby/marks.rws", laid_layby_marks_rws), ("layby/marks.onces", laid_layby_marks_onces)], narrowed := true }
def MarksWordUptoSaid : Prop := marksWordUptoRow.holds Tryd.pinned (OpenSpec.upto marksWordSpec)

/-- 'laybylaw01.MarksText', WHERE WHAT IT READS IS OF BULK AT MOST 1048576: true; the input reads as it did. -/
def marksTextUptoRow : OpenClaim := { program := "ytmjpaaippilioaadoor", sum := "3de0cbda5825efc7b6bc7d29e8c481eb77e2175b98a5c4c1a5e7c1399faa5f58", func := "layby/laybylaw01.MarksText", spec := "marksText", inPlace := ["internal/abi.NoEscape", "internal/bytealg.MakeNoZero"], named := ["layby/marks.mutexes", "internal/strconv.uint64pow10", "math/bits.deBruijn32tab", "math/bits.deBruijn64tab", "layby/marks.rws", "layby/marks.onces"], plainKeys := false, apart := false, laid := [("math/bits.deBruijn32tab", laid_math_bits_deBruijn32tab), ("math/bits.deBruijn64tab", laid_math_bits_deBruijn64tab), ("internal/strconv.uint64pow10", laid_internal_strconv_uint64pow10), ("layby/marks.mutexes", laid_layby_marks_mutexes), ("layby/marks.rws", laid_layby_marks_rws), ("layby/marks.onces", laid_layby_marks_onces)], narrowed := true }
def MarksTextUptoSaid : Prop := marksTextUptoRow.holds Tryd.pinned (OpenSpec.upto marksTextSpec)

/-- 'laybylaw01.MarksBack', WHERE WHAT IT READS IS OF BULK AT MOST 1048576: true; the input reads as it did. -/
def marksBackUptoRow : OpenClaim := { program := "ytmjpaaippilioaadoor", sum := "3de0cbda5825efc7b6bc7d29e8c481eb77e2175b98a5c4c1a5e7c1399faa5f58", func := "layby/laybylaw01.MarksBack", spec := "marksBack", inPlace := ["internal/abi.NoEscape", "internal/bytealg.MakeNoZero"], named := ["layby/marks.mutexes", "internal/strconv.uint64pow10", "math/bits.deBruijn32tab", "math/bits.deBruijn64tab", "layby/marks.rws", "layby/marks.onces"], plainKeys := false, apart := false, laid := [("math/bits.deBruijn32tab", laid_math_bits_deBruijn32tab), ("math/bits.deBruijn64tab", laid_math_bits_deBruijn64tab), ("internal/strconv.uint64pow10", laid_internal_strconv_uint64pow10), ("layby/marks.mutexes", laid_layby_marks_mutexes), ("layby/marks.rws", laid_layby_marks_rws), ("layby/marks.onces", laid_layby_marks_onces)], narrowed := true }
def MarksBackUptoSaid : Prop := marksBackUptoRow.holds Tryd.pinned (OpenSpec.upto marksBackSpec)

/-- 'laybylaw01.MarksRw', WHERE WHAT IT READS IS OF BULK AT MOST 1048576: true; the input reads as it did. -/
def marksRwUptoRow : OpenClaim := { program := "ytmjpaaippilioaadoor", sum := "3de0cbda5825efc7b6bc7d29e8c481eb77e2175b98a5c4c1a5e7c1399faa5f58", func := "layby/laybylaw01.MarksRw", spec := "marksRw", inPlace := ["internal/abi.NoEscape", "internal/bytealg.MakeNoZero"], named := ["layby/marks.mutexes", "internal/strconv.uint64pow10", "math/bits.deBruijn32tab", "math/bits.deBruijn64tab", "layby/marks.rws", "layby/marks.onces"], plainKeys := false, apart := false, laid := [("math/bits.deBruijn32tab", laid_math_bits_deBruijn32tab), ("math/bits.deBruijn64tab", laid_math_bits_deBruijn64tab), ("internal/strconv.uint64pow10", laid_internal_strconv_uint64pow10), ("layby/marks.mutexes", laid_layby_marks_mutexes), ("layby/marks.rws", laid_layby_marks_rws), ("layby/marks.onces", laid_layby_marks_onces)], narrowed := true }
def MarksRwUptoSaid : Prop := marksRwUptoRow.holds Tryd.pinned (OpenSpec.upto marksRwSpec)

/-- 'laybylaw01.MarksReaders', WHERE WHAT IT READS IS OF BULK AT MOST 1048576: true; the input reads as it did. -/
def marksReadersUptoRow : OpenClaim := { program := "ytmjpaaippilioaadoor", sum := "3de0cbda5825efc7b6bc7d29e8c481eb77e2175b98a5c4c1a5e7c1399faa5f58", func := "layby/laybylaw01.MarksReaders", spec := "marksReaders", inPlace := ["internal/abi.NoEscape", "internal/bytealg.MakeNoZero"], named := ["layby/marks.mutexes", "internal/strconv.uint64pow10", "math/bits.deBruijn32tab", "math/bits.deBruijn64tab", "layby/marks.rws", "layby/marks.onces"], plainKeys := false, apart := false, laid := [("math/bits.deBruijn32tab", laid_math_bits_deBruijn32tab), ("math/bits.deBruijn64tab", laid_math_bits_deBruijn64tab), ("internal/strconv.uint64pow10", laid_internal_strconv_uint64pow10), ("layby/marks.mutexes", laid_layby_marks_mutexes), ("layby/marks.rws", laid_layby_marks_rws), ("layby/marks.onces", laid_layby_marks_onces)], narrowed := true }
def MarksReadersUptoSaid : Prop := marksReadersUptoRow.holds Tryd.pinned (OpenSpec.upto marksReadersSpec)

/-- 'laybylaw34.ProgramsTidy', WHERE WHAT IT READS IS OF BULK AT MOST 1048576: true; the input reads as it did. -/
def programsTidyUptoRow : OpenClaim := { program := "ytmjpaaippilioaadoor", sum := "3de0cbda5825efc7b6bc7d29e8c481eb77e2175b98a5c4c1a5e7c1399faa5f58", func := "layby/laybylaw34.ProgramsTidy", spec := "programsTidy", inPlace := ["internal/abi.NoEscape", "internal/bytealg.MakeNoZero"], unfollowed := true, recurses := true, named := ["layby/programs.uses", "internal/strconv.uint64pow10", "math/bits.deBruijn32tab", "math/bits.deBruijn64tab", "layby/programs.gives"], plainKeys := false, apart := false, laid := [("math/bits.deBruijn32tab", laid_math_bits_deBruijn32tab), ("math/bits.deBruijn64tab", laid_math_bits_deBruijn64tab), ("internal/strconv.uint64pow10", laid_internal_strconv_uint64pow10), ("layby/programs.uses", laid_layby_programs_uses), ("layby/programs.gives", laid_layby_programs_gives)], narrowed := true }
def ProgramsTidyUptoSaid : Prop := programsTidyUptoRow.holds Tryd.pinned (OpenSpec.upto programsTidySpec)

/-- 'laybylaw34.ProgramsJoin', WHERE WHAT IT READS IS OF BULK AT MOST 1048576: true; the input reads as it did. -/
def programsJoinUptoRow : OpenClaim := { program := "ytmjpaaippilioaadoor", sum := "3de0cbda5825efc7b6bc7d29e8c481eb77e2175b98a5c4c1a5e7c1399faa5f58", func := "layby/laybylaw34.ProgramsJoin", spec := "programsJoin", inPlace := ["internal/abi.NoEscape", "internal/bytealg.MakeNoZero"], unfollowed := true, recurses := true, named := ["layby/programs.uses", "internal/strconv.uint64pow10", "math/bits.deBruijn32tab", "math/bits.deBruijn64tab", "layby/programs.gives"], plainKeys := false, apart := false, laid := [("math/bits.deBruijn32tab", laid_math_bits_deBruijn32tab), ("math/bits.deBruijn64tab", laid_math_bits_deBruijn64tab), ("internal/strconv.uint64pow10", laid_internal_strconv_uint64pow10), ("layby/programs.uses", laid_layby_programs_uses), ("layby/programs.gives", laid_layby_programs_gives)], narrowed := true }
def ProgramsJoinUptoSaid : Prop := programsJoinUptoRow.holds Tryd.pinned (OpenSpec.upto programsJoinSpec)

/-- 'laybylaw34.ProgramsChoose', WHERE WHAT IT READS IS OF BULK AT MOST 1048576: true; the input reads as it did. -/
def programsChooseUptoRow : OpenClaim := { program := "ytmjpaaippilioaadoor", sum := "3de0cbda5825efc7b6bc7d29e8c481eb77e2175b98a5c4c1a5e7c1399faa5f58", func := "layby/laybylaw34.ProgramsChoose", spec := "programsChoose", inPlace := ["internal/abi.NoEscape", "internal/bytealg.MakeNoZero"], unfollowed := true, recurses := true, named := ["layby/programs.uses", "internal/strconv.uint64pow10", "math/bits.deBruijn32tab", "math/bits.deBruijn64tab", "layby/programs.gives"], plainKeys := false, apart := false, laid := [("math/bits.deBruijn32tab", laid_math_bits_deBruijn32tab), ("math/bits.deBruijn64tab", laid_math_bits_deBruijn64tab), ("internal/strconv.uint64pow10", laid_internal_strconv_uint64pow10), ("layby/programs.uses", laid_layby_programs_uses), ("layby/programs.gives", laid_layby_programs_gives)], narrowed := true }
def ProgramsChooseUptoSaid : Prop := programsChooseUptoRow.holds Tryd.pinned (OpenSpec.upto programsChooseSpec)

/-- 'laybylaw34.ProgramsFilter', WHERE WHAT IT READS IS OF BULK AT MOST 1048576: true; the input reads as it did. -/
def programsFilterUptoRow : OpenClaim := { program := "ytmjpaaippilioaadoor", sum := "3de0cbda5825efc7b6bc7d29e8c481eb77e2175b98a5c4c1a5e7c1399faa5f58", func := "layby/laybylaw34.ProgramsFilter", spec := "programsFilter", inPlace := ["internal/abi.NoEscape", "internal/bytealg.MakeNoZero"], unfollowed := true, recurses := true, named := ["layby/programs.uses", "internal/strconv.uint64pow10", "math/bits.deBruijn32tab", "math/bits.deBruijn64tab", "layby/programs.gives"], plainKeys := false, apart := false, laid := [("math/bits.deBruijn32tab", laid_math_bits_deBruijn32tab), ("math/bits.deBruijn64tab", laid_math_bits_deBruijn64tab), ("internal/strconv.uint64pow10", laid_internal_strconv_uint64pow10), ("layby/programs.uses", laid_layby_programs_uses), ("layby/programs.gives", laid_layby_programs_gives)], narrowed := true }
def ProgramsFilterUptoSaid : Prop := programsFilterUptoRow.holds Tryd.pinned (OpenSpec.upto programsFilterSpec)

/-- 'laybylaw34.ProgramsParse', WHERE WHAT IT READS IS OF BULK AT MOST 1048576: true; the input reads as it did. -/
def programsParseUptoRow : OpenClaim := { program := "ytmjpaaippilioaadoor", sum := "3de0cbda5825efc7b6bc7d29e8c481eb77e2175b98a5c4c1a5e7c1399faa5f58", func := "layby/laybylaw34.ProgramsParse", spec := "programsParse", inPlace := ["internal/abi.NoEscape", "internal/bytealg.MakeNoZero"], unfollowed := true, recurses := true, named := ["layby/programs.uses", "internal/strconv.uint64pow10", "math/bits.deBruijn32tab", "math/bits.deBruijn64tab", "layby/programs.gives"], plainKeys := false, apart := false, laid := [("math/bits.deBruijn32tab", laid_math_bits_deBruijn32tab), ("math/bits.deBruijn64tab", laid_math_bits_deBruijn64tab), ("internal/strconv.uint64pow10", laid_internal_strconv_uint64pow10), ("layby/programs.uses", laid_layby_programs_uses), ("layby/programs.gives", laid_layby_programs_gives)], narrowed := true }
def ProgramsParseUptoSaid : Prop := programsParseUptoRow.holds Tryd.pinned (OpenSpec.upto programsParseSpec)

/-- 'laybylaw34.ProgramsTurns', WHERE WHAT IT READS IS OF BULK AT MOST 1048576: true; the input reads as it did. -/
def programsTurnsUptoRow : OpenClaim := { program := "ytmjpaaippilioaadoor", sum := "3de0cbda5825efc7b6bc7d29e8c481eb77e2175b98a5c4c1a5e7c1399faa5f58", func := "layby/laybylaw34.ProgramsTurns", spec := "programsTurns", inPlace := ["internal/abi.NoEscape", "internal/bytealg.MakeNoZero"], unfollowed := true, recurses := true, named := ["layby/programs.uses", "internal/strconv.uint64pow10", "math/bits.deBruijn32tab", "math/bits.deBruijn64tab", "layby/programs.gives"], plainKeys := false, apart := false, laid := [("math/bits.deBruijn32tab", laid_math_bits_deBruijn32tab), ("math/bits.deBruijn64tab", laid_math_bits_deBruijn64tab), ("internal/strconv.uint64pow10", laid_internal_strconv_uint64pow10), ("layby/programs.uses", laid_layby_programs_uses), ("layby/programs.gives", laid_layby_programs_gives)], narrowed := true }
def ProgramsTurnsUptoSaid : Prop := programsTurnsUptoRow.holds Tryd.pinned (OpenSpec.upto programsTurnsSpec)

/-- 'laybylaw34.ProgramsAny', WHERE WHAT IT READS IS OF BULK AT MOST 1048576: true; the input reads as it did. -/
def programsAnyUptoRow : OpenClaim := { program := "ytmjpaaippilioaadoor", sum := "3de0cbda5825efc7b6bc7d29e8c481eb77e2175b98a5c4c1a5e7c1399faa5f58", func := "layby/laybylaw34.ProgramsAny", spec := "programsAny", inPlace := ["internal/abi.NoEscape", "internal/bytealg.MakeNoZero"], unfollowed := true, recurses := true, named := ["layby/programs.uses", "internal/strconv.uint64pow10", "math/bits.deBruijn32tab", "math/bits.deBruijn64tab", "layby/programs.gives"], plainKeys := false, apart := false, laid := [("math/bits.deBruijn32tab", laid_math_bits_deBruijn32tab), ("math/bits.deBruijn64tab", laid_math_bits_deBruijn64tab), ("internal/strconv.uint64pow10", laid_internal_strconv_uint64pow10), ("layby/programs.uses", laid_layby_programs_uses), ("layby/programs.gives", laid_layby_programs_gives)], narrowed := true }
def ProgramsAnyUptoSaid : Prop := programsAnyUptoRow.holds Tryd.pinned (OpenSpec.upto programsAnySpec)

end Rows
end Go.Proofs.YtmjpaaippilioaaDoor

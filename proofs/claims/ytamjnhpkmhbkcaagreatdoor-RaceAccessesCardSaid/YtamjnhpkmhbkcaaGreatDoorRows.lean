/-
  NARROWER THAN 'FOR EVERY INPUT', by the rows' own cells (each row's printed sentence says how): CheckTells: laid · CheckDeep: laid · ParseTells: laid · ParseBack: laid · ThreadRuns: laid · ThreadModes: laid · ThreadEnds: laid · RaceAccesses: laid · CheckParsed: laid · RaceFinds: laid · RaceNone: laid · ScTurns: laid.
  DERIVED. THE GIVEN ROWS OF THIS SEAT. 12 by the template 'for every input the law returns true; each argument reads behind the call as it read before'; 0 by the template 'total and deterministic' (their statements: YtamjnhpkmhbkcaaGreatDoorTotals.lean).
  GIVEN WITH THE SEED: the statements are not yours to turn. If you find one false, say at which input.
  Laid BY PROGRAM, IN A SANDBOX (cutbox-rows.mjs): the forced cells as the released guide's own fill.sh prints them over the translation b2ca62d78d42a378… (all of the seat's roots in one cut). By AI agents, Wed Nov 11 2026. No macro, syntax, notation, axiom, sorry.
-/
import Derived.Test.YtamjnhpkmhbkcaaGreatDoorChecked
import GoSem.Claim
import GoSem.ClaimJoined
import GoSem.ClaimMapViews
import Derived.JoinedTies
import Derived.KernelRfl
namespace Go.Proofs.YtamjnhpkmhbkcaaGreatDoor
/- THE CELL 'sum', in the pinned program and in every row, IS THE sha256 OF THE DUMP (.gsa) THAT YtamjnhpkmhbkcaaGreatDoorProg.lean LOADS. Nothing in Lean hashes anything: it is a label: what it is worth is what the hold of that sum in a sandbox is worth. -/
noncomputable def Tryz.pinned : Pinned := { name := "ytamjnhpkmhbkcaagreatdoor", sum := "b2ca62d78d42a378a416cb53c4ad77daa555da3dcaffaf9d60e368608a1c7889", checked := Tryz.checked }
namespace Rows
def none {H : Type} : Left H := { results := [], args := [] }

/- WHAT THE LISTED PACKAGE-LEVEL VARIABLES READ AS WHEN THE CALL BEGINS. Each datum BY PROGRAM (the guide's laid-datum.mjs) off the statement by which the dump's own 'gosem.cut.vars' lays the variable. In a bare row this is a premise. The card (YtamjnhpkmhbkcaaGreatDoorCards.lean) ties it to the program's text. -/
def laid_math_bits_deBruijn32tab {H : Type} : DataW H := .agg [.lit (.int .u8 0), .lit (.int .u8 1), .lit (.int .u8 28), .lit (.int .u8 2), .lit (.int .u8 29), .lit (.int .u8 14), .lit (.int .u8 24), .lit (.int .u8 3), .lit (.int .u8 30), .lit (.int .u8 22), .lit (.int .u8 20), .lit (.int .u8 15), .lit (.int .u8 25), .lit (.int .u8 17), .lit (.int .u8 4), .lit (.int .u8 8), .lit (.int .u8 31), .lit (.int .u8 27), .lit (.int .u8 13), .lit (.int .u8 23), .lit (.int .u8 21), .lit (.int .u8 19), .lit (.int .u8 16), .lit (.int .u8 7), .lit (.int .u8 26), .lit (.int .u8 12), .lit (.int .u8 18), .lit (.int .u8 6), .lit (.int .u8 11), .lit (.int .u8 5), .lit (.int .u8 10), .lit (.int .u8 9)]
def laid_math_bits_deBruijn64tab {H : Type} : DataW H := .agg [.lit (.int .u8 0), .lit (.int .u8 1), .lit (.int .u8 56), .lit (.int .u8 2), .lit (.int .u8 57), .lit (.int .u8 49), .lit (.int .u8 28), .lit (.int .u8 3), .lit (.int .u8 61), .lit (.int .u8 58), .lit (.int .u8 42), .lit (.int .u8 50), .lit (.int .u8 38), .lit (.int .u8 29), .lit (.int .u8 17), .lit (.int .u8 4), .lit (.int .u8 62), .lit (.int .u8 47), .lit (.int .u8 59), .lit (.int .u8 36), .lit (.int .u8 45), .lit (.int .u8 43), .lit (.int .u8 51), .lit (.int .u8 22), .lit (.int .u8 53), .lit (.int .u8 39), .lit (.int .u8 33), .lit (.int .u8 30), .lit (.int .u8 24), .lit (.int .u8 18), .lit (.int .u8 12), .lit (.int .u8 5), .lit (.int .u8 63), .lit (.int .u8 55), .lit (.int .u8 48), .lit (.int .u8 27), .lit (.int .u8 60), .lit (.int .u8 41), .lit (.int .u8 37), .lit (.int .u8 16), .lit (.int .u8 46), .lit (.int .u8 35), .lit (.int .u8 44), .lit (.int .u8 21), .lit (.int .u8 52), .lit (.int .u8 32), .lit (.int .u8 23), .lit (.int .u8 11), .lit (.int .u8 54), .lit (.int .u8 26), .lit (.int .u8 40), .lit (.int .u8 15), .lit (.int .u8 34), .lit (.int .u8 20), .lit (.int .u8 31), .lit (.int .u8 10), .lit (.int .u8 25), .lit (.int .u8 14), .lit (.int .u8 19), .lit (.int .u8 9), .lit (.int .u8 13), .lit (.int .u8 8), .lit (.int .u8 7), .lit (.int .u8 6)]
def laid_internal_strconv_uint64pow10 {H : Type} : DataW H := .agg [.lit (.int .u64 1), .lit (.int .u64 10), .lit (.int .u64 100), .lit (.int .u64 1000), .lit (.int .u64 10000), .lit (.int .u64 100000), .lit (.int .u64 1000000), .lit (.int .u64 10000000), .lit (.int .u64 100000000), .lit (.int .u64 1000000000), .lit (.int .u64 10000000000), .lit (.int .u64 100000000000), .lit (.int .u64 1000000000000), .lit (.int .u64 10000000000000), .lit (.int .u64 100000000000000), .lit (.int .u64 1000000000000000), .lit (.int .u64 10000000000000000), .lit (.int .u64 100000000000000000), .lit (.int .u64 1000000000000000000), .lit (.int .u64 10000000000000000000)]
def laid_strconv_ErrRange {H : Type} : DataW H := .iface "*errors.errorString" (.ptr (.agg [.lit (.string [118, 97, 108, 117, 101, 32, 111, 117, 116, 32, 111, 102, 32, 114, 97, 110, 103, 101])]))
def laid_strconv_ErrSyntax {H : Type} : DataW H := .iface "*errors.errorString" (.ptr (.agg [.lit (.string [105, 110, 118, 97, 108, 105, 100, 32, 115, 121, 110, 116, 97, 120])]))
def laid_troth_num_texts {H : Type} : DataW H := .agg [.lit (.string []), .lit (.string [61, 61]), .lit (.string [33, 61]), .lit (.string [60]), .lit (.string [60, 61]), .lit (.string [43]), .lit (.string [45]), .lit (.string [124]), .lit (.string [94]), .lit (.string [42]), .lit (.string [47]), .lit (.string [37]), .lit (.string [38]), .lit (.string [33]), .lit (.string [45])]
def laid_troth_prog_modes {H : Type} : DataW H := .agg [.lit (.string []), .lit (.string [112, 108, 110]), .lit (.string [114, 108, 120]), .lit (.string [97, 99, 113]), .lit (.string [114, 101, 108]), .lit (.string [97, 114]), .lit (.string [115, 99])]
def laid_troth_check_kinds {H : Type} : DataW H := .agg [.agg [.lit (.bool false), .lit (.bool false), .lit (.int .i64 0), .lit (.bool false), .lit (.bool false)], .agg [.lit (.bool true), .lit (.bool false), .lit (.int .i64 1), .lit (.bool false), .lit (.bool false)], .agg [.lit (.bool true), .lit (.bool true), .lit (.int .i64 0), .lit (.bool false), .lit (.bool false)], .agg [.lit (.bool false), .lit (.bool true), .lit (.int .i64 1), .lit (.bool false), .lit (.bool false)], .agg [.lit (.bool true), .lit (.bool true), .lit (.int .i64 1), .lit (.bool false), .lit (.bool false)], .agg [.lit (.bool true), .lit (.bool true), .lit (.int .i64 1), .lit (.bool false), .lit (.bool false)], .agg [.lit (.bool true), .lit (.bool true), .lit (.int .i64 2), .lit (.bool false), .lit (.bool false)], .agg [.lit (.bool false), .lit (.bool false), .lit (.int .i64 0), .lit (.bool false), .lit (.bool false)], .agg [.lit (.bool false), .lit (.bool false), .lit (.int .i64 1), .lit (.bool true), .lit (.bool true)], .agg [.lit (.bool false), .lit (.bool false), .lit (.int .i64 1), .lit (.bool true), .lit (.bool false)]]

/-- 'trothlaw06.CheckTells': WHATEVER THE INPUT: true; the input reads as it did. -/
def checkTellsSpec : ChangeSpec := { name := "checkTells", fn := fun _ => fun
  | [d1, d2] => { results := [.lit (.bool true)], args := [d1, d2] }
  | _ => none }
def checkTellsRow : OpenClaim := { program := "ytamjnhpkmhbkcaagreatdoor", sum := "b2ca62d78d42a378a416cb53c4ad77daa555da3dcaffaf9d60e368608a1c7889", func := "troth/trothlaw06.CheckTells", spec := "checkTells", inPlace := ["internal/bytealg.IndexByteString", "internal/bytealg.IndexString"], unfollowed := true, recurses := true, named := ["strconv.ErrSyntax", "strconv.ErrRange", "internal/strconv.uint64pow10", "math/bits.deBruijn32tab", "math/bits.deBruijn64tab", "internal/bytealg.MaxLen", "troth/num.texts", "troth/prog.modes", "troth/check.kinds"], plainKeys := false, apart := false, laid := [("math/bits.deBruijn32tab", laid_math_bits_deBruijn32tab), ("math/bits.deBruijn64tab", laid_math_bits_deBruijn64tab), ("internal/strconv.uint64pow10", laid_internal_strconv_uint64pow10), ("strconv.ErrRange", laid_strconv_ErrRange), ("strconv.ErrSyntax", laid_strconv_ErrSyntax), ("troth/num.texts", laid_troth_num_texts), ("troth/prog.modes", laid_troth_prog_modes), ("troth/check.kinds", laid_troth_check_kinds)] }
def CheckTellsSaid : Prop := checkTellsRow.holds Tryz.pinned (OpenSpec.ofChange checkTellsSpec)

/-- ITS FALSE NEIGHBOUR: 'it returns false'. Refute it at one input. -/
def checkTellsWrong : ChangeSpec := { name := "checkTells", fn := fun _ => fun
  | [d1, d2] => { results := [.lit (.bool false)], args := [d1, d2] }
  | _ => none }
def CheckTellsWrongFalsely : Prop := checkTellsRow.holds Tryz.pinned (OpenSpec.ofChange checkTellsWrong)

/-- 'trothlaw06.CheckDeep': WHATEVER THE INPUT: true; the input reads as it did. -/
def checkDeepSpec : ChangeSpec := { name := "checkDeep", fn := fun _ => fun
  | [d1, d2] => { results := [.lit (.bool true)], args := [d1, d2] }
  | _ => none }
def checkDeepRow : OpenClaim := { program := "ytamjnhpkmhbkcaagreatdoor", sum := "b2ca62d78d42a378a416cb53c4ad77daa555da3dcaffaf9d60e368608a1c7889", func := "troth/trothlaw06.CheckDeep", spec := "checkDeep", inPlace := ["internal/bytealg.IndexByteString", "internal/bytealg.IndexString"], unfollowed := true, recurses := true, named := ["troth/check.kinds", "strconv.ErrSyntax", "strconv.ErrRange", "internal/strconv.uint64pow10", "math/bits.deBruijn32tab", "math/bits.deBruijn64tab", "internal/bytealg.MaxLen", "troth/num.texts", "troth/prog.modes"], plainKeys := false, apart := false, laid := [("math/bits.deBruijn32tab", laid_math_bits_deBruijn32tab), ("math/bits.deBruijn64tab", laid_math_bits_deBruijn64tab), ("internal/strconv.uint64pow10", laid_internal_strconv_uint64pow10), ("strconv.ErrRange", laid_strconv_ErrRange), ("strconv.ErrSyntax", laid_strconv_ErrSyntax), ("troth/num.texts", laid_troth_num_texts), ("troth/prog.modes", laid_troth_prog_modes), ("troth/check.kinds", laid_troth_check_kinds)] }
def CheckDeepSaid : Prop := checkDeepRow.holds Tryz.pinned (OpenSpec.ofChange checkDeepSpec)

/-- ITS FALSE NEIGHBOUR: 'it returns false'. Refute it at one input. -/
def checkDeepWrong : ChangeSpec := { name := "checkDeep", fn := fun _ => fun
  | [d1, d2] => { results := [.lit (.bool false)], args := [d1, d2] }
  | _ => none }
def CheckDeepWrongFalsely : Prop := checkDeepRow.holds Tryz.pinned (OpenSpec.ofChange checkDeepWrong)

/-- 'trothlaw05.ParseTells': WHATEVER THE INPUT: true; the input reads as it did. -/
def parseTellsSpec : ChangeSpec := { name := "parseTells", fn := fun _ => fun
  | [d] => { results := [.lit (.bool true)], args := [d] }
  | _ => none }
def parseTellsRow : OpenClaim := { program := "ytamjnhpkmhbkcaagreatdoor", sum := "b2ca62d78d42a378a416cb53c4ad77daa555da3dcaffaf9d60e368608a1c7889", func := "troth/trothlaw05.ParseTells", spec := "parseTells", inPlace := ["internal/bytealg.IndexByteString", "internal/bytealg.IndexString", "internal/abi.NoEscape", "internal/bytealg.MakeNoZero"], unfollowed := true, recurses := true, named := ["strconv.ErrSyntax", "strconv.ErrRange", "internal/strconv.uint64pow10", "math/bits.deBruijn32tab", "math/bits.deBruijn64tab", "internal/bytealg.MaxLen", "troth/num.texts", "troth/prog.modes"], plainKeys := false, apart := false, laid := [("math/bits.deBruijn32tab", laid_math_bits_deBruijn32tab), ("math/bits.deBruijn64tab", laid_math_bits_deBruijn64tab), ("internal/strconv.uint64pow10", laid_internal_strconv_uint64pow10), ("strconv.ErrRange", laid_strconv_ErrRange), ("strconv.ErrSyntax", laid_strconv_ErrSyntax), ("troth/num.texts", laid_troth_num_texts), ("troth/prog.modes", laid_troth_prog_modes)] }
def ParseTellsSaid : Prop := parseTellsRow.holds Tryz.pinned (OpenSpec.ofChange parseTellsSpec)

/-- ITS FALSE NEIGHBOUR: 'it returns false'. Refute it at one input. -/
def parseTellsWrong : ChangeSpec := { name := "parseTells", fn := fun _ => fun
  | [d] => { results := [.lit (.bool false)], args := [d] }
  | _ => none }
def ParseTellsWrongFalsely : Prop := parseTellsRow.holds Tryz.pinned (OpenSpec.ofChange parseTellsWrong)

/-- 'trothlaw05.ParseBack': WHATEVER THE INPUT: true; the input reads as it did. -/
def parseBackSpec : ChangeSpec := { name := "parseBack", fn := fun _ => fun
  | [d1, d2] => { results := [.lit (.bool true)], args := [d1, d2] }
  | _ => none }
def parseBackRow : OpenClaim := { program := "ytamjnhpkmhbkcaagreatdoor", sum := "b2ca62d78d42a378a416cb53c4ad77daa555da3dcaffaf9d60e368608a1c7889", func := "troth/trothlaw05.ParseBack", spec := "parseBack", inPlace := ["internal/bytealg.IndexByteString", "internal/bytealg.IndexString", "internal/abi.NoEscape", "internal/bytealg.MakeNoZero"], unfollowed := true, recurses := true, named := ["strconv.ErrSyntax", "strconv.ErrRange", "internal/strconv.uint64pow10", "math/bits.deBruijn32tab", "math/bits.deBruijn64tab", "internal/bytealg.MaxLen", "troth/num.texts", "troth/prog.modes"], plainKeys := false, apart := false, laid := [("math/bits.deBruijn32tab", laid_math_bits_deBruijn32tab), ("math/bits.deBruijn64tab", laid_math_bits_deBruijn64tab), ("internal/strconv.uint64pow10", laid_internal_strconv_uint64pow10), ("strconv.ErrRange", laid_strconv_ErrRange), ("strconv.ErrSyntax", laid_strconv_ErrSyntax), ("troth/num.texts", laid_troth_num_texts), ("troth/prog.modes", laid_troth_prog_modes)] }
def ParseBackSaid : Prop := parseBackRow.holds Tryz.pinned (OpenSpec.ofChange parseBackSpec)

/-- ITS FALSE NEIGHBOUR: 'it returns false'. Refute it at one input. -/
def parseBackWrong : ChangeSpec := { name := "parseBack", fn := fun _ => fun
  | [d1, d2] => { results := [.lit (.bool false)], args := [d1, d2] }
  | _ => none }
def ParseBackWrongFalsely : Prop := parseBackRow.holds Tryz.pinned (OpenSpec.ofChange parseBackWrong)

/-- 'trothlaw08.ThreadRuns': WHATEVER THE INPUT: true; the input reads as it did. -/
def threadRunsSpec : ChangeSpec := { name := "threadRuns", fn := fun _ => fun
  | [d1, d2, d3] => { results := [.lit (.bool true)], args := [d1, d2, d3] }
  | _ => none }
def threadRunsRow : OpenClaim := { program := "ytamjnhpkmhbkcaagreatdoor", sum := "b2ca62d78d42a378a416cb53c4ad77daa555da3dcaffaf9d60e368608a1c7889", func := "troth/trothlaw08.ThreadRuns", spec := "threadRuns", inPlace := ["internal/bytealg.IndexByteString", "internal/bytealg.IndexString"], unfollowed := true, recurses := true, named := ["strconv.ErrSyntax", "strconv.ErrRange", "internal/strconv.uint64pow10", "math/bits.deBruijn32tab", "math/bits.deBruijn64tab", "internal/bytealg.MaxLen", "troth/num.texts", "troth/prog.modes", "troth/check.kinds"], plainKeys := false, apart := false, laid := [("math/bits.deBruijn32tab", laid_math_bits_deBruijn32tab), ("math/bits.deBruijn64tab", laid_math_bits_deBruijn64tab), ("internal/strconv.uint64pow10", laid_internal_strconv_uint64pow10), ("strconv.ErrRange", laid_strconv_ErrRange), ("strconv.ErrSyntax", laid_strconv_ErrSyntax), ("troth/num.texts", laid_troth_num_texts), ("troth/prog.modes", laid_troth_prog_modes), ("troth/check.kinds", laid_troth_check_kinds)] }
def ThreadRunsSaid : Prop := threadRunsRow.holds Tryz.pinned (OpenSpec.ofChange threadRunsSpec)

/-- ITS FALSE NEIGHBOUR: 'it returns false'. Refute it at one input. -/
def threadRunsWrong : ChangeSpec := { name := "threadRuns", fn := fun _ => fun
  | [d1, d2, d3] => { results := [.lit (.bool false)], args := [d1, d2, d3] }
  | _ => none }
def ThreadRunsWrongFalsely : Prop := threadRunsRow.holds Tryz.pinned (OpenSpec.ofChange threadRunsWrong)

/-- 'trothlaw08.ThreadModes': WHATEVER THE INPUT: true; the input reads as it did. -/
def threadModesSpec : ChangeSpec := { name := "threadModes", fn := fun _ => fun
  | [d1, d2] => { results := [.lit (.bool true)], args := [d1, d2] }
  | _ => none }
def threadModesRow : OpenClaim := { program := "ytamjnhpkmhbkcaagreatdoor", sum := "b2ca62d78d42a378a416cb53c4ad77daa555da3dcaffaf9d60e368608a1c7889", func := "troth/trothlaw08.ThreadModes", spec := "threadModes", inPlace := ["internal/bytealg.IndexByteString", "internal/bytealg.IndexString"], unfollowed := true, recurses := true, named := ["strconv.ErrSyntax", "strconv.ErrRange", "internal/strconv.uint64pow10", "math/bits.deBruijn32tab", "math/bits.deBruijn64tab", "internal/bytealg.MaxLen", "troth/num.texts", "troth/prog.modes", "troth/check.kinds"], plainKeys := false, apart := false, laid := [("math/bits.deBruijn32tab", laid_math_bits_deBruijn32tab), ("math/bits.deBruijn64tab", laid_math_bits_deBruijn64tab), ("internal/strconv.uint64pow10", laid_internal_strconv_uint64pow10), ("strconv.ErrRange", laid_strconv_ErrRange), ("strconv.ErrSyntax", laid_strconv_ErrSyntax), ("troth/num.texts", laid_troth_num_texts), ("troth/prog.modes", laid_troth_prog_modes), ("troth/check.kinds", laid_troth_check_kinds)] }
def ThreadModesSaid : Prop := threadModesRow.holds Tryz.pinned (OpenSpec.ofChange threadModesSpec)

/-- ITS FALSE NEIGHBOUR: 'it returns false'. Refute it at one input. -/
def threadModesWrong : ChangeSpec := { name := "threadModes", fn := fun _ => fun
  | [d1, d2] => { results := [.lit (.bool false)], args := [d1, d2] }
  | _ => none }
def ThreadModesWrongFalsely : Prop := threadModesRow.holds Tryz.pinned (OpenSpec.ofChange threadModesWrong)

/-- 'trothlaw08.ThreadEnds': WHATEVER THE INPUT: true; the input reads as it did. -/
def threadEndsSpec : ChangeSpec := { name := "threadEnds", fn := fun _ => fun
  | [d1, d2, d3] => { results := [.lit (.bool true)], args := [d1, d2, d3] }
  | _ => none }
def threadEndsRow : OpenClaim := { program := "ytamjnhpkmhbkcaagreatdoor", sum := "b2ca62d78d42a378a416cb53c4ad77daa555da3dcaffaf9d60e368608a1c7889", func := "troth/trothlaw08.ThreadEnds", spec := "threadEnds", inPlace := ["internal/bytealg.IndexByteString", "internal/bytealg.IndexString"], unfollowed := true, recurses := true, named := ["strconv.ErrSyntax", "strconv.ErrRange", "internal/strconv.uint64pow10", "math/bits.deBruijn32tab", "math/bits.deBruijn64tab", "internal/bytealg.MaxLen", "troth/num.texts", "troth/prog.modes", "troth/check.kinds"], plainKeys := false, apart := false, laid := [("math/bits.deBruijn32tab", laid_math_bits_deBruijn32tab), ("math/bits.deBruijn64tab", laid_math_bits_deBruijn64tab), ("internal/strconv.uint64pow10", laid_internal_strconv_uint64pow10), ("strconv.ErrRange", laid_strconv_ErrRange), ("strconv.ErrSyntax", laid_strconv_ErrSyntax), ("troth/num.texts", laid_troth_num_texts), ("troth/prog.modes", laid_troth_prog_modes), ("troth/check.kinds", laid_troth_check_kinds)] }
def ThreadEndsSaid : Prop := threadEndsRow.holds Tryz.pinned (OpenSpec.ofChange threadEndsSpec)

/-- ITS FALSE NEIGHBOUR: 'it returns false'. Refute it at one input. -/
def threadEndsWrong : ChangeSpec := { name := "threadEnds", fn := fun _ => fun
  | [d1, d2, d3] => { results := [.lit (.bool false)], args := [d1, d2, d3] }
  | _ => none }
def ThreadEndsWrongFalsely : Prop := threadEndsRow.holds Tryz.pinned (OpenSpec.ofChange threadEndsWrong)

/-- 'trothlaw23.RaceAccesses': WHATEVER THE INPUT: true; the input reads as it did. -/
def raceAccessesSpec : ChangeSpec := { name := "raceAccesses", fn := fun _ => fun
  | [d1, d2] => { results := [.lit (.bool true)], args := [d1, d2] }
  | _ => none }
def raceAccessesRow : OpenClaim := { program := "ytamjnhpkmhbkcaagreatdoor", sum := "b2ca62d78d42a378a416cb53c4ad77daa555da3dcaffaf9d60e368608a1c7889", func := "troth/trothlaw23.RaceAccesses", spec := "raceAccesses", inPlace := ["internal/bytealg.IndexByteString", "internal/bytealg.IndexString"], unfollowed := true, recurses := true, named := ["strconv.ErrSyntax", "strconv.ErrRange", "internal/strconv.uint64pow10", "math/bits.deBruijn32tab", "math/bits.deBruijn64tab", "internal/bytealg.MaxLen", "troth/num.texts", "troth/prog.modes", "troth/check.kinds"], plainKeys := false, apart := false, laid := [("math/bits.deBruijn32tab", laid_math_bits_deBruijn32tab), ("math/bits.deBruijn64tab", laid_math_bits_deBruijn64tab), ("internal/strconv.uint64pow10", laid_internal_strconv_uint64pow10), ("strconv.ErrRange", laid_strconv_ErrRange), ("strconv.ErrSyntax", laid_strconv_ErrSyntax), ("troth/num.texts", laid_troth_num_texts), ("troth/prog.modes", laid_troth_prog_modes), ("troth/check.kinds", laid_troth_check_kinds)] }
def RaceAccessesSaid : Prop := raceAccessesRow.holds Tryz.pinned (OpenSpec.ofChange raceAccessesSpec)

/-- ITS FALSE NEIGHBOUR: 'it returns false'. Refute it at one input. -/
def raceAccessesWrong : ChangeSpec := { name := "raceAccesses", fn := fun _ => fun
  | [d1, d2] => { results := [.lit (.bool false)], args := [d1, d2] }
  | _ => none }
def RaceAccessesWrongFalsely : Prop := raceAccessesRow.holds Tryz.pinned (OpenSpec.ofChange raceAccessesWrong)

/-- 'trothlaw06.CheckParsed': WHATEVER THE INPUT: true; the input reads as it did. -/
def checkParsedSpec : ChangeSpec := { name := "checkParsed", fn := fun _ => fun
  | [d] => { results := [.lit (.bool true)], args := [d] }
  | _ => none }
def checkParsedRow : OpenClaim := { program := "ytamjnhpkmhbkcaagreatdoor", sum := "b2ca62d78d42a378a416cb53c4ad77daa555da3dcaffaf9d60e368608a1c7889", func := "troth/trothlaw06.CheckParsed", spec := "checkParsed", inPlace := ["internal/bytealg.IndexByteString", "internal/bytealg.IndexString", "internal/abi.NoEscape", "internal/bytealg.MakeNoZero"], unfollowed := true, recurses := true, named := ["strconv.ErrSyntax", "strconv.ErrRange", "internal/strconv.uint64pow10", "math/bits.deBruijn32tab", "math/bits.deBruijn64tab", "internal/bytealg.MaxLen", "troth/num.texts", "troth/prog.modes", "troth/check.kinds"], plainKeys := false, apart := false, laid := [("math/bits.deBruijn32tab", laid_math_bits_deBruijn32tab), ("math/bits.deBruijn64tab", laid_math_bits_deBruijn64tab), ("internal/strconv.uint64pow10", laid_internal_strconv_uint64pow10), ("strconv.ErrRange", laid_strconv_ErrRange), ("strconv.ErrSyntax", laid_strconv_ErrSyntax), ("troth/num.texts", laid_troth_num_texts), ("troth/prog.modes", laid_troth_prog_modes), ("troth/check.kinds", laid_troth_check_kinds)] }
def CheckParsedSaid : Prop := checkParsedRow.holds Tryz.pinned (OpenSpec.ofChange checkParsedSpec)

/-- ITS FALSE NEIGHBOUR: 'it returns false'. Refute it at one input. -/
def checkParsedWrong : ChangeSpec := { name := "checkParsed", fn := fun _ => fun
  | [d] => { results := [.lit (.bool false)], args := [d] }
  | _ => none }
def CheckParsedWrongFalsely : Prop := checkParsedRow.holds Tryz.pinned (OpenSpec.ofChange checkParsedWrong)

/-- 'trothlaw23.RaceFinds': WHATEVER THE INPUT: true; the input reads as it did. -/
def raceFindsSpec : ChangeSpec := { name := "raceFinds", fn := fun _ => fun
  | [d1, d2, d3, d4] => { results := [.lit (.bool true)], args := [d1, d2, d3, d4] }
  | _ => none }
def raceFindsRow : OpenClaim := { program := "ytamjnhpkmhbkcaagreatdoor", sum := "b2ca62d78d42a378a416cb53c4ad77daa555da3dcaffaf9d60e368608a1c7889", func := "troth/trothlaw23.RaceFinds", spec := "raceFinds", inPlace := ["internal/bytealg.IndexByteString", "internal/bytealg.IndexString"], unfollowed := true, recurses := true, named := ["troth/check.kinds", "strconv.ErrSyntax", "strconv.ErrRange", "internal/strconv.uint64pow10", "math/bits.deBruijn32tab", "math/bits.deBruijn64tab", "internal/bytealg.MaxLen", "troth/num.texts", "troth/prog.modes"], plainKeys := false, apart := false, laid := [("math/bits.deBruijn32tab", laid_math_bits_deBruijn32tab), ("math/bits.deBruijn64tab", laid_math_bits_deBruijn64tab), ("internal/strconv.uint64pow10", laid_internal_strconv_uint64pow10), ("strconv.ErrRange", laid_strconv_ErrRange), ("strconv.ErrSyntax", laid_strconv_ErrSyntax), ("troth/num.texts", laid_troth_num_texts), ("troth/prog.modes", laid_troth_prog_modes), ("troth/check.kinds", laid_troth_check_kinds)] }
def RaceFindsSaid : Prop := raceFindsRow.holds Tryz.pinned (OpenSpec.ofChange raceFindsSpec)

/-- ITS FALSE NEIGHBOUR: 'it returns false'. Refute it at one input. -/
def raceFindsWrong : ChangeSpec := { name := "raceFinds", fn := fun _ => fun
  | [d1, d2, d3, d4] => { results := [.lit (.bool false)], args := [d1, d2, d3, d4] }
  | _ => none }
def RaceFindsWrongFalsely : Prop := raceFindsRow.holds Tryz.pinned (OpenSpec.ofChange raceFindsWrong)

/-- 'trothlaw23.RaceNone': WHATEVER THE INPUT: true; the input reads as it did. -/
def raceNoneSpec : ChangeSpec := { name := "raceNone", fn := fun _ => fun
  | [d1, d2, d3] => { results := [.lit (.bool true)], args := [d1, d2, d3] }
  | _ => none }
def raceNoneRow : OpenClaim := { program := "ytamjnhpkmhbkcaagreatdoor", sum := "b2ca62d78d42a378a416cb53c4ad77daa555da3dcaffaf9d60e368608a1c7889", func := "troth/trothlaw23.RaceNone", spec := "raceNone", inPlace := ["internal/bytealg.IndexByteString", "internal/bytealg.IndexString"], unfollowed := true, recurses := true, named := ["troth/check.kinds", "strconv.ErrSyntax", "strconv.ErrRange", "internal/strconv.uint64pow10", "math/bits.deBruijn32tab", "math/bits.deBruijn64tab", "internal/bytealg.MaxLen", "troth/num.texts", "troth/prog.modes"], plainKeys := false, apart := false, laid := [("math/bits.deBruijn32tab", laid_math_bits_deBruijn32tab), ("math/bits.deBruijn64tab", laid_math_bits_deBruijn64tab), ("internal/strconv.uint64pow10", laid_internal_strconv_uint64pow10), ("strconv.ErrRange", laid_strconv_ErrRange), ("strconv.ErrSyntax", laid_strconv_ErrSyntax), ("troth/num.texts", laid_troth_num_texts), ("troth/prog.modes", laid_troth_prog_modes), ("troth/check.kinds", laid_troth_check_kinds)] }
def RaceNoneSaid : Prop := raceNoneRow.holds Tryz.pinned (OpenSpec.ofChange raceNoneSpec)

/-- ITS FALSE NEIGHBOUR: 'it returns false'. Refute it at one input. -/
def raceNoneWrong : ChangeSpec := { name := "raceNone", fn := fun _ => fun
  | [d1, d2, d3] => { results := [.lit (.bool false)], args := [d1, d2, d3] }
  | _ => none }
def RaceNoneWrongFalsely : Prop := raceNoneRow.holds Tryz.pinned (OpenSpec.ofChange raceNoneWrong)

/-- 'trothlaw22.ScTurns': WHATEVER THE INPUT: true; the input reads as it did. -/
def scTurnsSpec : ChangeSpec := { name := "scTurns", fn := fun _ => fun
  | [d1, d2, d3] => { results := [.lit (.bool true)], args := [d1, d2, d3] }
  | _ => none }
def scTurnsRow : OpenClaim := { program := "ytamjnhpkmhbkcaagreatdoor", sum := "b2ca62d78d42a378a416cb53c4ad77daa555da3dcaffaf9d60e368608a1c7889", func := "troth/trothlaw22.ScTurns", spec := "scTurns", inPlace := ["internal/bytealg.IndexByteString", "internal/bytealg.IndexString", "internal/abi.NoEscape", "internal/bytealg.MakeNoZero", "internal/bytealg.abigen_runtime_cmpstring"], unfollowed := true, recurses := true, named := ["troth/check.kinds", "strconv.ErrSyntax", "strconv.ErrRange", "internal/strconv.uint64pow10", "math/bits.deBruijn32tab", "math/bits.deBruijn64tab", "internal/bytealg.MaxLen", "troth/num.texts", "troth/prog.modes"], plainKeys := false, apart := false, laid := [("math/bits.deBruijn32tab", laid_math_bits_deBruijn32tab), ("math/bits.deBruijn64tab", laid_math_bits_deBruijn64tab), ("internal/strconv.uint64pow10", laid_internal_strconv_uint64pow10), ("strconv.ErrRange", laid_strconv_ErrRange), ("strconv.ErrSyntax", laid_strconv_ErrSyntax), ("troth/num.texts", laid_troth_num_texts), ("troth/prog.modes", laid_troth_prog_modes), ("troth/check.kinds", laid_troth_check_kinds)] }
def ScTurnsSaid : Prop := scTurnsRow.holds Tryz.pinned (OpenSpec.ofChange scTurnsSpec)

/-- ITS FALSE NEIGHBOUR: 'it returns false'. Refute it at one input. -/
def scTurnsWrong : ChangeSpec := { name := "scTurns", fn := fun _ => fun
  | [d1, d2, d3] => { results := [.lit (.bool false)], args := [d1, d2, d3] }
  | _ => none }
def ScTurnsWrongFalsely : Prop := scTurnsRow.holds Tryz.pinned (OpenSpec.ofChange scTurnsWrong)

/- THE SECOND FORM. 'bulk': how many values and letters a reading holds, each counted each time it is reached (what is shared counts as often as it is met; a slice's spare places count too). A statement '..UptoSaid' is the law's where the arguments, and the package variables that the reading takes, are together of bulk at most 1048576: NARROWER than '..Said'. Prove '..Said' where nothing that the law and all that it calls make is longer than what came in: it says more and counts as full. Else prove '..UptoSaid'. A law counts once. -/
mutual
def uptoBulk {H : Type} : DataW H → Nat
  | .lit (.string bytes) => bytes.length + 1
  | .lit _ => 1
  | .nil => 1
  | .ptr d => uptoBulk d + 1
  | .slice elems spare => uptoBulkAll elems + uptoBulkAll spare + 1
  | .agg parts => uptoBulkAll parts + 1
  | .iface _ d => uptoBulk d + 1
  | .map entries => uptoBulkEntries entries + 1
  | .held _ => 1
def uptoBulkAll {H : Type} : List (DataW H) → Nat
  | [] => 0
  | d :: r => uptoBulk d + uptoBulkAll r
def uptoBulkEntries {H : Type} : List (Lit × DataW H) → Nat
  | [] => 0
  | x :: r => uptoBulkEntry x + uptoBulkEntries r
def uptoBulkEntry {H : Type} : Lit × DataW H → Nat
  | (.string bytes, d) => bytes.length + uptoBulk d + 1
  | (_, d) => uptoBulk d + 1
 end
def uptoSmall : (H : Type) → List (DataW H) → Bool := fun _ ds => decide (uptoBulkAll ds ≤ 1048576)
def OpenSpec.upto (s : _root_.Go.ChangeSpec) : _root_.Go.OpenSpec := { _root_.Go.OpenSpec.ofChange s with cond := some uptoSmall }

/-- 'trothlaw06.CheckTells', WHERE WHAT IT READS IS OF BULK AT MOST 1048576: true; the input reads as it did. -/
def checkTellsUptoRow : OpenClaim := { program := "ytamjnhpkmhbkcaagreatdoor", sum := "b2ca62d78d42a378a416cb53c4ad77daa555da3dcaffaf9d60e368608a1c7889", func := "troth/trothlaw06.CheckTells", spec := "checkTells", inPlace := ["internal/bytealg.IndexByteString", "internal/bytealg.IndexString"], unfollowed := true, recurses := true, named := ["strconv.ErrSyntax", "strconv.ErrRange", "internal/strconv.uint64pow10", "math/bits.deBruijn32tab", "math/bits.deBruijn64tab", "internal/bytealg.MaxLen", "troth/num.texts", "troth/prog.modes", "troth/check.kinds"], plainKeys := false, apart := false, laid := [("math/bits.deBruijn32tab", laid_math_bits_deBruijn32tab), ("math/bits.deBruijn64tab", laid_math_bits_deBruijn64tab), ("internal/strconv.uint64pow10", laid_internal_strconv_uint64pow10), ("strconv.ErrRange", laid_strconv_ErrRange), ("strconv.ErrSyntax", laid_strconv_ErrSyntax), ("troth/num.texts", laid_troth_num_texts), ("troth/prog.modes", laid_troth_prog_modes), ("troth/check.kinds", laid_troth_check_kinds)], narrowed := true }
def CheckTellsUptoSaid : Prop := checkTellsUptoRow.holds Tryz.pinned (OpenSpec.upto checkTellsSpec)

/-- 'trothlaw06.CheckDeep', WHERE WHAT IT READS IS OF BULK AT MOST 1048576: true; the input reads as it did. -/
def checkDeepUptoRow : OpenClaim := { program := "ytamjnhpkmhbkcaagreatdoor", sum := "b2ca62d78d42a378a416cb53c4ad77daa555da3dcaffaf9d60e368608a1c7889", func := "troth/trothlaw06.CheckDeep", spec := "checkDeep", inPlace := ["internal/bytealg.IndexByteString", "internal/bytealg.IndexString"], unfollowed := true, recurses := true, named := ["troth/check.kinds", "strconv.ErrSyntax", "strconv.ErrRange", "internal/strconv.uint64pow10", "math/bits.deBruijn32tab", "math/bits.deBruijn64tab", "internal/bytealg.MaxLen", "troth/num.texts", "troth/prog.modes"], plainKeys := false, apart := false, laid := [("math/bits.deBruijn32tab", laid_math_bits_deBruijn32tab), ("math/bits.deBruijn64tab", laid_math_bits_deBruijn64tab), ("internal/strconv.uint64pow10", laid_internal_strconv_uint64pow10), ("strconv.ErrRange", laid_strconv_ErrRange), ("strconv.ErrSyntax", laid_strconv_ErrSyntax), ("troth/num.texts", laid_troth_num_texts), ("troth/prog.modes", laid_troth_prog_modes), ("troth/check.kinds", laid_troth_check_kinds)], narrowed := true }
def CheckDeepUptoSaid : Prop := checkDeepUptoRow.holds Tryz.pinned (OpenSpec.upto checkDeepSpec)

/-- 'trothlaw05.ParseTells', WHERE WHAT IT READS IS OF BULK AT MOST 1048576: true; the input reads as it did. -/
def parseTellsUptoRow : OpenClaim := { program := "ytamjnhpkmhbkcaagreatdoor", sum := "b2ca62d78d42a378a416cb53c4ad77daa555da3dcaffaf9d60e368608a1c7889", func := "troth/trothlaw05.ParseTells", spec := "parseTells", inPlace := ["internal/bytealg.IndexByteString", "internal/bytealg.IndexString", "internal/abi.NoEscape", "internal/bytealg.MakeNoZero"], unfollowed := true, recurses := true, named := ["strconv.ErrSyntax", "strconv.ErrRange", "internal/strconv.uint64pow10", "math/bits.deBruijn32tab", "math/bits.deBruijn64tab", "internal/bytealg.MaxLen", "troth/num.texts", "troth/prog.modes"], plainKeys := false, apart := false, laid := [("math/bits.deBruijn32tab", laid_math_bits_deBruijn32tab), ("math/bits.deBruijn64tab", laid_math_bits_deBruijn64tab), ("internal/strconv.uint64pow10", laid_internal_strconv_uint64pow10), ("strconv.ErrRange", laid_strconv_ErrRange), ("strconv.ErrSyntax", laid_strconv_ErrSyntax), ("troth/num.texts", laid_troth_num_texts), ("troth/prog.modes", laid_troth_prog_modes)], narrowed := true }
def ParseTellsUptoSaid : Prop := parseTellsUptoRow.holds Tryz.pinned (OpenSpec.upto parseTellsSpec)

/-- 'trothlaw05.ParseBack', WHERE WHAT IT READS IS OF BULK AT MOST 1048576: true; the input reads as it did. -/
def parseBackUptoRow : OpenClaim := { program := "ytamjnhpkmhbkcaagreatdoor", sum := "b2ca62d78d42a378a416cb53c4ad77daa555da3dcaffaf9d60e368608a1c7889", func := "troth/trothlaw05.ParseBack", spec := "parseBack", inPlace := ["internal/bytealg.IndexByteString", "internal/bytealg.IndexString", "internal/abi.NoEscape", "internal/bytealg.MakeNoZero"], unfollowed := true, recurses := true, named := ["strconv.ErrSyntax", "strconv.ErrRange", "internal/strconv.uint64pow10", "math/bits.deBruijn32tab", "math/bits.deBruijn64tab", "internal/bytealg.MaxLen", "troth/num.texts", "troth/prog.modes"], plainKeys := false, apart := false, laid := [("math/bits.deBruijn32tab", laid_math_bits_deBruijn32tab), ("math/bits.deBruijn64tab", laid_math_bits_deBruijn64tab), ("internal/strconv.uint64pow10", laid_internal_strconv_uint64pow10), ("strconv.ErrRange", laid_strconv_ErrRange), ("strconv.ErrSyntax", laid_strconv_ErrSyntax), ("troth/num.texts", laid_troth_num_texts), ("troth/prog.modes", laid_troth_prog_modes)], narrowed := true }
def ParseBackUptoSaid : Prop := parseBackUptoRow.holds Tryz.pinned (OpenSpec.upto parseBackSpec)

/-- 'trothlaw08.ThreadRuns', WHERE WHAT IT READS IS OF BULK AT MOST 1048576: true; the input reads as it did. -/
def threadRunsUptoRow : OpenClaim := { program := "ytamjnhpkmhbkcaagreatdoor", sum := "b2ca62d78d42a378a416cb53c4ad77daa555da3dcaffaf9d60e368608a1c7889", func := "troth/trothlaw08.ThreadRuns", spec := "threadRuns", inPlace := ["internal/bytealg.IndexByteString", "internal/bytealg.IndexString"], unfollowed := true, recurses := true, named := ["strconv.ErrSyntax", "strconv.ErrRange", "internal/strconv.uint64pow10", "math/bits.deBruijn32tab", "math/bits.deBruijn64tab", "internal/bytealg.MaxLen", "troth/num.texts", "troth/prog.modes", "troth/check.kinds"], plainKeys := false, apart := false, laid := [("math/bits.deBruijn32tab", laid_math_bits_deBruijn32tab), ("math/bits.deBruijn64tab", laid_math_bits_deBruijn64tab), ("internal/strconv.uint64pow10", laid_internal_strconv_uint64pow10), ("strconv.ErrRange", laid_strconv_ErrRange), ("strconv.ErrSyntax", laid_strconv_ErrSyntax), ("troth/num.texts", laid_troth_num_texts), ("troth/prog.modes", laid_troth_prog_modes), ("troth/check.kinds", laid_troth_check_kinds)], narrowed := true }
def ThreadRunsUptoSaid : Prop := threadRunsUptoRow.holds Tryz.pinned (OpenSpec.upto threadRunsSpec)

/-- 'trothlaw08.ThreadModes', WHERE WHAT IT READS IS OF BULK AT MOST 1048576: true; the input reads as it did. -/
def threadModesUptoRow : OpenClaim := { program := "ytamjnhpkmhbkcaagreatdoor", sum := "b2ca62d78d42a378a416cb53c4ad77daa555da3dcaffaf9d60e368608a1c7889", func := "troth/trothlaw08.ThreadModes", spec := "threadModes", inPlace := ["internal/bytealg.IndexByteString", "internal/bytealg.IndexString"], unfollowed := true, recurses := true, named := ["strconv.ErrSyntax", "strconv.ErrRange", "internal/strconv.uint64pow10", "math/bits.deBruijn32tab", "math/bits.deBruijn64tab", "internal/bytealg.MaxLen", "troth/num.texts", "troth/prog.modes", "troth/check.kinds"], plainKeys := false, apart := false, laid := [("math/bits.deBruijn32tab", laid_math_bits_deBruijn32tab), ("math/bits.deBruijn64tab", laid_math_bits_deBruijn64tab), ("internal/strconv.uint64pow10", laid_internal_strconv_uint64pow10), ("strconv.ErrRange", laid_strconv_ErrRange), ("strconv.ErrSyntax", laid_strconv_ErrSyntax), ("troth/num.texts", laid_troth_num_texts), ("troth/prog.modes", laid_troth_prog_modes), ("troth/check.kinds", laid_troth_check_kinds)], narrowed := true }
def ThreadModesUptoSaid : Prop := threadModesUptoRow.holds Tryz.pinned (OpenSpec.upto threadModesSpec)

/-- 'trothlaw08.ThreadEnds', WHERE WHAT IT READS IS OF BULK AT MOST 1048576: true; the input reads as it did. -/
def threadEndsUptoRow : OpenClaim := { program := "ytamjnhpkmhbkcaagreatdoor", sum := "b2ca62d78d42a378a416cb53c4ad77daa555da3dcaffaf9d60e368608a1c7889", func := "troth/trothlaw08.ThreadEnds", spec := "threadEnds", inPlace := ["internal/bytealg.IndexByteString", "internal/bytealg.IndexString"], unfollowed := true, recurses := true, named := ["strconv.ErrSyntax", "strconv.ErrRange", "internal/strconv.uint64pow10", "math/bits.deBruijn32tab", "math/bits.deBruijn64tab", "internal/bytealg.MaxLen", "troth/num.texts", "troth/prog.modes", "troth/check.kinds"], plainKeys := false, apart := false, laid := [("math/bits.deBruijn32tab", laid_math_bits_deBruijn32tab), ("math/bits.deBruijn64tab", laid_math_bits_deBruijn64tab), ("internal/strconv.uint64pow10", laid_internal_strconv_uint64pow10), ("strconv.ErrRange", laid_strconv_ErrRange), ("strconv.ErrSyntax", laid_strconv_ErrSyntax), ("troth/num.texts", laid_troth_num_texts), ("troth/prog.modes", laid_troth_prog_modes), ("troth/check.kinds", laid_troth_check_kinds)], narrowed := true }
def ThreadEndsUptoSaid : Prop := threadEndsUptoRow.holds Tryz.pinned (OpenSpec.upto threadEndsSpec)

/-- 'trothlaw23.RaceAccesses', WHERE WHAT IT READS IS OF BULK AT MOST 1048576: true; the input reads as it did. -/
def raceAccessesUptoRow : OpenClaim := { program := "ytamjnhpkmhbkcaagreatdoor", sum := "b2ca62d78d42a378a416cb53c4ad77daa555da3dcaffaf9d60e368608a1c7889", func := "troth/trothlaw23.RaceAccesses", spec := "raceAccesses", inPlace := ["internal/bytealg.IndexByteString", "internal/bytealg.IndexString"], unfollowed := true, recurses := true, named := ["strconv.ErrSyntax", "strconv.ErrRange", "internal/strconv.uint64pow10", "math/bits.deBruijn32tab", "math/bits.deBruijn64tab", "internal/bytealg.MaxLen", "troth/num.texts", "troth/prog.modes", "troth/check.kinds"], plainKeys := false, apart := false, laid := [("math/bits.deBruijn32tab", laid_math_bits_deBruijn32tab), ("math/bits.deBruijn64tab", laid_math_bits_deBruijn64tab), ("internal/strconv.uint64pow10", laid_internal_strconv_uint64pow10), ("strconv.ErrRange", laid_strconv_ErrRange), ("strconv.ErrSyntax", laid_strconv_ErrSyntax), ("troth/num.texts", laid_troth_num_texts), ("troth/prog.modes", laid_troth_prog_modes), ("troth/check.kinds", laid_troth_check_kinds)], narrowed := true }
def RaceAccessesUptoSaid : Prop := raceAccessesUptoRow.holds Tryz.pinned (OpenSpec.upto raceAccessesSpec)

/-- 'trothlaw06.CheckParsed', WHERE WHAT IT READS IS OF BULK AT MOST 1048576: true; the input reads as it did. -/
def checkParsedUptoRow : OpenClaim := { program := "ytamjnhpkmhbkcaagreatdoor", sum := "b2ca62d78d42a378a416cb53c4ad77daa555da3dcaffaf9d60e368608a1c7889", func := "troth/trothlaw06.CheckParsed", spec := "checkParsed", inPlace := ["internal/bytealg.IndexByteString", "internal/bytealg.IndexString", "internal/abi.NoEscape", "internal/bytealg.MakeNoZero"], unfollowed := true, recurses := true, named := ["strconv.ErrSyntax", "strconv.ErrRange", "internal/strconv.uint64pow10", "math/bits.deBruijn32tab", "math/bits.deBruijn64tab", "internal/bytealg.MaxLen", "troth/num.texts", "troth/prog.modes", "troth/check.kinds"], plainKeys := false, apart := false, laid := [("math/bits.deBruijn32tab", laid_math_bits_deBruijn32tab), ("math/bits.deBruijn64tab", laid_math_bits_deBruijn64tab), ("internal/strconv.uint64pow10", laid_internal_strconv_uint64pow10), ("strconv.ErrRange", laid_strconv_ErrRange), ("strconv.ErrSyntax", laid_strconv_ErrSyntax), ("troth/num.texts", laid_troth_num_texts), ("troth/prog.modes", laid_troth_prog_modes), ("troth/check.kinds", laid_troth_check_kinds)], narrowed := true }
def CheckParsedUptoSaid : Prop := checkParsedUptoRow.holds Tryz.pinned (OpenSpec.upto checkParsedSpec)

/-- 'trothlaw23.RaceFinds', WHERE WHAT IT READS IS OF BULK AT MOST 1048576: true; the input reads as it did. -/
def raceFindsUptoRow : OpenClaim := { program := "ytamjnhpkmhbkcaagreatdoor", sum := "b2ca62d78d42a378a416cb53c4ad77daa555da3dcaffaf9d60e368608a1c7889", func := "troth/trothlaw23.RaceFinds", spec := "raceFinds", inPlace := ["internal/bytealg.IndexByteString", "internal/bytealg.IndexString"], unfollowed := true, recurses := true, named := ["troth/check.kinds", "strconv.ErrSyntax", "strconv.ErrRange", "internal/strconv.uint64pow10", "math/bits.deBruijn32tab", "math/bits.deBruijn64tab", "internal/bytealg.MaxLen", "troth/num.texts", "troth/prog.modes"], plainKeys := false, apart := false, laid := [("math/bits.deBruijn32tab", laid_math_bits_deBruijn32tab), ("math/bits.deBruijn64tab", laid_math_bits_deBruijn64tab), ("internal/strconv.uint64pow10", laid_internal_strconv_uint64pow10), ("strconv.ErrRange", laid_strconv_ErrRange), ("strconv.ErrSyntax", laid_strconv_ErrSyntax), ("troth/num.texts", laid_troth_num_texts), ("troth/prog.modes", laid_troth_prog_modes), ("troth/check.kinds", laid_troth_check_kinds)], narrowed := true }
def RaceFindsUptoSaid : Prop := raceFindsUptoRow.holds Tryz.pinned (OpenSpec.upto raceFindsSpec)

/-- 'trothlaw23.RaceNone', WHERE WHAT IT READS IS OF BULK AT MOST 1048576: true; the input reads as it did. -/
def raceNoneUptoRow : OpenClaim := { program := "ytamjnhpkmhbkcaagreatdoor", sum := "b2ca62d78d42a378a416cb53c4ad77daa555da3dcaffaf9d60e368608a1c7889", func := "troth/trothlaw23.RaceNone", spec := "raceNone", inPlace := ["internal/bytealg.IndexByteString", "internal/bytealg.IndexString"], unfollowed := true, recurses := true, named := ["troth/check.kinds", "strconv.ErrSyntax", "strconv.ErrRange", "internal/strconv.uint64pow10", "math/bits.deBruijn32tab", "math/bits.deBruijn64tab", "internal/bytealg.MaxLen", "troth/num.texts", "troth/prog.modes"], plainKeys := false, apart := false, laid := [("math/bits.deBruijn32tab", laid_math_bits_deBruijn32tab), ("math/bits.deBruijn64tab", laid_math_bits_deBruijn64tab), ("internal/strconv.uint64pow10", laid_internal_strconv_uint64pow10), ("strconv.ErrRange", laid_strconv_ErrRange), ("strconv.ErrSyntax", laid_strconv_ErrSyntax), ("troth/num.texts", laid_troth_num_texts), ("troth/prog.modes", laid_troth_prog_modes), ("troth/check.kinds", laid_troth_check_kinds)], narrowed := true }
def RaceNoneUptoSaid : Prop := raceNoneUptoRow.holds Tryz.pinned (OpenSpec.upto raceNoneSpec)

/-- 'trothlaw22.ScTurns', WHERE WHAT IT READS IS OF BULK AT MOST 1048576: true; the input reads as it did. -/
def scTurnsUptoRow : OpenClaim := { program := "ytamjnhpkmhbkcaagreatdoor", sum := "b2ca62d78d42a378a416cb53c4ad77daa555da3dcaffaf9d60e368608a1c7889", func := "troth/trothlaw22.ScTurns", spec := "scTurns", inPlace := ["internal/bytealg.IndexByteString", "internal/bytealg.IndexString", "internal/abi.NoEscape", "internal/bytealg.MakeNoZero", "internal/bytealg.abigen_runtime_cmpstring"], unfollowed := true, recurses := true, named := ["troth/check.kinds", "strconv.ErrSyntax", "strconv.ErrRange", "internal/strconv.uint64pow10", "math/bits.deBruijn32tab", "math/bits.deBruijn64tab", "internal/bytealg.MaxLen", "troth/num.texts", "troth/prog.modes"], plainKeys := false, apart := false, laid := [("math/bits.deBruijn32tab", laid_math_bits_deBruijn32tab), ("math/bits.deBruijn64tab", laid_math_bits_deBruijn64tab), ("internal/strconv.uint64pow10", laid_internal_strconv_uint64pow10), ("strconv.ErrRange", laid_strconv_ErrRange), ("strconv.ErrSyntax", laid_strconv_ErrSyntax), ("troth/num.texts", laid_troth_num_texts), ("troth/prog.modes", laid_troth_prog_modes), ("troth/check.kinds", laid_troth_check_kinds)], narrowed := true }
def ScTurnsUptoSaid : Prop := scTurnsUptoRow.holds Tryz.pinned (OpenSpec.upto scTurnsSpec)

end Rows
end Go.Proofs.YtamjnhpkmhbkcaaGreatDoor

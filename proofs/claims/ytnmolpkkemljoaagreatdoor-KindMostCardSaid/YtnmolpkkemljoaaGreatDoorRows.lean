/-
  NARROWER THAN 'FOR EVERY INPUT', by the rows' own cells (each row's printed sentence says how): KindUnifies: loops, laid · KindReads: laid · KindTexts: loops, laid · KindWidths: loops, laid · KindPuts: loops, laid · KindMost: loops, laid · KindChecks: loops, laid · KindLeast: loops, laid · KindNames: laid · KindInstances: loops, laid · KindNumbers: loops, laid.
  DERIVED. THE GIVEN ROWS OF THIS SEAT. 11 by the template 'for every input the law returns true; each argument reads behind the call as it read before'; 0 by the template 'total and deterministic' (their statements: YtnmolpkkemljoaaGreatDoorTotals.lean).
  GIVEN WITH THE SEED: the statements are not yours to turn. If you find one false, say at which input.
  Laid BY PROGRAM, IN A SANDBOX (cutbox-rows.mjs): the forced cells as the released guide's own fill.sh prints them over the translation 324a4969a0129958… (all of the seat's roots in one cut). By AI agents, Wed Nov 11 2026. No macro, syntax, notation, axiom, sorry.
-/
import Derived.Test.YtnmolpkkemljoaaGreatDoorChecked
import GoSem.Claim
import GoSem.ClaimJoined
import GoSem.ClaimMapViews
import Derived.JoinedTies
import Derived.KernelRfl
namespace Go.Proofs.YtnmolpkkemljoaaGreatDoor
/- THE CELL 'sum', in the pinned program and in every row, IS THE sha256 OF THE DUMP (.gsa) THAT YtnmolpkkemljoaaGreatDoorProg.lean LOADS. Nothing in Lean hashes anything: it is a label: what it is worth is what the hold of that sum in a sandbox is worth. -/
noncomputable def Tryz.pinned : Pinned := { name := "ytnmolpkkemljoaagreatdoor", sum := "324a4969a01299588d41b0234f2600498dce3b28e4c45646db9987f75fd9f448", checked := Tryz.checked }
namespace Rows
def none {H : Type} : Left H := { results := [], args := [] }

/- WHAT THE LISTED PACKAGE-LEVEL VARIABLES READ AS WHEN THE CALL BEGINS. Each datum BY PROGRAM (the guide's laid-datum.mjs) off the statement by which the dump's own 'gosem.cut.vars' lays the variable. In a bare row this is a premise. The card (YtnmolpkkemljoaaGreatDoorCards.lean) ties it to the program's text. -/
def laid_math_bits_deBruijn32tab {H : Type} : DataW H := .agg [.lit (.int .u8 0), .lit (.int .u8 1), .lit (.int .u8 28), .lit (.int .u8 2), .lit (.int .u8 29), .lit (.int .u8 14), .lit (.int .u8 24), .lit (.int .u8 3), .lit (.int .u8 30), .lit (.int .u8 22), .lit (.int .u8 20), .lit (.int .u8 15), .lit (.int .u8 25), .lit (.int .u8 17), .lit (.int .u8 4), .lit (.int .u8 8), .lit (.int .u8 31), .lit (.int .u8 27), .lit (.int .u8 13), .lit (.int .u8 23), .lit (.int .u8 21), .lit (.int .u8 19), .lit (.int .u8 16), .lit (.int .u8 7), .lit (.int .u8 26), .lit (.int .u8 12), .lit (.int .u8 18), .lit (.int .u8 6), .lit (.int .u8 11), .lit (.int .u8 5), .lit (.int .u8 10), .lit (.int .u8 9)]
def laid_math_bits_deBruijn64tab {H : Type} : DataW H := .agg [.lit (.int .u8 0), .lit (.int .u8 1), .lit (.int .u8 56), .lit (.int .u8 2), .lit (.int .u8 57), .lit (.int .u8 49), .lit (.int .u8 28), .lit (.int .u8 3), .lit (.int .u8 61), .lit (.int .u8 58), .lit (.int .u8 42), .lit (.int .u8 50), .lit (.int .u8 38), .lit (.int .u8 29), .lit (.int .u8 17), .lit (.int .u8 4), .lit (.int .u8 62), .lit (.int .u8 47), .lit (.int .u8 59), .lit (.int .u8 36), .lit (.int .u8 45), .lit (.int .u8 43), .lit (.int .u8 51), .lit (.int .u8 22), .lit (.int .u8 53), .lit (.int .u8 39), .lit (.int .u8 33), .lit (.int .u8 30), .lit (.int .u8 24), .lit (.int .u8 18), .lit (.int .u8 12), .lit (.int .u8 5), .lit (.int .u8 63), .lit (.int .u8 55), .lit (.int .u8 48), .lit (.int .u8 27), .lit (.int .u8 60), .lit (.int .u8 41), .lit (.int .u8 37), .lit (.int .u8 16), .lit (.int .u8 46), .lit (.int .u8 35), .lit (.int .u8 44), .lit (.int .u8 21), .lit (.int .u8 52), .lit (.int .u8 32), .lit (.int .u8 23), .lit (.int .u8 11), .lit (.int .u8 54), .lit (.int .u8 26), .lit (.int .u8 40), .lit (.int .u8 15), .lit (.int .u8 34), .lit (.int .u8 20), .lit (.int .u8 31), .lit (.int .u8 10), .lit (.int .u8 25), .lit (.int .u8 14), .lit (.int .u8 19), .lit (.int .u8 9), .lit (.int .u8 13), .lit (.int .u8 8), .lit (.int .u8 7), .lit (.int .u8 6)]
def laid_internal_strconv_uint64pow10 {H : Type} : DataW H := .agg [.lit (.int .u64 1), .lit (.int .u64 10), .lit (.int .u64 100), .lit (.int .u64 1000), .lit (.int .u64 10000), .lit (.int .u64 100000), .lit (.int .u64 1000000), .lit (.int .u64 10000000), .lit (.int .u64 100000000), .lit (.int .u64 1000000000), .lit (.int .u64 10000000000), .lit (.int .u64 100000000000), .lit (.int .u64 1000000000000), .lit (.int .u64 10000000000000), .lit (.int .u64 100000000000000), .lit (.int .u64 1000000000000000), .lit (.int .u64 10000000000000000), .lit (.int .u64 100000000000000000), .lit (.int .u64 1000000000000000000), .lit (.int .u64 10000000000000000000)]
def laid_strconv_ErrRange {H : Type} : DataW H := .iface "*errors.errorString" (.ptr (.agg [.lit (.string [118, 97, 108, 117, 101, 32, 111, 117, 116, 32, 111, 102, 32, 114, 97, 110, 103, 101])]))
def laid_strconv_ErrSyntax {H : Type} : DataW H := .iface "*errors.errorString" (.ptr (.agg [.lit (.string [105, 110, 118, 97, 108, 105, 100, 32, 115, 121, 110, 116, 97, 120])]))

/-- 'sheafworkslaw08.KindUnifies': WHATEVER THE INPUT: true; the input reads as it did. -/
def kindUnifiesSpec : ChangeSpec := { name := "kindUnifies", fn := fun _ => fun
  | [d1, d2] => { results := [.lit (.bool true)], args := [d1, d2] }
  | _ => none }
def kindUnifiesRow : OpenClaim := { program := "ytnmolpkkemljoaagreatdoor", sum := "324a4969a01299588d41b0234f2600498dce3b28e4c45646db9987f75fd9f448", func := "sheafworks/sheafworkslaw08.KindUnifies", spec := "kindUnifies", unfollowed := true, recurses := true, named := ["internal/strconv.uint64pow10", "math/bits.deBruijn32tab", "math/bits.deBruijn64tab", "strconv.ErrSyntax", "strconv.ErrRange"], loops := true, plainKeys := false, apart := false, laid := [("math/bits.deBruijn32tab", laid_math_bits_deBruijn32tab), ("math/bits.deBruijn64tab", laid_math_bits_deBruijn64tab), ("internal/strconv.uint64pow10", laid_internal_strconv_uint64pow10), ("strconv.ErrRange", laid_strconv_ErrRange), ("strconv.ErrSyntax", laid_strconv_ErrSyntax)] }
def KindUnifiesSaid : Prop := kindUnifiesRow.holds Tryz.pinned (OpenSpec.ofChange kindUnifiesSpec)

/-- ITS FALSE NEIGHBOUR: 'it returns false'. Refute it at one input. -/
def kindUnifiesWrong : ChangeSpec := { name := "kindUnifies", fn := fun _ => fun
  | [d1, d2] => { results := [.lit (.bool false)], args := [d1, d2] }
  | _ => none }
def KindUnifiesWrongFalsely : Prop := kindUnifiesRow.holds Tryz.pinned (OpenSpec.ofChange kindUnifiesWrong)

/-- 'sheafworkslaw08.KindReads': WHATEVER THE INPUT: true; the input reads as it did. -/
def kindReadsSpec : ChangeSpec := { name := "kindReads", fn := fun _ => fun
  | [d] => { results := [.lit (.bool true)], args := [d] }
  | _ => none }
def kindReadsRow : OpenClaim := { program := "ytnmolpkkemljoaagreatdoor", sum := "324a4969a01299588d41b0234f2600498dce3b28e4c45646db9987f75fd9f448", func := "sheafworks/sheafworkslaw08.KindReads", spec := "kindReads", unfollowed := true, recurses := true, named := ["internal/strconv.uint64pow10", "math/bits.deBruijn32tab", "math/bits.deBruijn64tab", "strconv.ErrSyntax", "strconv.ErrRange"], plainKeys := false, apart := false, laid := [("math/bits.deBruijn32tab", laid_math_bits_deBruijn32tab), ("math/bits.deBruijn64tab", laid_math_bits_deBruijn64tab), ("internal/strconv.uint64pow10", laid_internal_strconv_uint64pow10), ("strconv.ErrRange", laid_strconv_ErrRange), ("strconv.ErrSyntax", laid_strconv_ErrSyntax)] }
def KindReadsSaid : Prop := kindReadsRow.holds Tryz.pinned (OpenSpec.ofChange kindReadsSpec)

/-- ITS FALSE NEIGHBOUR: 'it returns false'. Refute it at one input. -/
def kindReadsWrong : ChangeSpec := { name := "kindReads", fn := fun _ => fun
  | [d] => { results := [.lit (.bool false)], args := [d] }
  | _ => none }
def KindReadsWrongFalsely : Prop := kindReadsRow.holds Tryz.pinned (OpenSpec.ofChange kindReadsWrong)

/-- 'sheafworkslaw08.KindTexts': WHATEVER THE INPUT: true; the input reads as it did. -/
def kindTextsSpec : ChangeSpec := { name := "kindTexts", fn := fun _ => fun
  | [d1, d2] => { results := [.lit (.bool true)], args := [d1, d2] }
  | _ => none }
def kindTextsRow : OpenClaim := { program := "ytnmolpkkemljoaagreatdoor", sum := "324a4969a01299588d41b0234f2600498dce3b28e4c45646db9987f75fd9f448", func := "sheafworks/sheafworkslaw08.KindTexts", spec := "kindTexts", unfollowed := true, recurses := true, named := ["internal/strconv.uint64pow10", "math/bits.deBruijn32tab", "math/bits.deBruijn64tab", "strconv.ErrSyntax", "strconv.ErrRange"], loops := true, plainKeys := false, apart := false, laid := [("math/bits.deBruijn32tab", laid_math_bits_deBruijn32tab), ("math/bits.deBruijn64tab", laid_math_bits_deBruijn64tab), ("internal/strconv.uint64pow10", laid_internal_strconv_uint64pow10), ("strconv.ErrRange", laid_strconv_ErrRange), ("strconv.ErrSyntax", laid_strconv_ErrSyntax)] }
def KindTextsSaid : Prop := kindTextsRow.holds Tryz.pinned (OpenSpec.ofChange kindTextsSpec)

/-- ITS FALSE NEIGHBOUR: 'it returns false'. Refute it at one input. -/
def kindTextsWrong : ChangeSpec := { name := "kindTexts", fn := fun _ => fun
  | [d1, d2] => { results := [.lit (.bool false)], args := [d1, d2] }
  | _ => none }
def KindTextsWrongFalsely : Prop := kindTextsRow.holds Tryz.pinned (OpenSpec.ofChange kindTextsWrong)

/-- 'sheafworkslaw08.KindWidths': WHATEVER THE INPUT: true; the input reads as it did. -/
def kindWidthsSpec : ChangeSpec := { name := "kindWidths", fn := fun _ => fun
  | [d1, d2] => { results := [.lit (.bool true)], args := [d1, d2] }
  | _ => none }
def kindWidthsRow : OpenClaim := { program := "ytnmolpkkemljoaagreatdoor", sum := "324a4969a01299588d41b0234f2600498dce3b28e4c45646db9987f75fd9f448", func := "sheafworks/sheafworkslaw08.KindWidths", spec := "kindWidths", unfollowed := true, recurses := true, named := ["internal/strconv.uint64pow10", "math/bits.deBruijn32tab", "math/bits.deBruijn64tab", "strconv.ErrSyntax", "strconv.ErrRange"], loops := true, plainKeys := false, apart := false, laid := [("math/bits.deBruijn32tab", laid_math_bits_deBruijn32tab), ("math/bits.deBruijn64tab", laid_math_bits_deBruijn64tab), ("internal/strconv.uint64pow10", laid_internal_strconv_uint64pow10), ("strconv.ErrRange", laid_strconv_ErrRange), ("strconv.ErrSyntax", laid_strconv_ErrSyntax)] }
def KindWidthsSaid : Prop := kindWidthsRow.holds Tryz.pinned (OpenSpec.ofChange kindWidthsSpec)

/-- ITS FALSE NEIGHBOUR: 'it returns false'. Refute it at one input. -/
def kindWidthsWrong : ChangeSpec := { name := "kindWidths", fn := fun _ => fun
  | [d1, d2] => { results := [.lit (.bool false)], args := [d1, d2] }
  | _ => none }
def KindWidthsWrongFalsely : Prop := kindWidthsRow.holds Tryz.pinned (OpenSpec.ofChange kindWidthsWrong)

/-- 'sheafworkslaw08.KindPuts': WHATEVER THE INPUT: true; the input reads as it did. -/
def kindPutsSpec : ChangeSpec := { name := "kindPuts", fn := fun _ => fun
  | [d1, d2] => { results := [.lit (.bool true)], args := [d1, d2] }
  | _ => none }
def kindPutsRow : OpenClaim := { program := "ytnmolpkkemljoaagreatdoor", sum := "324a4969a01299588d41b0234f2600498dce3b28e4c45646db9987f75fd9f448", func := "sheafworks/sheafworkslaw08.KindPuts", spec := "kindPuts", unfollowed := true, recurses := true, named := ["internal/strconv.uint64pow10", "math/bits.deBruijn32tab", "math/bits.deBruijn64tab", "strconv.ErrSyntax", "strconv.ErrRange"], loops := true, plainKeys := false, apart := false, laid := [("math/bits.deBruijn32tab", laid_math_bits_deBruijn32tab), ("math/bits.deBruijn64tab", laid_math_bits_deBruijn64tab), ("internal/strconv.uint64pow10", laid_internal_strconv_uint64pow10), ("strconv.ErrRange", laid_strconv_ErrRange), ("strconv.ErrSyntax", laid_strconv_ErrSyntax)] }
def KindPutsSaid : Prop := kindPutsRow.holds Tryz.pinned (OpenSpec.ofChange kindPutsSpec)

/-- ITS FALSE NEIGHBOUR: 'it returns false'. Refute it at one input. -/
def kindPutsWrong : ChangeSpec := { name := "kindPuts", fn := fun _ => fun
  | [d1, d2] => { results := [.lit (.bool false)], args := [d1, d2] }
  | _ => none }
def KindPutsWrongFalsely : Prop := kindPutsRow.holds Tryz.pinned (OpenSpec.ofChange kindPutsWrong)

/-- 'sheafworkslaw08.KindMost': WHATEVER THE INPUT: true; the input reads as it did. -/
def kindMostSpec : ChangeSpec := { name := "kindMost", fn := fun _ => fun
  | [d1, d2, d3] => { results := [.lit (.bool true)], args := [d1, d2, d3] }
  | _ => none }
def kindMostRow : OpenClaim := { program := "ytnmolpkkemljoaagreatdoor", sum := "324a4969a01299588d41b0234f2600498dce3b28e4c45646db9987f75fd9f448", func := "sheafworks/sheafworkslaw08.KindMost", spec := "kindMost", unfollowed := true, recurses := true, named := ["internal/strconv.uint64pow10", "math/bits.deBruijn32tab", "math/bits.deBruijn64tab", "strconv.ErrSyntax", "strconv.ErrRange"], loops := true, plainKeys := false, apart := false, laid := [("math/bits.deBruijn32tab", laid_math_bits_deBruijn32tab), ("math/bits.deBruijn64tab", laid_math_bits_deBruijn64tab), ("internal/strconv.uint64pow10", laid_internal_strconv_uint64pow10), ("strconv.ErrRange", laid_strconv_ErrRange), ("strconv.ErrSyntax", laid_strconv_ErrSyntax)] }
def KindMostSaid : Prop := kindMostRow.holds Tryz.pinned (OpenSpec.ofChange kindMostSpec)

/-- ITS FALSE NEIGHBOUR: 'it returns false'. Refute it at one input. -/
def kindMostWrong : ChangeSpec := { name := "kindMost", fn := fun _ => fun
  | [d1, d2, d3] => { results := [.lit (.bool false)], args := [d1, d2, d3] }
  | _ => none }
def KindMostWrongFalsely : Prop := kindMostRow.holds Tryz.pinned (OpenSpec.ofChange kindMostWrong)

/-- 'sheafworkslaw08.KindChecks': WHATEVER THE INPUT: true; the input reads as it did. -/
def kindChecksSpec : ChangeSpec := { name := "kindChecks", fn := fun _ => fun
  | [d] => { results := [.lit (.bool true)], args := [d] }
  | _ => none }
def kindChecksRow : OpenClaim := { program := "ytnmolpkkemljoaagreatdoor", sum := "324a4969a01299588d41b0234f2600498dce3b28e4c45646db9987f75fd9f448", func := "sheafworks/sheafworkslaw08.KindChecks", spec := "kindChecks", unfollowed := true, recurses := true, named := ["internal/strconv.uint64pow10", "math/bits.deBruijn32tab", "math/bits.deBruijn64tab", "strconv.ErrSyntax", "strconv.ErrRange"], loops := true, plainKeys := false, apart := false, laid := [("math/bits.deBruijn32tab", laid_math_bits_deBruijn32tab), ("math/bits.deBruijn64tab", laid_math_bits_deBruijn64tab), ("internal/strconv.uint64pow10", laid_internal_strconv_uint64pow10), ("strconv.ErrRange", laid_strconv_ErrRange), ("strconv.ErrSyntax", laid_strconv_ErrSyntax)] }
def KindChecksSaid : Prop := kindChecksRow.holds Tryz.pinned (OpenSpec.ofChange kindChecksSpec)

/-- ITS FALSE NEIGHBOUR: 'it returns false'. Refute it at one input. -/
def kindChecksWrong : ChangeSpec := { name := "kindChecks", fn := fun _ => fun
  | [d] => { results := [.lit (.bool false)], args := [d] }
  | _ => none }
def KindChecksWrongFalsely : Prop := kindChecksRow.holds Tryz.pinned (OpenSpec.ofChange kindChecksWrong)

/-- 'sheafworkslaw08.KindLeast': WHATEVER THE INPUT: true; the input reads as it did. -/
def kindLeastSpec : ChangeSpec := { name := "kindLeast", fn := fun _ => fun
  | [d1, d2, d3] => { results := [.lit (.bool true)], args := [d1, d2, d3] }
  | _ => none }
def kindLeastRow : OpenClaim := { program := "ytnmolpkkemljoaagreatdoor", sum := "324a4969a01299588d41b0234f2600498dce3b28e4c45646db9987f75fd9f448", func := "sheafworks/sheafworkslaw08.KindLeast", spec := "kindLeast", unfollowed := true, recurses := true, named := ["internal/strconv.uint64pow10", "math/bits.deBruijn32tab", "math/bits.deBruijn64tab", "strconv.ErrSyntax", "strconv.ErrRange"], loops := true, plainKeys := false, apart := false, laid := [("math/bits.deBruijn32tab", laid_math_bits_deBruijn32tab), ("math/bits.deBruijn64tab", laid_math_bits_deBruijn64tab), ("internal/strconv.uint64pow10", laid_internal_strconv_uint64pow10), ("strconv.ErrRange", laid_strconv_ErrRange), ("strconv.ErrSyntax", laid_strconv_ErrSyntax)] }
def KindLeastSaid : Prop := kindLeastRow.holds Tryz.pinned (OpenSpec.ofChange kindLeastSpec)

/-- ITS FALSE NEIGHBOUR: 'it returns false'. Refute it at one input. -/
def kindLeastWrong : ChangeSpec := { name := "kindLeast", fn := fun _ => fun
  | [d1, d2, d3] => { results := [.lit (.bool false)], args := [d1, d2, d3] }
  | _ => none }
def KindLeastWrongFalsely : Prop := kindLeastRow.holds Tryz.pinned (OpenSpec.ofChange kindLeastWrong)

/-- 'sheafworkslaw08.KindNames': WHATEVER THE INPUT: true; the input reads as it did. -/
def kindNamesSpec : ChangeSpec := { name := "kindNames", fn := fun _ => fun
  | [] => { results := [.lit (.bool true)], args := [] }
  | _ => none }
def kindNamesRow : OpenClaim := { program := "ytnmolpkkemljoaagreatdoor", sum := "324a4969a01299588d41b0234f2600498dce3b28e4c45646db9987f75fd9f448", func := "sheafworks/sheafworkslaw08.KindNames", spec := "kindNames", unfollowed := true, recurses := true, named := ["internal/strconv.uint64pow10", "math/bits.deBruijn32tab", "math/bits.deBruijn64tab", "strconv.ErrSyntax", "strconv.ErrRange"], plainKeys := false, apart := false, laid := [("math/bits.deBruijn32tab", laid_math_bits_deBruijn32tab), ("math/bits.deBruijn64tab", laid_math_bits_deBruijn64tab), ("internal/strconv.uint64pow10", laid_internal_strconv_uint64pow10), ("strconv.ErrRange", laid_strconv_ErrRange), ("strconv.ErrSyntax", laid_strconv_ErrSyntax)] }
def KindNamesSaid : Prop := kindNamesRow.holds Tryz.pinned (OpenSpec.ofChange kindNamesSpec)

/-- ITS FALSE NEIGHBOUR: 'it returns false'. Refute it at one input. -/
def kindNamesWrong : ChangeSpec := { name := "kindNames", fn := fun _ => fun
  | [] => { results := [.lit (.bool false)], args := [] }
  | _ => none }
def KindNamesWrongFalsely : Prop := kindNamesRow.holds Tryz.pinned (OpenSpec.ofChange kindNamesWrong)

/-- 'sheafworkslaw08.KindInstances': WHATEVER THE INPUT: true; the input reads as it did. -/
def kindInstancesSpec : ChangeSpec := { name := "kindInstances", fn := fun _ => fun
  | [d1, d2, d3] => { results := [.lit (.bool true)], args := [d1, d2, d3] }
  | _ => none }
def kindInstancesRow : OpenClaim := { program := "ytnmolpkkemljoaagreatdoor", sum := "324a4969a01299588d41b0234f2600498dce3b28e4c45646db9987f75fd9f448", func := "sheafworks/sheafworkslaw08.KindInstances", spec := "kindInstances", unfollowed := true, recurses := true, named := ["internal/strconv.uint64pow10", "math/bits.deBruijn32tab", "math/bits.deBruijn64tab", "strconv.ErrSyntax", "strconv.ErrRange"], loops := true, plainKeys := false, apart := false, laid := [("math/bits.deBruijn32tab", laid_math_bits_deBruijn32tab), ("math/bits.deBruijn64tab", laid_math_bits_deBruijn64tab), ("internal/strconv.uint64pow10", laid_internal_strconv_uint64pow10), ("strconv.ErrRange", laid_strconv_ErrRange), ("strconv.ErrSyntax", laid_strconv_ErrSyntax)] }
def KindInstancesSaid : Prop := kindInstancesRow.holds Tryz.pinned (OpenSpec.ofChange kindInstancesSpec)

/-- ITS FALSE NEIGHBOUR: 'it returns false'. Refute it at one input. -/
def kindInstancesWrong : ChangeSpec := { name := "kindInstances", fn := fun _ => fun
  | [d1, d2, d3] => { results := [.lit (.bool false)], args := [d1, d2, d3] }
  | _ => none }
def KindInstancesWrongFalsely : Prop := kindInstancesRow.holds Tryz.pinned (OpenSpec.ofChange kindInstancesWrong)

/-- 'sheafworkslaw08.KindNumbers': WHATEVER THE INPUT: true; the input reads as it did. -/
def kindNumbersSpec : ChangeSpec := { name := "kindNumbers", fn := fun _ => fun
  | [d1, d2] => { results := [.lit (.bool true)], args := [d1, d2] }
  | _ => none }
def kindNumbersRow : OpenClaim := { program := "ytnmolpkkemljoaagreatdoor", sum := "324a4969a01299588d41b0234f2600498dce3b28e4c45646db9987f75fd9f448", func := "sheafworks/sheafworkslaw08.KindNumbers", spec := "kindNumbers", unfollowed := true, recurses := true, named := ["internal/strconv.uint64pow10", "math/bits.deBruijn32tab", "math/bits.deBruijn64tab", "strconv.ErrSyntax", "strconv.ErrRange"], loops := true, plainKeys := false, apart := false, laid := [("math/bits.deBruijn32tab", laid_math_bits_deBruijn32tab), ("math/bits.deBruijn64tab", laid_math_bits_deBruijn64tab), ("internal/strconv.uint64pow10", laid_internal_strconv_uint64pow10), ("strconv.ErrRange", laid_strconv_ErrRange), ("strconv.ErrSyntax", laid_strconv_ErrSyntax)] }
def KindNumbersSaid : Prop := kindNumbersRow.holds Tryz.pinned (OpenSpec.ofChange kindNumbersSpec)

/-- ITS FALSE NEIGHBOUR: 'it returns false'. Refute it at one input. -/
def kindNumbersWrong : ChangeSpec := { name := "kindNumbers", fn := fun _ => fun
  | [d1, d2] => { results := [.lit (.bool false)], args := [d1, d2] }
  | _ => none }
def KindNumbersWrongFalsely : Prop := kindNumbersRow.holds Tryz.pinned (OpenSpec.ofChange kindNumbersWrong)

/- THE SECOND FORM. 'bulk': how many values and letters a reading holds, each counted each time it is reached (what is shared counts as often as it is met; a slice's spare places count too). A statement '..UptoSaid' is the law's where the arguments, and the package variables that the reading takes, are together of bulk at most 1048576: NARROWER than '..Said'. Prove '..Said' where nothing that the law and all that it calls make is longer than what came in: it says more and counts as full. Else prove '..UptoSaid'. A law counts once. -/
mutual
def uptoBulk {H : Type} : DataW H → Nat
  | .lit (.string bytes) => bytes.length + 1
  | .lit _ => 1
  | .nil => 1
  | .ptr d => uptoBulk d + 1
  | .slice elems spare => uptoBulkAll elems + uptoBulkAll spare + 1
  | .agg parts => uptoBulkAll parts + 1
  | .iface _ d => uptoBulk d + 1
  | .map entries => uptoBulkEntries entries + 1
  | .held _ => 1
def uptoBulkAll {H : Type} : List (DataW H) → Nat
  | [] => 0
  | d :: r => uptoBulk d + uptoBulkAll r
def uptoBulkEntries {H : Type} : List (Lit × DataW H) → Nat
  | [] => 0
  | x :: r => uptoBulkEntry x + uptoBulkEntries r
def uptoBulkEntry {H : Type} : Lit × DataW H → Nat
  | (.string bytes, d) => bytes.length + uptoBulk d + 1
  | (_, d) => uptoBulk d + 1
 end
def uptoSmall : (H : Type) → List (DataW H) → Bool := fun _ ds => decide (uptoBulkAll ds ≤ 1048576)
def OpenSpec.upto (s : _root_.Go.ChangeSpec) : _root_.Go.OpenSpec := { _root_.Go.OpenSpec.ofChange s with cond := some uptoSmall }

/-- 'sheafworkslaw08.KindUnifies', WHERE WHAT IT READS IS OF BULK AT MOST 1048576: true; the input reads as it did. -/
def kindUnifiesUptoRow : OpenClaim := { program := "ytnmolpkkemljoaagreatdoor", sum := "324a4969a01299588d41b0234f2600498dce3b28e4c45646db9987f75fd9f448", func := "sheafworks/sheafworkslaw08.KindUnifies", spec := "kindUnifies", unfollowed := true, recurses := true, named := ["internal/strconv.uint64pow10", "math/bits.deBruijn32tab", "math/bits.deBruijn64tab", "strconv.ErrSyntax", "strconv.ErrRange"], loops := true, plainKeys := false, apart := false, laid := [("math/bits.deBruijn32tab", laid_math_bits_deBruijn32tab), ("math/bits.deBruijn64tab", laid_math_bits_deBruijn64tab), ("internal/strconv.uint64pow10", laid_internal_strconv_uint64pow10), ("strconv.ErrRange", laid_strconv_ErrRange), ("strconv.ErrSyntax", laid_strconv_ErrSyntax)], narrowed := true }
def KindUnifiesUptoSaid : Prop := kindUnifiesUptoRow.holds Tryz.pinned (OpenSpec.upto kindUnifiesSpec)

/-- 'sheafworkslaw08.KindReads', WHERE WHAT IT READS IS OF BULK AT MOST 1048576: true; the input reads as it did. -/
def kindReadsUptoRow : OpenClaim := { program := "ytnmolpkkemljoaagreatdoor", sum := "324a4969a01299588d41b0234f2600498dce3b28e4c45646db9987f75fd9f448", func := "sheafworks/sheafworkslaw08.KindReads", spec := "kindReads", unfollowed := true, recurses := true, named := ["internal/strconv.uint64pow10", "math/bits.deBruijn32tab", "math/bits.deBruijn64tab", "strconv.ErrSyntax", "strconv.ErrRange"], plainKeys := false, apart := false, laid := [("math/bits.deBruijn32tab", laid_math_bits_deBruijn32tab), ("math/bits.deBruijn64tab", laid_math_bits_deBruijn64tab), ("internal/strconv.uint64pow10", laid_internal_strconv_uint64pow10), ("strconv.ErrRange", laid_strconv_ErrRange), ("strconv.ErrSyntax", laid_strconv_ErrSyntax)], narrowed := true }
def KindReadsUptoSaid : Prop := kindReadsUptoRow.holds Tryz.pinned (OpenSpec.upto kindReadsSpec)

/-- 'sheafworkslaw08.KindTexts', WHERE WHAT IT READS IS OF BULK AT MOST 1048576: true; the input reads as it did. -/
def kindTextsUptoRow : OpenClaim := { program := "ytnmolpkkemljoaagreatdoor", sum := "324a4969a01299588d41b0234f2600498dce3b28e4c45646db9987f75fd9f448", func := "sheafworks/sheafworkslaw08.KindTexts", spec := "kindTexts", unfollowed := true, recurses := true, named := ["internal/strconv.uint64pow10", "math/bits.deBruijn32tab", "math/bits.deBruijn64tab", "strconv.ErrSyntax", "strconv.ErrRange"], loops := true, plainKeys := false, apart := false, laid := [("math/bits.deBruijn32tab", laid_math_bits_deBruijn32tab), ("math/bits.deBruijn64tab", laid_math_bits_deBruijn64tab), ("internal/strconv.uint64pow10", laid_internal_strconv_uint64pow10), ("strconv.ErrRange", laid_strconv_ErrRange), ("strconv.ErrSyntax", laid_strconv_ErrSyntax)], narrowed := true }
def KindTextsUptoSaid : Prop := kindTextsUptoRow.holds Tryz.pinned (OpenSpec.upto kindTextsSpec)

/-- 'sheafworkslaw08.KindWidths', WHERE WHAT IT READS IS OF BULK AT MOST 1048576: true; the input reads as it did. -/
def kindWidthsUptoRow : OpenClaim := { program := "ytnmolpkkemljoaagreatdoor", sum := "324a4969a01299588d41b0234f2600498dce3b28e4c45646db9987f75fd9f448", func := "sheafworks/sheafworkslaw08.KindWidths", spec := "kindWidths", unfollowed := true, recurses := true, named := ["internal/strconv.uint64pow10", "math/bits.deBruijn32tab", "math/bits.deBruijn64tab", "strconv.ErrSyntax", "strconv.ErrRange"], loops := true, plainKeys := false, apart := false, laid := [("math/bits.deBruijn32tab", laid_math_bits_deBruijn32tab), ("math/bits.deBruijn64tab", laid_math_bits_deBruijn64tab), ("internal/strconv.uint64pow10", laid_internal_strconv_uint64pow10), ("strconv.ErrRange", laid_strconv_ErrRange), ("strconv.ErrSyntax", laid_strconv_ErrSyntax)], narrowed := true }
def KindWidthsUptoSaid : Prop := kindWidthsUptoRow.holds Tryz.pinned (OpenSpec.upto kindWidthsSpec)

/-- 'sheafworkslaw08.KindPuts', WHERE WHAT IT READS IS OF BULK AT MOST 1048576: true; the input reads as it did. -/
def kindPutsUptoRow : OpenClaim := { program := "ytnmolpkkemljoaagreatdoor", sum := "324a4969a01299588d41b0234f2600498dce3b28e4c45646db9987f75fd9f448", func := "sheafworks/sheafworkslaw08.KindPuts", spec := "kindPuts", unfollowed := true, recurses := true, named := ["internal/strconv.uint64pow10", "math/bits.deBruijn32tab", "math/bits.deBruijn64tab", "strconv.ErrSyntax", "strconv.ErrRange"], loops := true, plainKeys := false, apart := false, laid := [("math/bits.deBruijn32tab", laid_math_bits_deBruijn32tab), ("math/bits.deBruijn64tab", laid_math_bits_deBruijn64tab), ("internal/strconv.uint64pow10", laid_internal_strconv_uint64pow10), ("strconv.ErrRange", laid_strconv_ErrRange), ("strconv.ErrSyntax", laid_strconv_ErrSyntax)], narrowed := true }
def KindPutsUptoSaid : Prop := kindPutsUptoRow.holds Tryz.pinned (OpenSpec.upto kindPutsSpec)

/-- 'sheafworkslaw08.KindMost', WHERE WHAT IT READS IS OF BULK AT MOST 1048576: true; the input reads as it did. -/
def kindMostUptoRow : OpenClaim := { program := "ytnmolpkkemljoaagreatdoor", sum := "324a4969a01299588d41b0234f2600498dce3b28e4c45646db9987f75fd9f448", func := "sheafworks/sheafworkslaw08.KindMost", spec := "kindMost", unfollowed := true, recurses := true, named := ["internal/strconv.uint64pow10", "math/bits.deBruijn32tab", "math/bits.deBruijn64tab", "strconv.ErrSyntax", "strconv.ErrRange"], loops := true, plainKeys := false, apart := false, laid := [("math/bits.deBruijn32tab", laid_math_bits_deBruijn32tab), ("math/bits.deBruijn64tab", laid_math_bits_deBruijn64tab), ("internal/strconv.uint64pow10", laid_internal_strconv_uint64pow10), ("strconv.ErrRange", laid_strconv_ErrRange), ("strconv.ErrSyntax", laid_strconv_ErrSyntax)], narrowed := true }
def KindMostUptoSaid : Prop := kindMostUptoRow.holds Tryz.pinned (OpenSpec.upto kindMostSpec)

/-- 'sheafworkslaw08.KindChecks', WHERE WHAT IT READS IS OF BULK AT MOST 1048576: true; the input reads as it did. -/
def kindChecksUptoRow : OpenClaim := { program := "ytnmolpkkemljoaagreatdoor", sum := "324a4969a01299588d41b0234f2600498dce3b28e4c45646db9987f75fd9f448", func := "sheafworks/sheafworkslaw08.KindChecks", spec := "kindChecks", unfollowed := true, recurses := true, named := ["internal/strconv.uint64pow10", "math/bits.deBruijn32tab", "math/bits.deBruijn64tab", "strconv.ErrSyntax", "strconv.ErrRange"], loops := true, plainKeys := false, apart := false, laid := [("math/bits.deBruijn32tab", laid_math_bits_deBruijn32tab), ("math/bits.deBruijn64tab", laid_math_bits_deBruijn64tab), ("internal/strconv.uint64pow10", laid_internal_strconv_uint64pow10), ("strconv.ErrRange", laid_strconv_ErrRange), ("strconv.ErrSyntax", laid_strconv_ErrSyntax)], narrowed := true }
def KindChecksUptoSaid : Prop := kindChecksUptoRow.holds Tryz.pinned (OpenSpec.upto kindChecksSpec)

/-- 'sheafworkslaw08.KindLeast', WHERE WHAT IT READS IS OF BULK AT MOST 1048576: true; the input reads as it did. -/
def kindLeastUptoRow : OpenClaim := { program := "ytnmolpkkemljoaagreatdoor", sum := "324a4969a01299588d41b0234f2600498dce3b28e4c45646db9987f75fd9f448", func := "sheafworks/sheafworkslaw08.KindLeast", spec := "kindLeast", unfollowed := true, recurses := true, named := ["internal/strconv.uint64pow10", "math/bits.deBruijn32tab", "math/bits.deBruijn64tab", "strconv.ErrSyntax", "strconv.ErrRange"], loops := true, plainKeys := false, apart := false, laid := [("math/bits.deBruijn32tab", laid_math_bits_deBruijn32tab), ("math/bits.deBruijn64tab", laid_math_bits_deBruijn64tab), ("internal/strconv.uint64pow10", laid_internal_strconv_uint64pow10), ("strconv.ErrRange", laid_strconv_ErrRange), ("strconv.ErrSyntax", laid_strconv_ErrSyntax)], narrowed := true }
def KindLeastUptoSaid : Prop := kindLeastUptoRow.holds Tryz.pinned (OpenSpec.upto kindLeastSpec)

/-- 'sheafworkslaw08.KindNames', WHERE WHAT IT READS IS OF BULK AT MOST 1048576: true; the input reads as it did. -/
def kindNamesUptoRow : OpenClaim := { program := "ytnmolpkkemljoaagreatdoor", sum := "324a4969a01299588d41b0234f2600498dce3b28e4c45646db9987f75fd9f448", func := "sheafworks/sheafworkslaw08.KindNames", spec := "kindNames", unfollowed := true, recurses := true, named := ["internal/strconv.uint64pow10", "math/bits.deBruijn32tab", "math/bits.deBruijn64tab", "strconv.ErrSyntax", "strconv.ErrRange"], plainKeys := false, apart := false, laid := [("math/bits.deBruijn32tab", laid_math_bits_deBruijn32tab), ("math/bits.deBruijn64tab", laid_math_bits_deBruijn64tab), ("internal/strconv.uint64pow10", laid_internal_strconv_uint64pow10), ("strconv.ErrRange", laid_strconv_ErrRange), ("strconv.ErrSyntax", laid_strconv_ErrSyntax)], narrowed := true }
def KindNamesUptoSaid : Prop := kindNamesUptoRow.holds Tryz.pinned (OpenSpec.upto kindNamesSpec)

/-- 'sheafworkslaw08.KindInstances', WHERE WHAT IT READS IS OF BULK AT MOST 1048576: true; the input reads as it did. -/
def kindInstancesUptoRow : OpenClaim := { program := "ytnmolpkkemljoaagreatdoor", sum := "324a4969a01299588d41b0234f2600498dce3b28e4c45646db9987f75fd9f448", func := "sheafworks/sheafworkslaw08.KindInstances", spec := "kindInstances", unfollowed := true, recurses := true, named := ["internal/strconv.uint64pow10", "math/bits.deBruijn32tab", "math/bits.deBruijn64tab", "strconv.ErrSyntax", "strconv.ErrRange"], loops := true, plainKeys := false, apart := false, laid := [("math/bits.deBruijn32tab", laid_math_bits_deBruijn32tab), ("math/bits.deBruijn64tab", laid_math_bits_deBruijn64tab), ("internal/strconv.uint64pow10", laid_internal_strconv_uint64pow10), ("strconv.ErrRange", laid_strconv_ErrRange), ("strconv.ErrSyntax", laid_strconv_ErrSyntax)], narrowed := true }
def KindInstancesUptoSaid : Prop := kindInstancesUptoRow.holds Tryz.pinned (OpenSpec.upto kindInstancesSpec)

/-- 'sheafworkslaw08.KindNumbers', WHERE WHAT IT READS IS OF BULK AT MOST 1048576: true; the input reads as it did. -/
def kindNumbersUptoRow : OpenClaim := { program := "ytnmolpkkemljoaagreatdoor", sum := "324a4969a01299588d41b0234f2600498dce3b28e4c45646db9987f75fd9f448", func := "sheafworks/sheafworkslaw08.KindNumbers", spec := "kindNumbers", unfollowed := true, recurses := true, named := ["internal/strconv.uint64pow10", "math/bits.deBruijn32tab", "math/bits.deBruijn64tab", "strconv.ErrSyntax", "strconv.ErrRange"], loops := true, plainKeys := false, apart := false, laid := [("math/bits.deBruijn32tab", laid_math_bits_deBruijn32tab), ("math/bits.deBruijn64tab", laid_math_bits_deBruijn64tab), ("internal/strconv.uint64pow10", laid_internal_strconv_uint64pow10), ("strconv.ErrRange", laid_strconv_ErrRange), ("strconv.ErrSyntax", laid_strconv_ErrSyntax)], narrowed := true }
def KindNumbersUptoSaid : Prop := kindNumbersUptoRow.holds Tryz.pinned (OpenSpec.upto kindNumbersSpec)

end Rows
end Go.Proofs.YtnmolpkkemljoaaGreatDoor

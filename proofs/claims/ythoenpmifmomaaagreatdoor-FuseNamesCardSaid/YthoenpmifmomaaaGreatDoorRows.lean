/-
  NARROWER THAN 'FOR EVERY INPUT', by the rows' own cells (each row's printed sentence says how): FuseNames: laid · ChunkKnown: laid · SameNames: laid · ShapeNames: laid.
  DERIVED. THE GIVEN ROWS OF THIS SEAT. 4 by the template 'for every input the law returns true; each argument reads behind the call as it read before'; 0 by the template 'total and deterministic' (their statements: YthoenpmifmomaaaGreatDoorTotals.lean).
  GIVEN WITH THE SEED: the statements are not yours to turn. If you find one false, say at which input.
  Laid BY PROGRAM, IN A SANDBOX (cutbox-rows.mjs): the forced cells as the released guide's own fill.sh prints them over the translation 8b9246495e3102e2… (all of the seat's roots in one cut). By AI agents, Wed Nov 11 2026. No macro, syntax, notation, axiom, sorry.
-/
import Derived.Test.YthoenpmifmomaaaGreatDoorChecked
import GoSem.Claim
import GoSem.ClaimJoined
import GoSem.ClaimMapViews
import Derived.JoinedTies
import Derived.KernelRfl
namespace Go.Proofs.YthoenpmifmomaaaGreatDoor
/- THE CELL 'sum', in the pinned program and in every row, IS THE sha256 OF THE DUMP (.gsa) THAT YthoenpmifmomaaaGreatDoorProg.lean LOADS. Nothing in Lean hashes anything: it is a label: what it is worth is what the hold of that sum in a sandbox is worth. -/
noncomputable def Tryz.pinned : Pinned := { name := "ythoenpmifmomaaagreatdoor", sum := "8b9246495e3102e235d6356c74a30ea0de7f72aa2c5b8b8a594048a6593beac4", checked := Tryz.checked }
namespace Rows
def none {H : Type} : Left H := { results := [], args := [] }

/- WHAT THE LISTED PACKAGE-LEVEL VARIABLES READ AS WHEN THE CALL BEGINS. Each datum BY PROGRAM (the guide's laid-datum.mjs) off the statement by which the dump's own 'gosem.cut.vars' lays the variable. In a bare row this is a premise. The card (YthoenpmifmomaaaGreatDoorCards.lean) ties it to the program's text. -/
def laid_sheafworks_word_deeds {H : Type} : DataW H := .iface "func table" (.agg [.iface "func" (.lit (.string [40, 115, 104, 101, 97, 102, 119, 111, 114, 107, 115, 47, 119, 111, 114, 100, 46, 112, 97, 105, 114, 41, 46, 97, 100, 100])), .iface "func" (.lit (.string [40, 115, 104, 101, 97, 102, 119, 111, 114, 107, 115, 47, 119, 111, 114, 100, 46, 112, 97, 105, 114, 41, 46, 115, 117, 98])), .iface "func" (.lit (.string [40, 115, 104, 101, 97, 102, 119, 111, 114, 107, 115, 47, 119, 111, 114, 100, 46, 112, 97, 105, 114, 41, 46, 109, 117, 108])), .iface "func" (.lit (.string [40, 115, 104, 101, 97, 102, 119, 111, 114, 107, 115, 47, 119, 111, 114, 100, 46, 112, 97, 105, 114, 41, 46, 100, 105, 118])), .iface "func" (.lit (.string [40, 115, 104, 101, 97, 102, 119, 111, 114, 107, 115, 47, 119, 111, 114, 100, 46, 112, 97, 105, 114, 41, 46, 109, 111, 100])), .iface "func" (.lit (.string [40, 115, 104, 101, 97, 102, 119, 111, 114, 107, 115, 47, 119, 111, 114, 100, 46, 112, 97, 105, 114, 41, 46, 108, 101, 115, 115])), .iface "func" (.lit (.string [40, 115, 104, 101, 97, 102, 119, 111, 114, 107, 115, 47, 119, 111, 114, 100, 46, 112, 97, 105, 114, 41, 46, 115, 97, 109, 101])), .iface "func" (.lit (.string [40, 115, 104, 101, 97, 102, 119, 111, 114, 107, 115, 47, 119, 111, 114, 100, 46, 112, 97, 105, 114, 41, 46, 109, 105, 110])), .iface "func" (.lit (.string [40, 115, 104, 101, 97, 102, 119, 111, 114, 107, 115, 47, 119, 111, 114, 100, 46, 112, 97, 105, 114, 41, 46, 109, 97, 120])), .iface "func" (.lit (.string [40, 115, 104, 101, 97, 102, 119, 111, 114, 107, 115, 47, 119, 111, 114, 100, 46, 112, 97, 105, 114, 41, 46, 97, 110, 100])), .iface "func" (.lit (.string [40, 115, 104, 101, 97, 102, 119, 111, 114, 107, 115, 47, 119, 111, 114, 100, 46, 112, 97, 105, 114, 41, 46, 111, 114])), .iface "func" (.lit (.string [40, 115, 104, 101, 97, 102, 119, 111, 114, 107, 115, 47, 119, 111, 114, 100, 46, 112, 97, 105, 114, 41, 46, 120, 111, 114]))])
def laid_sheafworks_word_laws {H : Type} : DataW H := .agg [.agg [.lit (.bool true), .lit (.bool true), .lit (.bool false)], .agg [.lit (.bool false), .lit (.bool false), .lit (.bool false)], .agg [.lit (.bool true), .lit (.bool true), .lit (.bool false)], .agg [.lit (.bool false), .lit (.bool false), .lit (.bool false)], .agg [.lit (.bool false), .lit (.bool false), .lit (.bool false)], .agg [.lit (.bool false), .lit (.bool false), .lit (.bool false)], .agg [.lit (.bool false), .lit (.bool true), .lit (.bool false)], .agg [.lit (.bool true), .lit (.bool true), .lit (.bool true)], .agg [.lit (.bool true), .lit (.bool true), .lit (.bool true)], .agg [.lit (.bool true), .lit (.bool true), .lit (.bool true)], .agg [.lit (.bool true), .lit (.bool true), .lit (.bool true)], .agg [.lit (.bool true), .lit (.bool true), .lit (.bool false)]]
def laid_sheafworks_word_neutrals {H : Type} : DataW H := .agg [.lit (.int .i64 0), .lit (.int .i64 0), .lit (.int .i64 1), .lit (.int .i64 0), .lit (.int .i64 0), .lit (.int .i64 0), .lit (.int .i64 0), .lit (.int .i64 2147483647), .lit (.int .i64 (-2147483648)), .lit (.int .i64 (-1)), .lit (.int .i64 0), .lit (.int .i64 0)]
def laid_math_bits_deBruijn32tab {H : Type} : DataW H := .agg [.lit (.int .u8 0), .lit (.int .u8 1), .lit (.int .u8 28), .lit (.int .u8 2), .lit (.int .u8 29), .lit (.int .u8 14), .lit (.int .u8 24), .lit (.int .u8 3), .lit (.int .u8 30), .lit (.int .u8 22), .lit (.int .u8 20), .lit (.int .u8 15), .lit (.int .u8 25), .lit (.int .u8 17), .lit (.int .u8 4), .lit (.int .u8 8), .lit (.int .u8 31), .lit (.int .u8 27), .lit (.int .u8 13), .lit (.int .u8 23), .lit (.int .u8 21), .lit (.int .u8 19), .lit (.int .u8 16), .lit (.int .u8 7), .lit (.int .u8 26), .lit (.int .u8 12), .lit (.int .u8 18), .lit (.int .u8 6), .lit (.int .u8 11), .lit (.int .u8 5), .lit (.int .u8 10), .lit (.int .u8 9)]
def laid_math_bits_deBruijn64tab {H : Type} : DataW H := .agg [.lit (.int .u8 0), .lit (.int .u8 1), .lit (.int .u8 56), .lit (.int .u8 2), .lit (.int .u8 57), .lit (.int .u8 49), .lit (.int .u8 28), .lit (.int .u8 3), .lit (.int .u8 61), .lit (.int .u8 58), .lit (.int .u8 42), .lit (.int .u8 50), .lit (.int .u8 38), .lit (.int .u8 29), .lit (.int .u8 17), .lit (.int .u8 4), .lit (.int .u8 62), .lit (.int .u8 47), .lit (.int .u8 59), .lit (.int .u8 36), .lit (.int .u8 45), .lit (.int .u8 43), .lit (.int .u8 51), .lit (.int .u8 22), .lit (.int .u8 53), .lit (.int .u8 39), .lit (.int .u8 33), .lit (.int .u8 30), .lit (.int .u8 24), .lit (.int .u8 18), .lit (.int .u8 12), .lit (.int .u8 5), .lit (.int .u8 63), .lit (.int .u8 55), .lit (.int .u8 48), .lit (.int .u8 27), .lit (.int .u8 60), .lit (.int .u8 41), .lit (.int .u8 37), .lit (.int .u8 16), .lit (.int .u8 46), .lit (.int .u8 35), .lit (.int .u8 44), .lit (.int .u8 21), .lit (.int .u8 52), .lit (.int .u8 32), .lit (.int .u8 23), .lit (.int .u8 11), .lit (.int .u8 54), .lit (.int .u8 26), .lit (.int .u8 40), .lit (.int .u8 15), .lit (.int .u8 34), .lit (.int .u8 20), .lit (.int .u8 31), .lit (.int .u8 10), .lit (.int .u8 25), .lit (.int .u8 14), .lit (.int .u8 19), .lit (.int .u8 9), .lit (.int .u8 13), .lit (.int .u8 8), .lit (.int .u8 7), .lit (.int .u8 6)]
def laid_internal_strconv_uint64pow10 {H : Type} : DataW H := .agg [.lit (.int .u64 1), .lit (.int .u64 10), .lit (.int .u64 100), .lit (.int .u64 1000), .lit (.int .u64 10000), .lit (.int .u64 100000), .lit (.int .u64 1000000), .lit (.int .u64 10000000), .lit (.int .u64 100000000), .lit (.int .u64 1000000000), .lit (.int .u64 10000000000), .lit (.int .u64 100000000000), .lit (.int .u64 1000000000000), .lit (.int .u64 10000000000000), .lit (.int .u64 100000000000000), .lit (.int .u64 1000000000000000), .lit (.int .u64 10000000000000000), .lit (.int .u64 100000000000000000), .lit (.int .u64 1000000000000000000), .lit (.int .u64 10000000000000000000)]
def laid_sheafworks_shape_words {H : Type} : DataW H := .agg [.lit (.int .i64 (-2147483648)), .lit (.int .i64 2147483647)]

/-- 'sheafworkslaw19.FuseNames': WHATEVER THE INPUT: true; the input reads as it did. -/
def fuseNamesSpec : ChangeSpec := { name := "fuseNames", fn := fun _ => fun
  | [] => { results := [.lit (.bool true)], args := [] }
  | _ => none }
def fuseNamesRow : OpenClaim := { program := "ythoenpmifmomaaagreatdoor", sum := "8b9246495e3102e235d6356c74a30ea0de7f72aa2c5b8b8a594048a6593beac4", func := "sheafworks/sheafworkslaw19.FuseNames", spec := "fuseNames", unfollowed := true, recurses := true, named := ["sheafworks/word.deeds", "sheafworks/word.neutrals", "sheafworks/word.laws"], plainKeys := false, apart := false, laid := [("sheafworks/word.deeds", laid_sheafworks_word_deeds), ("sheafworks/word.laws", laid_sheafworks_word_laws), ("sheafworks/word.neutrals", laid_sheafworks_word_neutrals)] }
def FuseNamesSaid : Prop := fuseNamesRow.holds Tryz.pinned (OpenSpec.ofChange fuseNamesSpec)

/-- ITS FALSE NEIGHBOUR: 'it returns false'. Refute it at one input. -/
def fuseNamesWrong : ChangeSpec := { name := "fuseNames", fn := fun _ => fun
  | [] => { results := [.lit (.bool false)], args := [] }
  | _ => none }
def FuseNamesWrongFalsely : Prop := fuseNamesRow.holds Tryz.pinned (OpenSpec.ofChange fuseNamesWrong)

/-- 'sheafworkslaw22.ChunkKnown': WHATEVER THE INPUT: true; the input reads as it did. -/
def chunkKnownSpec : ChangeSpec := { name := "chunkKnown", fn := fun _ => fun
  | [] => { results := [.lit (.bool true)], args := [] }
  | _ => none }
def chunkKnownRow : OpenClaim := { program := "ythoenpmifmomaaagreatdoor", sum := "8b9246495e3102e235d6356c74a30ea0de7f72aa2c5b8b8a594048a6593beac4", func := "sheafworks/sheafworkslaw22.ChunkKnown", spec := "chunkKnown", unfollowed := true, recurses := true, named := ["sheafworks/word.deeds", "sheafworks/word.neutrals", "sheafworks/word.laws"], plainKeys := false, apart := false, laid := [("sheafworks/word.deeds", laid_sheafworks_word_deeds), ("sheafworks/word.laws", laid_sheafworks_word_laws), ("sheafworks/word.neutrals", laid_sheafworks_word_neutrals)] }
def ChunkKnownSaid : Prop := chunkKnownRow.holds Tryz.pinned (OpenSpec.ofChange chunkKnownSpec)

/-- ITS FALSE NEIGHBOUR: 'it returns false'. Refute it at one input. -/
def chunkKnownWrong : ChangeSpec := { name := "chunkKnown", fn := fun _ => fun
  | [] => { results := [.lit (.bool false)], args := [] }
  | _ => none }
def ChunkKnownWrongFalsely : Prop := chunkKnownRow.holds Tryz.pinned (OpenSpec.ofChange chunkKnownWrong)

/-- 'sheafworkslaw20.SameNames': WHATEVER THE INPUT: true; the input reads as it did. -/
def sameNamesSpec : ChangeSpec := { name := "sameNames", fn := fun _ => fun
  | [] => { results := [.lit (.bool true)], args := [] }
  | _ => none }
def sameNamesRow : OpenClaim := { program := "ythoenpmifmomaaagreatdoor", sum := "8b9246495e3102e235d6356c74a30ea0de7f72aa2c5b8b8a594048a6593beac4", func := "sheafworks/sheafworkslaw20.SameNames", spec := "sameNames", inPlace := ["internal/abi.NoEscape", "internal/bytealg.MakeNoZero"], unfollowed := true, recurses := true, named := ["sheafworks/word.deeds", "sheafworks/word.neutrals", "sheafworks/word.laws", "internal/strconv.uint64pow10", "math/bits.deBruijn32tab", "math/bits.deBruijn64tab"], plainKeys := false, apart := false, laid := [("math/bits.deBruijn32tab", laid_math_bits_deBruijn32tab), ("math/bits.deBruijn64tab", laid_math_bits_deBruijn64tab), ("internal/strconv.uint64pow10", laid_internal_strconv_uint64pow10), ("sheafworks/word.deeds", laid_sheafworks_word_deeds), ("sheafworks/word.laws", laid_sheafworks_word_laws), ("sheafworks/word.neutrals", laid_sheafworks_word_neutrals)] }
def SameNamesSaid : Prop := sameNamesRow.holds Tryz.pinned (OpenSpec.ofChange sameNamesSpec)

/-- ITS FALSE NEIGHBOUR: 'it returns false'. Refute it at one input. -/
def sameNamesWrong : ChangeSpec := { name := "sameNames", fn := fun _ => fun
  | [] => { results := [.lit (.bool false)], args := [] }
  | _ => none }
def SameNamesWrongFalsely : Prop := sameNamesRow.holds Tryz.pinned (OpenSpec.ofChange sameNamesWrong)

/-- 'sheafworkslaw18.ShapeNames': WHATEVER THE INPUT: true; the input reads as it did. -/
def shapeNamesSpec : ChangeSpec := { name := "shapeNames", fn := fun _ => fun
  | [] => { results := [.lit (.bool true)], args := [] }
  | _ => none }
def shapeNamesRow : OpenClaim := { program := "ythoenpmifmomaaagreatdoor", sum := "8b9246495e3102e235d6356c74a30ea0de7f72aa2c5b8b8a594048a6593beac4", func := "sheafworks/sheafworkslaw18.ShapeNames", spec := "shapeNames", unfollowed := true, recurses := true, named := ["sheafworks/word.deeds", "sheafworks/word.neutrals", "sheafworks/word.laws", "sheafworks/shape.words"], plainKeys := false, apart := false, laid := [("sheafworks/word.deeds", laid_sheafworks_word_deeds), ("sheafworks/word.laws", laid_sheafworks_word_laws), ("sheafworks/word.neutrals", laid_sheafworks_word_neutrals), ("sheafworks/shape.words", laid_sheafworks_shape_words)] }
def ShapeNamesSaid : Prop := shapeNamesRow.holds Tryz.pinned (OpenSpec.ofChange shapeNamesSpec)

/-- ITS FALSE NEIGHBOUR: 'it returns false'. Refute it at one input. -/
def shapeNamesWrong : ChangeSpec := { name := "shapeNames", fn := fun _ => fun
  | [] => { results := [.lit (.bool false)], args := [] }
  | _ => none }
def ShapeNamesWrongFalsely : Prop := shapeNamesRow.holds Tryz.pinned (OpenSpec.ofChange shapeNamesWrong)

/- THE SECOND FORM. 'bulk': how many values and letters a reading holds, each counted each time it is reached (what is shared counts as often as it is met; a slice's spare places count too). A statement '..UptoSaid' is the law's where the arguments, and the package variables that the reading takes, are together of bulk at most 1048576: NARROWER than '..Said'. Prove '..Said' where nothing that the law and all that it calls make is longer than what came in: it says more and counts as full. Else prove '..UptoSaid'. A law counts once. -/
mutual
def uptoBulk {H : Type} : DataW H → Nat
  | .lit (.string bytes) => bytes.length + 1
  | .lit _ => 1
  | .nil => 1
  | .ptr d => uptoBulk d + 1
  | .slice elems spare => uptoBulkAll elems + uptoBulkAll spare + 1
  | .agg parts => uptoBulkAll parts + 1
  | .iface _ d => uptoBulk d + 1
  | .map entries => uptoBulkEntries entries + 1
  | .held _ => 1
def uptoBulkAll {H : Type} : List (DataW H) → Nat
  | [] => 0
  | d :: r => uptoBulk d + uptoBulkAll r
def uptoBulkEntries {H : Type} : List (Lit × DataW H) → Nat
  | [] => 0
  | x :: r => uptoBulkEntry x + uptoBulkEntries r
def uptoBulkEntry {H : Type} : Lit × DataW H → Nat
  | (.string bytes, d) => bytes.length + uptoBulk d + 1
  | (_, d) => uptoBulk d + 1
 end
def uptoSmall : (H : Type) → List (DataW H) → Bool := fun _ ds => decide (uptoBulkAll ds ≤ 1048576)
def OpenSpec.upto (s : _root_.Go.ChangeSpec) : _root_.Go.OpenSpec := { _root_.Go.OpenSpec.ofChange s with cond := some uptoSmall }

/-- 'sheafworkslaw19.FuseNames', WHERE WHAT IT READS IS OF BULK AT MOST 1048576: true; the input reads as it did. -/
def fuseNamesUptoRow : OpenClaim := { program := "ythoenpmifmomaaagreatdoor", sum := "8b9246495e3102e235d6356c74a30ea0de7f72aa2c5b8b8a594048a6593beac4", func := "sheafworks/sheafworkslaw19.FuseNames", spec := "fuseNames", unfollowed := true, recurses := true, named := ["sheafworks/word.deeds", "sheafworks/word.neutrals", "sheafworks/word.laws"], plainKeys := false, apart := false, laid := [("sheafworks/word.deeds", laid_sheafworks_word_deeds), ("sheafworks/word.laws", laid_sheafworks_word_laws), ("sheafworks/word.neutrals", laid_sheafworks_word_neutrals)], narrowed := true }
def FuseNamesUptoSaid : Prop := fuseNamesUptoRow.holds Tryz.pinned (OpenSpec.upto fuseNamesSpec)

/-- 'sheafworkslaw22.ChunkKnown', WHERE WHAT IT READS IS OF BULK AT MOST 1048576: true; the input reads as it did. -/
def chunkKnownUptoRow : OpenClaim := { program := "ythoenpmifmomaaagreatdoor", sum := "8b9246495e3102e235d6356c74a30ea0de7f72aa2c5b8b8a594048a6593beac4", func := "sheafworks/sheafworkslaw22.ChunkKnown", spec := "chunkKnown", unfollowed := true, recurses := true, named := ["sheafworks/word.deeds", "sheafworks/word.neutrals", "sheafworks/word.laws"], plainKeys := false, apart := false, laid := [("sheafworks/word.deeds", laid_sheafworks_word_deeds), ("sheafworks/word.laws", laid_sheafworks_word_laws), ("sheafworks/word.neutrals", laid_sheafworks_word_neutrals)], narrowed := true }
def ChunkKnownUptoSaid : Prop := chunkKnownUptoRow.holds Tryz.pinned (OpenSpec.upto chunkKnownSpec)

/-- 'sheafworkslaw20.SameNames', WHERE WHAT IT READS IS OF BULK AT MOST 1048576: true; the input reads as it did. -/
def sameNamesUptoRow : OpenClaim := { program := "ythoenpmifmomaaagreatdoor", sum := "8b9246495e3102e235d6356c74a30ea0de7f72aa2c5b8b8a594048a6593beac4", func := "sheafworks/sheafworkslaw20.SameNames", spec := "sameNames", inPlace := ["internal/abi.NoEscape", "internal/bytealg.MakeNoZero"], unfollowed := true, recurses := true, named := ["sheafworks/word.deeds", "sheafworks/word.neutrals", "sheafworks/word.laws", "internal/strconv.uint64pow10", "math/bits.deBruijn32tab", "math/bits.deBruijn64tab"], plainKeys := false, apart := false, laid := [("math/bits.deBruijn32tab", laid_math_bits_deBruijn32tab), ("math/bits.deBruijn64tab", laid_math_bits_deBruijn64tab), ("internal/strconv.uint64pow10", laid_internal_strconv_uint64pow10), ("sheafworks/word.deeds", laid_sheafworks_word_deeds), ("sheafworks/word.laws", laid_sheafworks_word_laws), ("sheafworks/word.neutrals", laid_sheafworks_word_neutrals)], narrowed := true }
def SameNamesUptoSaid : Prop := sameNamesUptoRow.holds Tryz.pinned (OpenSpec.upto sameNamesSpec)

/-- 'sheafworkslaw18.ShapeNames', WHERE WHAT IT READS IS OF BULK AT MOST 1048576: true; the input reads as it did. -/
def shapeNamesUptoRow : OpenClaim := { program := "ythoenpmifmomaaagreatdoor", sum := "8b9246495e3102e235d6356c74a30ea0de7f72aa2c5b8b8a594048a6593beac4", func := "sheafworks/sheafworkslaw18.ShapeNames", spec := "shapeNames", unfollowed := true, recurses := true, named := ["sheafworks/word.deeds", "sheafworks/word.neutrals", "sheafworks/word.laws", "sheafworks/shape.words"], plainKeys := false, apart := false, laid := [("sheafworks/word.deeds", laid_sheafworks_word_deeds), ("sheafworks/word.laws", laid_sheafworks_word_laws), ("sheafworks/word.neutrals", laid_sheafworks_word_neutrals), ("sheafworks/shape.words", laid_sheafworks_shape_words)], narrowed := true }
def ShapeNamesUptoSaid : Prop := shapeNamesUptoRow.holds Tryz.pinned (OpenSpec.upto shapeNamesSpec)

end Rows
end Go.Proofs.YthoenpmifmomaaaGreatDoor

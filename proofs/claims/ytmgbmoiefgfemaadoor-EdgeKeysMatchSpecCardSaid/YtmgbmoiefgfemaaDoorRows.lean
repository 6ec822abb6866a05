/-
  NARROWER THAN 'FOR EVERY INPUT', by the rows' own cells (each row's printed sentence says how): EdgeRulesMatchSpec: laid · EdgeChecksMatchSpec: laid · EdgeKeysMatchSpec: laid · EdgeCurvesMatchSpec: laid · EdgeReadsMatchSpec: laid · EdgeTextsMatchSpec: laid · EdgeBestIsBest: laid.
  DERIVED. THE GIVEN ROWS OF THIS SEAT. 7 by the template 'for every input the law returns true; each argument reads behind the call as it read before'; 0 by the template 'total and deterministic' (their statements: YtmgbmoiefgfemaaDoorTotals.lean).
  GIVEN WITH THE SEED: the statements are not yours to turn. If you find one false, say at which input.
  Laid BY PROGRAM, IN A SANDBOX (cutbox-rows.mjs): the forced cells as the released guide's own fill.sh prints them over the translation d18e7d8a0930970c… (all of the seat's roots in one cut). By AI agents, Wed Nov 11 2026. No macro, syntax, notation, axiom, sorry.
-/
import Derived.Test.YtmgbmoiefgfemaaDoorChecked
import GoSem.PinnedTables
import GoSem.Claim
import GoSem.ClaimJoined
import GoSem.ClaimMapViews
import Derived.JoinedTies
import Derived.KernelRfl
namespace Go.Proofs.YtmgbmoiefgfemaaDoor
/- THE CELL 'sum', in the pinned program and in every row, IS THE sha256 OF THE DUMP (.gsa) THAT YtmgbmoiefgfemaaDoorProg.lean LOADS. Nothing in Lean hashes anything: it is a label: what it is worth is what the hold of that sum in a sandbox is worth. -/
noncomputable def Tryd.pinned : Pinned := { name := "ytmgbmoiefgfemaadoor", sum := "d18e7d8a0930970ca5dcaea253a4f148fba844a52dd0a8f7717f315bdc35f0a5", checked := Tryd.checked }
namespace Rows
def none {H : Type} : Left H := { results := [], args := [] }

/- WHAT THE LISTED PACKAGE-LEVEL VARIABLES READ AS WHEN THE CALL BEGINS. Each datum BY PROGRAM (the guide's laid-datum.mjs) off the statement by which the dump's own 'gosem.cut.vars' lays the variable. In a bare row this is a premise. The card (YtmgbmoiefgfemaaDoorCards.lean) ties it to the program's text. -/
def laid_unicode_utf8_acceptRanges {H : Type} : DataW H := .agg [.agg [.lit (.int .u8 128), .lit (.int .u8 191)], .agg [.lit (.int .u8 160), .lit (.int .u8 191)], .agg [.lit (.int .u8 128), .lit (.int .u8 159)], .agg [.lit (.int .u8 144), .lit (.int .u8 191)], .agg [.lit (.int .u8 128), .lit (.int .u8 143)], .agg [.lit (.int .u8 0), .lit (.int .u8 0)], .agg [.lit (.int .u8 0), .lit (.int .u8 0)], .agg [.lit (.int .u8 0), .lit (.int .u8 0)], .agg [.lit (.int .u8 0), .lit (.int .u8 0)], .agg [.lit (.int .u8 0), .lit (.int .u8 0)], .agg [.lit (.int .u8 0), .lit (.int .u8 0)], .agg [.lit (.int .u8 0), .lit (.int .u8 0)], .agg [.lit (.int .u8 0), .lit (.int .u8 0)], .agg [.lit (.int .u8 0), .lit (.int .u8 0)], .agg [.lit (.int .u8 0), .lit (.int .u8 0)], .agg [.lit (.int .u8 0), .lit (.int .u8 0)]]
/-- One of Go's own tables, pinned by name: the form's constant. -/
def laid_unicode_utf8_first : DataW Unit := Go.Pinned.utf8First
def laid_math_bits_deBruijn32tab {H : Type} : DataW H := .agg [.lit (.int .u8 0), .lit (.int .u8 1), .lit (.int .u8 28), .lit (.int .u8 2), .lit (.int .u8 29), .lit (.int .u8 14), .lit (.int .u8 24), .lit (.int .u8 3), .lit (.int .u8 30), .lit (.int .u8 22), .lit (.int .u8 20), .lit (.int .u8 15), .lit (.int .u8 25), .lit (.int .u8 17), .lit (.int .u8 4), .lit (.int .u8 8), .lit (.int .u8 31), .lit (.int .u8 27), .lit (.int .u8 13), .lit (.int .u8 23), .lit (.int .u8 21), .lit (.int .u8 19), .lit (.int .u8 16), .lit (.int .u8 7), .lit (.int .u8 26), .lit (.int .u8 12), .lit (.int .u8 18), .lit (.int .u8 6), .lit (.int .u8 11), .lit (.int .u8 5), .lit (.int .u8 10), .lit (.int .u8 9)]
def laid_math_bits_deBruijn64tab {H : Type} : DataW H := .agg [.lit (.int .u8 0), .lit (.int .u8 1), .lit (.int .u8 56), .lit (.int .u8 2), .lit (.int .u8 57), .lit (.int .u8 49), .lit (.int .u8 28), .lit (.int .u8 3), .lit (.int .u8 61), .lit (.int .u8 58), .lit (.int .u8 42), .lit (.int .u8 50), .lit (.int .u8 38), .lit (.int .u8 29), .lit (.int .u8 17), .lit (.int .u8 4), .lit (.int .u8 62), .lit (.int .u8 47), .lit (.int .u8 59), .lit (.int .u8 36), .lit (.int .u8 45), .lit (.int .u8 43), .lit (.int .u8 51), .lit (.int .u8 22), .lit (.int .u8 53), .lit (.int .u8 39), .lit (.int .u8 33), .lit (.int .u8 30), .lit (.int .u8 24), .lit (.int .u8 18), .lit (.int .u8 12), .lit (.int .u8 5), .lit (.int .u8 63), .lit (.int .u8 55), .lit (.int .u8 48), .lit (.int .u8 27), .lit (.int .u8 60), .lit (.int .u8 41), .lit (.int .u8 37), .lit (.int .u8 16), .lit (.int .u8 46), .lit (.int .u8 35), .lit (.int .u8 44), .lit (.int .u8 21), .lit (.int .u8 52), .lit (.int .u8 32), .lit (.int .u8 23), .lit (.int .u8 11), .lit (.int .u8 54), .lit (.int .u8 26), .lit (.int .u8 40), .lit (.int .u8 15), .lit (.int .u8 34), .lit (.int .u8 20), .lit (.int .u8 31), .lit (.int .u8 10), .lit (.int .u8 25), .lit (.int .u8 14), .lit (.int .u8 19), .lit (.int .u8 9), .lit (.int .u8 13), .lit (.int .u8 8), .lit (.int .u8 7), .lit (.int .u8 6)]
def laid_internal_strconv_uint64pow10 {H : Type} : DataW H := .agg [.lit (.int .u64 1), .lit (.int .u64 10), .lit (.int .u64 100), .lit (.int .u64 1000), .lit (.int .u64 10000), .lit (.int .u64 100000), .lit (.int .u64 1000000), .lit (.int .u64 10000000), .lit (.int .u64 100000000), .lit (.int .u64 1000000000), .lit (.int .u64 10000000000), .lit (.int .u64 100000000000), .lit (.int .u64 1000000000000), .lit (.int .u64 10000000000000), .lit (.int .u64 100000000000000), .lit (.int .u64 1000000000000000), .lit (.int .u64 10000000000000000), .lit (.int .u64 100000000000000000), .lit (.int .u64 1000000000000000000), .lit (.int .u64 10000000000000000000)]

/-- 'headendlaw10.EdgeRulesMatchSpec': WHATEVER THE INPUT: true; the input reads as it did. -/
def edgeRulesMatchSpecSpec : ChangeSpec := { name := "edgeRulesMatchSpec", fn := fun _ => fun
  | [d1, d2, d3, d4] => { results := [.lit (.bool true)], args := [d1, d2, d3, d4] }
  | _ => none }
def edgeRulesMatchSpecRow : OpenClaim := { program := "ytmgbmoiefgfemaadoor", sum := "d18e7d8a0930970ca5dcaea253a4f148fba844a52dd0a8f7717f315bdc35f0a5", func := "headend/headendlaw10.EdgeRulesMatchSpec", spec := "edgeRulesMatchSpec", inPlace := ["internal/bytealg.IndexByteString", "internal/bytealg.IndexString", "internal/bytealg.CountString", "internal/bytealg.abigen_runtime_cmpstring", "internal/abi.NoEscape", "internal/bytealg.MakeNoZero"], unfollowed := true, recurses := true, named := ["internal/bytealg.MaxLen", "unicode/utf8.first", "unicode/utf8.acceptRanges"], apart := false, laid := [("unicode/utf8.acceptRanges", laid_unicode_utf8_acceptRanges), ("unicode/utf8.first", laid_unicode_utf8_first)] }
def EdgeRulesMatchSpecSaid : Prop := edgeRulesMatchSpecRow.holds Tryd.pinned (OpenSpec.ofChange edgeRulesMatchSpecSpec)

/-- ITS FALSE NEIGHBOUR: 'it returns false'. Refute it at one input. -/
def edgeRulesMatchSpecWrong : ChangeSpec := { name := "edgeRulesMatchSpec", fn := fun _ => fun
  | [d1, d2, d3, d4] => { results := [.lit (.bool false)], args := [d1, d2, d3, d4] }
  | _ => none }
def EdgeRulesMatchSpecWrongFalsely : Prop := edgeRulesMatchSpecRow.holds Tryd.pinned (OpenSpec.ofChange edgeRulesMatchSpecWrong)

/-- 'headendlaw10.EdgeChecksMatchSpec': WHATEVER THE INPUT: true; the input reads as it did. -/
def edgeChecksMatchSpecSpec : ChangeSpec := { name := "edgeChecksMatchSpec", fn := fun _ => fun
  | [d] => { results := [.lit (.bool true)], args := [d] }
  | _ => none }
def edgeChecksMatchSpecRow : OpenClaim := { program := "ytmgbmoiefgfemaadoor", sum := "d18e7d8a0930970ca5dcaea253a4f148fba844a52dd0a8f7717f315bdc35f0a5", func := "headend/headendlaw10.EdgeChecksMatchSpec", spec := "edgeChecksMatchSpec", inPlace := ["internal/bytealg.IndexByteString", "internal/bytealg.IndexString", "internal/bytealg.CountString", "internal/bytealg.abigen_runtime_cmpstring", "internal/abi.NoEscape", "internal/bytealg.MakeNoZero"], unfollowed := true, recurses := true, named := ["internal/bytealg.MaxLen", "unicode/utf8.first", "unicode/utf8.acceptRanges"], apart := false, laid := [("unicode/utf8.acceptRanges", laid_unicode_utf8_acceptRanges), ("unicode/utf8.first", laid_unicode_utf8_first)] }
def EdgeChecksMatchSpecSaid : Prop := edgeChecksMatchSpecRow.holds Tryd.pinned (OpenSpec.ofChange edgeChecksMatchSpecSpec)

/-- ITS FALSE NEIGHBOUR: 'it returns false'. Refute it at one input. -/
def edgeChecksMatchSpecWrong : ChangeSpec := { name := "edgeChecksMatchSpec", fn := fun _ => fun
  | [d] => { results := [.lit (.bool false)], args := [d] }
  | _ => none }
def EdgeChecksMatchSpecWrongFalsely : Prop := edgeChecksMatchSpecRow.holds Tryd.pinned (OpenSpec.ofChange edgeChecksMatchSpecWrong)

/-- 'headendlaw10.EdgeKeysMatchSpec': WHATEVER THE INPUT: true; the input reads as it did. -/
def edgeKeysMatchSpecSpec : ChangeSpec := { name := "edgeKeysMatchSpec", fn := fun _ => fun
  | [d1, d2] => { results := [.lit (.bool true)], args := [d1, d2] }
  | _ => none }
def edgeKeysMatchSpecRow : OpenClaim := { program := "ytmgbmoiefgfemaadoor", sum := "d18e7d8a0930970ca5dcaea253a4f148fba844a52dd0a8f7717f315bdc35f0a5", func := "headend/headendlaw10.EdgeKeysMatchSpec", spec := "edgeKeysMatchSpec", inPlace := ["internal/bytealg.IndexByteString", "internal/bytealg.IndexString", "internal/bytealg.CountString", "internal/bytealg.abigen_runtime_cmpstring", "internal/abi.NoEscape", "internal/bytealg.MakeNoZero", "slices.overlaps[string]"], unfollowed := true, recurses := true, named := ["internal/bytealg.MaxLen", "unicode/utf8.first", "unicode/utf8.acceptRanges"], apart := false, laid := [("unicode/utf8.acceptRanges", laid_unicode_utf8_acceptRanges), ("unicode/utf8.first", laid_unicode_utf8_first)] }
def EdgeKeysMatchSpecSaid : Prop := edgeKeysMatchSpecRow.holds Tryd.pinned (OpenSpec.ofChange edgeKeysMatchSpecSpec)

/-- ITS FALSE NEIGHBOUR: 'it returns false'. Refute it at one input. -/
def edgeKeysMatchSpecWrong : ChangeSpec := { name := "edgeKeysMatchSpec", fn := fun _ => fun
  | [d1, d2] => { results := [.lit (.bool false)], args := [d1, d2] }
  | _ => none }
def EdgeKeysMatchSpecWrongFalsely : Prop := edgeKeysMatchSpecRow.holds Tryd.pinned (OpenSpec.ofChange edgeKeysMatchSpecWrong)

/-- 'headendlaw10.EdgeCurvesMatchSpec': WHATEVER THE INPUT: true; the input reads as it did. -/
def edgeCurvesMatchSpecSpec : ChangeSpec := { name := "edgeCurvesMatchSpec", fn := fun _ => fun
  | [d1, d2, d3] => { results := [.lit (.bool true)], args := [d1, d2, d3] }
  | _ => none }
def edgeCurvesMatchSpecRow : OpenClaim := { program := "ytmgbmoiefgfemaadoor", sum := "d18e7d8a0930970ca5dcaea253a4f148fba844a52dd0a8f7717f315bdc35f0a5", func := "headend/headendlaw10.EdgeCurvesMatchSpec", spec := "edgeCurvesMatchSpec", inPlace := ["slices.overlaps[string]", "internal/bytealg.IndexByteString", "internal/bytealg.IndexString", "internal/bytealg.CountString", "internal/bytealg.abigen_runtime_cmpstring", "internal/abi.NoEscape", "internal/bytealg.MakeNoZero"], unfollowed := true, recurses := true, named := ["internal/bytealg.MaxLen", "unicode/utf8.first", "unicode/utf8.acceptRanges"], apart := false, laid := [("unicode/utf8.acceptRanges", laid_unicode_utf8_acceptRanges), ("unicode/utf8.first", laid_unicode_utf8_first)] }
def EdgeCurvesMatchSpecSaid : Prop := edgeCurvesMatchSpecRow.holds Tryd.pinned (OpenSpec.ofChange edgeCurvesMatchSpecSpec)

/-- ITS FALSE NEIGHBOUR: 'it returns false'. Refute it at one input. -/
def edgeCurvesMatchSpecWrong : ChangeSpec := { name := "edgeCurvesMatchSpec", fn := fun _ => fun
  | [d1, d2, d3] => { results := [.lit (.bool false)], args := [d1, d2, d3] }
  | _ => none }
def EdgeCurvesMatchSpecWrongFalsely : Prop := edgeCurvesMatchSpecRow.holds Tryd.pinned (OpenSpec.ofChange edgeCurvesMatchSpecWrong)

/-- 'headendlaw10.EdgeReadsMatchSpec': WHATEVER THE INPUT: true; the input reads as it did. -/
def edgeReadsMatchSpecSpec : ChangeSpec := { name := "edgeReadsMatchSpec", fn := fun _ => fun
  | [d] => { results := [.lit (.bool true)], args := [d] }
  | _ => none }
def edgeReadsMatchSpecRow : OpenClaim := { program := "ytmgbmoiefgfemaadoor", sum := "d18e7d8a0930970ca5dcaea253a4f148fba844a52dd0a8f7717f315bdc35f0a5", func := "headend/headendlaw10.EdgeReadsMatchSpec", spec := "edgeReadsMatchSpec", inPlace := ["internal/bytealg.IndexByteString", "internal/bytealg.IndexString", "internal/bytealg.CountString", "internal/bytealg.abigen_runtime_cmpstring", "internal/abi.NoEscape", "internal/bytealg.MakeNoZero"], unfollowed := true, recurses := true, named := ["internal/bytealg.MaxLen", "unicode/utf8.first", "unicode/utf8.acceptRanges", "internal/strconv.uint64pow10", "math/bits.deBruijn32tab", "math/bits.deBruijn64tab"], apart := false, laid := [("math/bits.deBruijn32tab", laid_math_bits_deBruijn32tab), ("math/bits.deBruijn64tab", laid_math_bits_deBruijn64tab), ("internal/strconv.uint64pow10", laid_internal_strconv_uint64pow10), ("unicode/utf8.acceptRanges", laid_unicode_utf8_acceptRanges), ("unicode/utf8.first", laid_unicode_utf8_first)] }
def EdgeReadsMatchSpecSaid : Prop := edgeReadsMatchSpecRow.holds Tryd.pinned (OpenSpec.ofChange edgeReadsMatchSpecSpec)

/-- ITS FALSE NEIGHBOUR: 'it returns false'. Refute it at one input. -/
def edgeReadsMatchSpecWrong : ChangeSpec := { name := "edgeReadsMatchSpec", fn := fun _ => fun
  | [d] => { results := [.lit (.bool false)], args := [d] }
  | _ => none }
def EdgeReadsMatchSpecWrongFalsely : Prop := edgeReadsMatchSpecRow.holds Tryd.pinned (OpenSpec.ofChange edgeReadsMatchSpecWrong)

/-- 'headendlaw10.EdgeTextsMatchSpec': WHATEVER THE INPUT: true; the input reads as it did. -/
def edgeTextsMatchSpecSpec : ChangeSpec := { name := "edgeTextsMatchSpec", fn := fun _ => fun
  | [d] => { results := [.lit (.bool true)], args := [d] }
  | _ => none }
def edgeTextsMatchSpecRow : OpenClaim := { program := "ytmgbmoiefgfemaadoor", sum := "d18e7d8a0930970ca5dcaea253a4f148fba844a52dd0a8f7717f315bdc35f0a5", func := "headend/headendlaw10.EdgeTextsMatchSpec", spec := "edgeTextsMatchSpec", inPlace := ["internal/abi.NoEscape", "internal/bytealg.IndexByteString", "internal/bytealg.IndexString", "internal/bytealg.CountString", "internal/bytealg.abigen_runtime_cmpstring", "internal/bytealg.MakeNoZero"], unfollowed := true, recurses := true, named := ["internal/strconv.uint64pow10", "math/bits.deBruijn32tab", "math/bits.deBruijn64tab", "internal/bytealg.MaxLen", "unicode/utf8.first", "unicode/utf8.acceptRanges"], apart := false, laid := [("math/bits.deBruijn32tab", laid_math_bits_deBruijn32tab), ("math/bits.deBruijn64tab", laid_math_bits_deBruijn64tab), ("internal/strconv.uint64pow10", laid_internal_strconv_uint64pow10), ("unicode/utf8.acceptRanges", laid_unicode_utf8_acceptRanges), ("unicode/utf8.first", laid_unicode_utf8_first)] }
def EdgeTextsMatchSpecSaid : Prop := edgeTextsMatchSpecRow.holds Tryd.pinned (OpenSpec.ofChange edgeTextsMatchSpecSpec)

/-- ITS FALSE NEIGHBOUR: 'it returns false'. Refute it at one input. -/
def edgeTextsMatchSpecWrong : ChangeSpec := { name := "edgeTextsMatchSpec", fn := fun _ => fun
  | [d] => { results := [.lit (.bool false)], args := [d] }
  | _ => none }
def EdgeTextsMatchSpecWrongFalsely : Prop := edgeTextsMatchSpecRow.holds Tryd.pinned (OpenSpec.ofChange edgeTextsMatchSpecWrong)

/-- 'headendlaw10.EdgeBestIsBest': WHATEVER THE INPUT: true; the input reads as it did. -/
def edgeBestIsBestSpec : ChangeSpec := { name := "edgeBestIsBest", fn := fun _ => fun
  | [d1, d2] => { results := [.lit (.bool true)], args := [d1, d2] }
  | _ => none }
def edgeBestIsBestRow : OpenClaim := { program := "ytmgbmoiefgfemaadoor", sum := "d18e7d8a0930970ca5dcaea253a4f148fba844a52dd0a8f7717f315bdc35f0a5", func := "headend/headendlaw10.EdgeBestIsBest", spec := "edgeBestIsBest", inPlace := ["slices.overlaps[string]", "internal/bytealg.IndexByteString", "internal/bytealg.IndexString", "internal/bytealg.CountString", "internal/bytealg.abigen_runtime_cmpstring", "internal/abi.NoEscape", "internal/bytealg.MakeNoZero"], unfollowed := true, recurses := true, named := ["internal/bytealg.MaxLen", "unicode/utf8.first", "unicode/utf8.acceptRanges"], apart := false, laid := [("unicode/utf8.acceptRanges", laid_unicode_utf8_acceptRanges), ("unicode/utf8.first", laid_unicode_utf8_first)] }
def EdgeBestIsBestSaid : Prop := edgeBestIsBestRow.holds Tryd.pinned (OpenSpec.ofChange edgeBestIsBestSpec)

/-- ITS FALSE NEIGHBOUR: 'it returns false'. Refute it at one input. -/
def edgeBestIsBestWrong : ChangeSpec := { name := "edgeBestIsBest", fn := fun _ => fun
  | [d1, d2] => { results := [.lit (.bool false)], args := [d1, d2] }
  | _ => none }
def EdgeBestIsBestWrongFalsely : Prop := edgeBestIsBestRow.holds Tryd.pinned (OpenSpec.ofChange edgeBestIsBestWrong)

/- THE SECOND FORM. 'bulk': how many values and letters a reading holds, each counted each time it is reached (what is shared counts as often as it is met; a slice's spare places count too). A statement '..UptoSaid' is the law's where the arguments, and the package variables that the reading takes, are together of bulk at most 1048576: NARROWER than '..Said'. Prove '..Said' where nothing that the law and all that it calls make is longer than what came in: it says more and counts as full. Else prove '..UptoSaid'. A law counts once. -/
mutual
def uptoBulk {H : Type} : DataW H → Nat
  | .lit (.string bytes) => bytes.length + 1
  | .lit _ => 1
  | .nil => 1
  | .ptr d => uptoBulk d + 1
  | .slice elems spare => uptoBulkAll elems + uptoBulkAll spare + 1
  | .agg parts => uptoBulkAll parts + 1
  | .iface _ d => uptoBulk d + 1
  | .map entries => uptoBulkEntries entries + 1
  | .held _ => 1
def uptoBulkAll {H : Type} : List (DataW H) → Nat
  | [] => 0
  | d :: r => uptoBulk d + uptoBulkAll r
def uptoBulkEntries {H : Type} : List (Lit × DataW H) → Nat
  | [] => 0
  | x :: r => uptoBulkEntry x + uptoBulkEntries r
def uptoBulkEntry {H : Type} : Lit × DataW H → Nat
  | (.string bytes, d) => bytes.length + uptoBulk d + 1
  | (_, d) => uptoBulk d + 1
 end
def uptoSmall : (H : Type) → List (DataW H) → Bool := fun _ ds => decide (uptoBulkAll ds ≤ 1048576)
def OpenSpec.upto (s : _root_.Go.ChangeSpec) : _root_.Go.OpenSpec := { _root_.Go.OpenSpec.ofChange s with cond := some uptoSmall }

/-- 'headendlaw10.EdgeRulesMatchSpec', WHERE WHAT IT READS IS OF BULK AT MOST 1048576: true; the input reads as it did. -/
def edgeRulesMatchSpecUptoRow : OpenClaim := { program := "ytmgbmoiefgfemaadoor", sum := "d18e7d8a0930970ca5dcaea253a4f148fba844a52dd0a8f7717f315bdc35f0a5", func := "headend/headendlaw10.EdgeRulesMatchSpec", spec := "edgeRulesMatchSpec", inPlace := ["internal/bytealg.IndexByteString", "internal/bytealg.IndexString", "internal/bytealg.CountString", "internal/bytealg.abigen_runtime_cmpstring", "internal/abi.NoEscape", "internal/bytealg.MakeNoZero"], unfollowed := true, recurses := true, named := ["internal/bytealg.MaxLen", "unicode/utf8.first", "unicode/utf8.acceptRanges"], apart := false, laid := [("unicode/utf8.acceptRanges", laid_unicode_utf8_acceptRanges), ("unicode/utf8.first", laid_unicode_utf8_first)], narrowed := true }
def EdgeRulesMatchSpecUptoSaid : Prop := edgeRulesMatchSpecUptoRow.holds Tryd.pinned (OpenSpec.upto edgeRulesMatchSpecSpec)

/-- 'headendlaw10.EdgeChecksMatchSpec', WHERE WHAT IT READS IS OF BULK AT MOST 1048576: true; the input reads as it did. -/
def edgeChecksMatchSpecUptoRow : OpenClaim := { program := "ytmgbmoiefgfemaadoor", sum := "d18e7d8a0930970ca5dcaea253a4f148fba844a52dd0a8f7717f315bdc35f0a5", func := "headend/headendlaw10.EdgeChecksMatchSpec", spec := "edgeChecksMatchSpec", inPlace := ["internal/bytealg.IndexByteString", "internal/bytealg.IndexString", "internal/bytealg.CountString", "internal/bytealg.abigen_runtime_cmpstring", "internal/abi.NoEscape", "internal/bytealg.MakeNoZero"], unfollowed := true, recurses := true, named := ["internal/bytealg.MaxLen", "unicode/utf8.first", "unicode/utf8.acceptRanges"], apart := false, laid := [("unicode/utf8.acceptRanges", laid_unicode_utf8_acceptRanges), ("unicode/utf8.first", laid_unicode_utf8_first)], narrowed := true }
def EdgeChecksMatchSpecUptoSaid : Prop := edgeChecksMatchSpecUptoRow.holds Tryd.pinned (OpenSpec.upto edgeChecksMatchSpecSpec)

/-- 'headendlaw10.EdgeKeysMatchSpec', WHERE WHAT IT READS IS OF BULK AT MOST 1048576: true; the input reads as it did. -/
def edgeKeysMatchSpecUptoRow : OpenClaim := { program := "ytmgbmoiefgfemaadoor", sum := "d18e7d8a0930970ca5dcaea253a4f148fba844a52dd0a8f7717f315bdc35f0a5", func := "headend/headendlaw10.EdgeKeysMatchSpec", spec := "edgeKeysMatchSpec", inPlace := ["internal/bytealg.IndexByteString", "internal/bytealg.IndexString", "internal/bytealg.CountString", "internal/bytealg.abigen_runtime_cmpstring", "internal/abi.NoEscape", "internal/bytealg.MakeNoZero", "slices.overlaps[string]"], unfollowed := true, recurses := true, named := ["internal/bytealg.MaxLen", "unicode/utf8.first", "unicode/utf8.acceptRanges"], apart := false, laid := [("unicode/utf8.acceptRanges", laid_unicode_utf8_acceptRanges), ("unicode/utf8.first", laid_unicode_utf8_first)], narrowed := true }
def EdgeKeysMatchSpecUptoSaid : Prop := edgeKeysMatchSpecUptoRow.holds Tryd.pinned (OpenSpec.upto edgeKeysMatchSpecSpec)

/-- 'headendlaw10.EdgeCurvesMatchSpec', WHERE WHAT IT READS IS OF BULK AT MOST 1048576: true; the input reads as it did. -/
def edgeCurvesMatchSpecUptoRow : OpenClaim := { program := "ytmgbmoiefgfemaadoor", sum := "d18e7d8a0930970ca5dcaea253a4f148fba844a52dd0a8f7717f315bdc35f0a5", func := "headend/headendlaw10.EdgeCurvesMatchSpec", spec := "edgeCurvesMatchSpec", inPlace := ["slices.overlaps[string]", "internal/bytealg.IndexByteString", "internal/bytealg.IndexString", "internal/bytealg.CountString", "internal/bytealg.abigen_runtime_cmpstring", "internal/abi.NoEscape", "internal/bytealg.MakeNoZero"], unfollowed := true, recurses := true, named := ["internal/bytealg.MaxLen", "unicode/utf8.first", "unicode/utf8.acceptRanges"], apart := false, laid := [("unicode/utf8.acceptRanges", laid_unicode_utf8_acceptRanges), ("unicode/utf8.first", laid_unicode_utf8_first)], narrowed := true }
def EdgeCurvesMatchSpecUptoSaid : Prop := edgeCurvesMatchSpecUptoRow.holds Tryd.pinned (OpenSpec.upto edgeCurvesMatchSpecSpec)

/-- 'headendlaw10.EdgeReadsMatchSpec', WHERE WHAT IT READS IS OF BULK AT MOST 1048576: true; the input reads as it did. -/
def edgeReadsMatchSpecUptoRow : OpenClaim := { program := "ytmgbmoiefgfemaadoor", sum := "d18e7d8a0930970ca5dcaea253a4f148fba844a52dd0a8f7717f315bdc35f0a5", func := "headend/headendlaw10.EdgeReadsMatchSpec", spec := "edgeReadsMatchSpec", inPlace := ["internal/bytealg.IndexByteString", "internal/bytealg.IndexString", "internal/bytealg.CountString", "internal/bytealg.abigen_runtime_cmpstring", "internal/abi.NoEscape", "internal/bytealg.MakeNoZero"], unfollowed := true, recurses := true, named := ["internal/bytealg.MaxLen", "unicode/utf8.first", "unicode/utf8.acceptRanges", "internal/strconv.uint64pow10", "math/bits.deBruijn32tab", "math/bits.deBruijn64tab"], apart := false, laid := [("math/bits.deBruijn32tab", laid_math_bits_deBruijn32tab), ("math/bits.deBruijn64tab", laid_math_bits_deBruijn64tab), ("internal/strconv.uint64pow10", laid_internal_strconv_uint64pow10), ("unicode/utf8.acceptRanges", laid_unicode_utf8_acceptRanges), ("unicode/utf8.first", laid_unicode_utf8_first)], narrowed := true }
def EdgeReadsMatchSpecUptoSaid : Prop := edgeReadsMatchSpecUptoRow.holds Tryd.pinned (OpenSpec.upto edgeReadsMatchSpecSpec)

/-- 'headendlaw10.EdgeTextsMatchSpec', WHERE WHAT IT READS IS OF BULK AT MOST 1048576: true; the input reads as it did. -/
def edgeTextsMatchSpecUptoRow : OpenClaim := { program := "ytmgbmoiefgfemaadoor", sum := "d18e7d8a0930970ca5dcaea253a4f148fba844a52dd0a8f7717f315bdc35f0a5", func := "headend/headendlaw10.EdgeTextsMatchSpec", spec := "edgeTextsMatchSpec", inPlace := ["internal/abi.NoEscape", "internal/bytealg.IndexByteString", "internal/bytealg.IndexString", "internal/bytealg.CountString", "internal/bytealg.abigen_runtime_cmpstring", "internal/bytealg.MakeNoZero"], unfollowed := true, recurses := true, named := ["internal/strconv.uint64pow10", "math/bits.deBruijn32tab", "math/bits.deBruijn64tab", "internal/bytealg.MaxLen", "unicode/utf8.first", "unicode/utf8.acceptRanges"], apart := false, laid := [("math/bits.deBruijn32tab", laid_math_bits_deBruijn32tab), ("math/bits.deBruijn64tab", laid_math_bits_deBruijn64tab), ("internal/strconv.uint64pow10", laid_internal_strconv_uint64pow10), ("unicode/utf8.acceptRanges", laid_unicode_utf8_acceptRanges), ("unicode/utf8.first", laid_unicode_utf8_first)], narrowed := true }
def EdgeTextsMatchSpecUptoSaid : Prop := edgeTextsMatchSpecUptoRow.holds Tryd.pinned (OpenSpec.upto edgeTextsMatchSpecSpec)

/-- 'headendlaw10.EdgeBestIsBest', WHERE WHAT IT READS IS OF BULK AT MOST 1048576: true; the input reads as it did. -/
def edgeBestIsBestUptoRow : OpenClaim := { program := "ytmgbmoiefgfemaadoor", sum := "d18e7d8a0930970ca5dcaea253a4f148fba844a52dd0a8f7717f315bdc35f0a5", func := "headend/headendlaw10.EdgeBestIsBest", spec := "edgeBestIsBest", inPlace := ["slices.overlaps[string]", "internal/bytealg.IndexByteString", "internal/bytealg.IndexString", "internal/bytealg.CountString", "internal/bytealg.abigen_runtime_cmpstring", "internal/abi.NoEscape", "internal/bytealg.MakeNoZero"], unfollowed := true, recurses := true, named := ["internal/bytealg.MaxLen", "unicode/utf8.first", "unicode/utf8.acceptRanges"], apart := false, laid := [("unicode/utf8.acceptRanges", laid_unicode_utf8_acceptRanges), ("unicode/utf8.first", laid_unicode_utf8_first)], narrowed := true }
def EdgeBestIsBestUptoSaid : Prop := edgeBestIsBestUptoRow.holds Tryd.pinned (OpenSpec.upto edgeBestIsBestSpec)

end Rows
end Go.Proofs.YtmgbmoiefgfemaaDoor

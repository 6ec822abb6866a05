/-
  NARROWER THAN 'FOR EVERY INPUT', by the rows' own cells (each row's printed sentence says how): EdgeServesNothingOld: laid · EdgeLaterGetsChangeNothing: laid · EdgeLoadsAddUp: laid · EdgeServesMatchSpec: laid · EdgeLoadsMatchSpec: laid · EdgeHoldsFit: laid · EdgeHoldsMatchSpec: laid.
  DERIVED. THE GIVEN ROWS OF THIS SEAT. 7 by the template 'for every input the law returns true; each argument reads behind the call as it read before'; 0 by the template 'total and deterministic' (their statements: YtgohddfnhofjhaaGreatDoorTotals.lean).
  GIVEN WITH THE SEED: the statements are not yours to turn. If you find one false, say at which input.
  Laid BY PROGRAM, IN A SANDBOX (cutbox-rows.mjs): the forced cells as the released guide's own fill.sh prints them over the translation 091ee41f63d1d0a1… (all of the seat's roots in one cut). By AI agents, Wed Nov 11 2026. No macro, syntax, notation, axiom, sorry.
-/
import Derived.Test.YtgohddfnhofjhaaGreatDoorChecked
import GoSem.PinnedTables
import GoSem.Claim
import GoSem.ClaimJoined
import GoSem.ClaimMapViews
import Derived.JoinedTies
import Derived.KernelRfl
namespace Go.Proofs.YtgohddfnhofjhaaGreatDoor
/- THE CELL 'sum', in the pinned program and in every row, IS THE sha256 OF THE DUMP (.gsa) THAT YtgohddfnhofjhaaGreatDoorProg.lean LOADS. Nothing in Lean hashes anything: it is a label: what it is worth is what the hold of that sum in a sandbox is worth. -/
noncomputable def Tryz.pinned : Pinned := { name := "ytgohddfnhofjhaagreatdoor", sum := "091ee41f63d1d0a10d8637c830467d5795c222c40ada0fbc126313484ef17d9a", checked := Tryz.checked }
namespace Rows
def none {H : Type} : Left H := { results := [], args := [] }

/- WHAT THE LISTED PACKAGE-LEVEL VARIABLES READ AS WHEN THE CALL BEGINS. Each datum BY PROGRAM (the guide's laid-datum.mjs) off the statement by which the dump's own 'gosem.cut.vars' lays the variable. In a bare row this is a premise. The card (YtgohddfnhofjhaaGreatDoorCards.lean) ties it to the program's text. -/
def laid_unicode_utf8_acceptRanges {H : Type} : DataW H := .agg [.agg [.lit (.int .u8 128), .lit (.int .u8 191)], .agg [.lit (.int .u8 160), .lit (.int .u8 191)], .agg [.lit (.int .u8 128), .lit (.int .u8 159)], .agg [.lit (.int .u8 144), .lit (.int .u8 191)], .agg [.lit (.int .u8 128), .lit (.int .u8 143)], .agg [.lit (.int .u8 0), .lit (.int .u8 0)], .agg [.lit (.int .u8 0), .lit (.int .u8 0)], .agg [.lit (.int .u8 0), .lit (.int .u8 0)], .agg [.lit (.int .u8 0), .lit (.int .u8 0)], .agg [.lit (.int .u8 0), .lit (.int .u8 0)], .agg [.lit (.int .u8 0), .lit (.int .u8 0)], .agg [.lit (.int .u8 0), .lit (.int .u8 0)], .agg [.lit (.int .u8 0), .lit (.int .u8 0)], .agg [.lit (.int .u8 0), .lit (.int .u8 0)], .agg [.lit (.int .u8 0), .lit (.int .u8 0)], .agg [.lit (.int .u8 0), .lit (.int .u8 0)]]
/-- One of Go's own tables, pinned by name: the form's constant. -/
def laid_unicode_utf8_first : DataW Unit := Go.Pinned.utf8First

/-- 'headendlaw10.EdgeServesNothingOld': WHATEVER THE INPUT: true; the input reads as it did. -/
def edgeServesNothingOldSpec : ChangeSpec := { name := "edgeServesNothingOld", fn := fun _ => fun
  | [d1, d2] => { results := [.lit (.bool true)], args := [d1, d2] }
  | _ => none }
def edgeServesNothingOldRow : OpenClaim := { program := "ytgohddfnhofjhaagreatdoor", sum := "091ee41f63d1d0a10d8637c830467d5795c222c40ada0fbc126313484ef17d9a", func := "headend/headendlaw10.EdgeServesNothingOld", spec := "edgeServesNothingOld", inPlace := ["internal/bytealg.IndexByteString", "internal/bytealg.IndexString", "internal/bytealg.CountString", "internal/bytealg.abigen_runtime_cmpstring", "internal/abi.NoEscape", "internal/bytealg.MakeNoZero"], unfollowed := true, recurses := true, named := ["internal/bytealg.MaxLen", "unicode/utf8.first", "unicode/utf8.acceptRanges"], apart := false, laid := [("unicode/utf8.acceptRanges", laid_unicode_utf8_acceptRanges), ("unicode/utf8.first", laid_unicode_utf8_first)] }
def EdgeServesNothingOldSaid : Prop := edgeServesNothingOldRow.holds Tryz.pinned (OpenSpec.ofChange edgeServesNothingOldSpec)

/-- ITS FALSE NEIGHBOUR: 'it returns false'. Refute it at one input. -/
def edgeServesNothingOldWrong : ChangeSpec := { name := "edgeServesNothingOld", fn := fun _ => fun
  | [d1, d2] => { results := [.lit (.bool false)], args := [d1, d2] }
  | _ => none }
def EdgeServesNothingOldWrongFalsely : Prop := edgeServesNothingOldRow.holds Tryz.pinned (OpenSpec.ofChange edgeServesNothingOldWrong)

/-- 'headendlaw10.EdgeLaterGetsChangeNothing': WHATEVER THE INPUT: true; the input reads as it did. -/
def edgeLaterGetsChangeNothingSpec : ChangeSpec := { name := "edgeLaterGetsChangeNothing", fn := fun _ => fun
  | [d1, d2, d3] => { results := [.lit (.bool true)], args := [d1, d2, d3] }
  | _ => none }
def edgeLaterGetsChangeNothingRow : OpenClaim := { program := "ytgohddfnhofjhaagreatdoor", sum := "091ee41f63d1d0a10d8637c830467d5795c222c40ada0fbc126313484ef17d9a", func := "headend/headendlaw10.EdgeLaterGetsChangeNothing", spec := "edgeLaterGetsChangeNothing", inPlace := ["internal/bytealg.IndexByteString", "internal/bytealg.IndexString", "internal/bytealg.CountString", "internal/bytealg.abigen_runtime_cmpstring", "internal/abi.NoEscape", "internal/bytealg.MakeNoZero"], unfollowed := true, recurses := true, named := ["internal/bytealg.MaxLen", "unicode/utf8.first", "unicode/utf8.acceptRanges"], apart := false, laid := [("unicode/utf8.acceptRanges", laid_unicode_utf8_acceptRanges), ("unicode/utf8.first", laid_unicode_utf8_first)] }
def EdgeLaterGetsChangeNothingSaid : Prop := edgeLaterGetsChangeNothingRow.holds Tryz.pinned (OpenSpec.ofChange edgeLaterGetsChangeNothingSpec)

/-- ITS FALSE NEIGHBOUR: 'it returns false'. Refute it at one input. -/
def edgeLaterGetsChangeNothingWrong : ChangeSpec := { name := "edgeLaterGetsChangeNothing", fn := fun _ => fun
  | [d1, d2, d3] => { results := [.lit (.bool false)], args := [d1, d2, d3] }
  | _ => none }
def EdgeLaterGetsChangeNothingWrongFalsely : Prop := edgeLaterGetsChangeNothingRow.holds Tryz.pinned (OpenSpec.ofChange edgeLaterGetsChangeNothingWrong)

/-- 'headendlaw10.EdgeLoadsAddUp': WHATEVER THE INPUT: true; the input reads as it did. -/
def edgeLoadsAddUpSpec : ChangeSpec := { name := "edgeLoadsAddUp", fn := fun _ => fun
  | [d1, d2] => { results := [.lit (.bool true)], args := [d1, d2] }
  | _ => none }
def edgeLoadsAddUpRow : OpenClaim := { program := "ytgohddfnhofjhaagreatdoor", sum := "091ee41f63d1d0a10d8637c830467d5795c222c40ada0fbc126313484ef17d9a", func := "headend/headendlaw10.EdgeLoadsAddUp", spec := "edgeLoadsAddUp", inPlace := ["internal/bytealg.IndexByteString", "internal/bytealg.IndexString", "internal/bytealg.CountString", "internal/bytealg.abigen_runtime_cmpstring", "internal/abi.NoEscape", "internal/bytealg.MakeNoZero"], unfollowed := true, recurses := true, named := ["internal/bytealg.MaxLen", "unicode/utf8.first", "unicode/utf8.acceptRanges"], apart := false, laid := [("unicode/utf8.acceptRanges", laid_unicode_utf8_acceptRanges), ("unicode/utf8.first", laid_unicode_utf8_first)] }
def EdgeLoadsAddUpSaid : Prop := edgeLoadsAddUpRow.holds Tryz.pinned (OpenSpec.ofChange edgeLoadsAddUpSpec)

/-- ITS FALSE NEIGHBOUR: 'it returns false'. Refute it at one input. -/
def edgeLoadsAddUpWrong : ChangeSpec := { name := "edgeLoadsAddUp", fn := fun _ => fun
  | [d1, d2] => { results := [.lit (.bool false)], args := [d1, d2] }
  | _ => none }
def EdgeLoadsAddUpWrongFalsely : Prop := edgeLoadsAddUpRow.holds Tryz.pinned (OpenSpec.ofChange edgeLoadsAddUpWrong)

/-- 'headendlaw10.EdgeServesMatchSpec': WHATEVER THE INPUT: true; the input reads as it did. -/
def edgeServesMatchSpecSpec : ChangeSpec := { name := "edgeServesMatchSpec", fn := fun _ => fun
  | [d1, d2] => { results := [.lit (.bool true)], args := [d1, d2] }
  | _ => none }
def edgeServesMatchSpecRow : OpenClaim := { program := "ytgohddfnhofjhaagreatdoor", sum := "091ee41f63d1d0a10d8637c830467d5795c222c40ada0fbc126313484ef17d9a", func := "headend/headendlaw10.EdgeServesMatchSpec", spec := "edgeServesMatchSpec", inPlace := ["internal/bytealg.abigen_runtime_cmpstring", "slices.overlaps[int]", "internal/bytealg.IndexByteString", "internal/bytealg.IndexString", "internal/bytealg.CountString", "internal/abi.NoEscape", "internal/bytealg.MakeNoZero"], unfollowed := true, recurses := true, named := ["internal/bytealg.MaxLen", "unicode/utf8.first", "unicode/utf8.acceptRanges"], apart := false, laid := [("unicode/utf8.acceptRanges", laid_unicode_utf8_acceptRanges), ("unicode/utf8.first", laid_unicode_utf8_first)] }
def EdgeServesMatchSpecSaid : Prop := edgeServesMatchSpecRow.holds Tryz.pinned (OpenSpec.ofChange edgeServesMatchSpecSpec)

/-- ITS FALSE NEIGHBOUR: 'it returns false'. Refute it at one input. -/
def edgeServesMatchSpecWrong : ChangeSpec := { name := "edgeServesMatchSpec", fn := fun _ => fun
  | [d1, d2] => { results := [.lit (.bool false)], args := [d1, d2] }
  | _ => none }
def EdgeServesMatchSpecWrongFalsely : Prop := edgeServesMatchSpecRow.holds Tryz.pinned (OpenSpec.ofChange edgeServesMatchSpecWrong)

/-- 'headendlaw10.EdgeLoadsMatchSpec': WHATEVER THE INPUT: true; the input reads as it did. -/
def edgeLoadsMatchSpecSpec : ChangeSpec := { name := "edgeLoadsMatchSpec", fn := fun _ => fun
  | [d1, d2] => { results := [.lit (.bool true)], args := [d1, d2] }
  | _ => none }
def edgeLoadsMatchSpecRow : OpenClaim := { program := "ytgohddfnhofjhaagreatdoor", sum := "091ee41f63d1d0a10d8637c830467d5795c222c40ada0fbc126313484ef17d9a", func := "headend/headendlaw10.EdgeLoadsMatchSpec", spec := "edgeLoadsMatchSpec", inPlace := ["internal/bytealg.abigen_runtime_cmpstring", "slices.overlaps[int]", "internal/bytealg.IndexByteString", "internal/bytealg.IndexString", "internal/bytealg.CountString", "internal/abi.NoEscape", "internal/bytealg.MakeNoZero"], unfollowed := true, recurses := true, named := ["internal/bytealg.MaxLen", "unicode/utf8.first", "unicode/utf8.acceptRanges"], apart := false, laid := [("unicode/utf8.acceptRanges", laid_unicode_utf8_acceptRanges), ("unicode/utf8.first", laid_unicode_utf8_first)] }
def EdgeLoadsMatchSpecSaid : Prop := edgeLoadsMatchSpecRow.holds Tryz.pinned (OpenSpec.ofChange edgeLoadsMatchSpecSpec)

/-- ITS FALSE NEIGHBOUR: 'it returns false'. Refute it at one input. -/
def edgeLoadsMatchSpecWrong : ChangeSpec := { name := "edgeLoadsMatchSpec", fn := fun _ => fun
  | [d1, d2] => { results := [.lit (.bool false)], args := [d1, d2] }
  | _ => none }
def EdgeLoadsMatchSpecWrongFalsely : Prop := edgeLoadsMatchSpecRow.holds Tryz.pinned (OpenSpec.ofChange edgeLoadsMatchSpecWrong)

/-- 'headendlaw10.EdgeHoldsFit': WHATEVER THE INPUT: true; the input reads as it did. -/
def edgeHoldsFitSpec : ChangeSpec := { name := "edgeHoldsFit", fn := fun _ => fun
  | [d1, d2, d3, d4] => { results := [.lit (.bool true)], args := [d1, d2, d3, d4] }
  | _ => none }
def edgeHoldsFitRow : OpenClaim := { program := "ytgohddfnhofjhaagreatdoor", sum := "091ee41f63d1d0a10d8637c830467d5795c222c40ada0fbc126313484ef17d9a", func := "headend/headendlaw10.EdgeHoldsFit", spec := "edgeHoldsFit", inPlace := ["internal/bytealg.abigen_runtime_cmpstring", "internal/bytealg.IndexByteString", "internal/bytealg.IndexString", "internal/bytealg.CountString", "internal/abi.NoEscape", "internal/bytealg.MakeNoZero"], unfollowed := true, recurses := true, named := ["internal/bytealg.MaxLen", "unicode/utf8.first", "unicode/utf8.acceptRanges"], apart := false, laid := [("unicode/utf8.acceptRanges", laid_unicode_utf8_acceptRanges), ("unicode/utf8.first", laid_unicode_utf8_first)] }
def EdgeHoldsFitSaid : Prop := edgeHoldsFitRow.holds Tryz.pinned (OpenSpec.ofChange edgeHoldsFitSpec)

/-- ITS FALSE NEIGHBOUR: 'it returns false'. Refute it at one input. -/
def edgeHoldsFitWrong : ChangeSpec := { name := "edgeHoldsFit", fn := fun _ => fun
  | [d1, d2, d3, d4] => { results := [.lit (.bool false)], args := [d1, d2, d3, d4] }
  | _ => none }
def EdgeHoldsFitWrongFalsely : Prop := edgeHoldsFitRow.holds Tryz.pinned (OpenSpec.ofChange edgeHoldsFitWrong)

/-- 'headendlaw10.EdgeHoldsMatchSpec': WHATEVER THE INPUT: true; the input reads as it did. -/
def edgeHoldsMatchSpecSpec : ChangeSpec := { name := "edgeHoldsMatchSpec", fn := fun _ => fun
  | [d1, d2, d3, d4] => { results := [.lit (.bool true)], args := [d1, d2, d3, d4] }
  | _ => none }
def edgeHoldsMatchSpecRow : OpenClaim := { program := "ytgohddfnhofjhaagreatdoor", sum := "091ee41f63d1d0a10d8637c830467d5795c222c40ada0fbc126313484ef17d9a", func := "headend/headendlaw10.EdgeHoldsMatchSpec", spec := "edgeHoldsMatchSpec", inPlace := ["internal/bytealg.abigen_runtime_cmpstring", "slices.overlaps[int]", "slices.overlaps[headend/api.Held]", "internal/bytealg.IndexByteString", "internal/bytealg.IndexString", "internal/bytealg.CountString", "internal/abi.NoEscape", "internal/bytealg.MakeNoZero"], unfollowed := true, recurses := true, named := ["internal/bytealg.MaxLen", "unicode/utf8.first", "unicode/utf8.acceptRanges"], apart := false, laid := [("unicode/utf8.acceptRanges", laid_unicode_utf8_acceptRanges), ("unicode/utf8.first", laid_unicode_utf8_first)] }
def EdgeHoldsMatchSpecSaid : Prop := edgeHoldsMatchSpecRow.holds Tryz.pinned (OpenSpec.ofChange edgeHoldsMatchSpecSpec)

/-- ITS FALSE NEIGHBOUR: 'it returns false'. Refute it at one input. -/
def edgeHoldsMatchSpecWrong : ChangeSpec := { name := "edgeHoldsMatchSpec", fn := fun _ => fun
  | [d1, d2, d3, d4] => { results := [.lit (.bool false)], args := [d1, d2, d3, d4] }
  | _ => none }
def EdgeHoldsMatchSpecWrongFalsely : Prop := edgeHoldsMatchSpecRow.holds Tryz.pinned (OpenSpec.ofChange edgeHoldsMatchSpecWrong)

/- THE SECOND FORM. 'bulk': how many values and letters a reading holds, each counted each time it is reached (what is shared counts as often as it is met; a slice's spare places count too). A statement '..UptoSaid' is the law's where the arguments, and the package variables that the reading takes, are together of bulk at most 1048576: NARROWER than '..Said'. Prove '..Said' where nothing that the law and all that it calls make is longer than what came in: it says more and counts as full. Else prove '..UptoSaid'. A law counts once. -/
mutual
def uptoBulk {H : Type} : DataW H → Nat
  | .lit (.string bytes) => bytes.length + 1
  | .lit _ => 1
  | .nil => 1
  | .ptr d => uptoBulk d + 1
  | .slice elems spare => uptoBulkAll elems + uptoBulkAll spare + 1
  | .agg parts => uptoBulkAll parts + 1
  | .iface _ d => uptoBulk d + 1
  | .map entries => uptoBulkEntries entries + 1
  | .held _ => 1
def uptoBulkAll {H : Type} : List (DataW H) → Nat
  | [] => 0
  | d :: r => uptoBulk d + uptoBulkAll r
def uptoBulkEntries {H : Type} : List (Lit × DataW H) → Nat
  | [] => 0
  | x :: r => uptoBulkEntry x + uptoBulkEntries r
def uptoBulkEntry {H : Type} : Lit × DataW H → Nat
  | (.string bytes, d) => bytes.length + uptoBulk d + 1
  | (_, d) => uptoBulk d + 1
 end
def uptoSmall : (H : Type) → List (DataW H) → Bool := fun _ ds => decide (uptoBulkAll ds ≤ 1048576)
def OpenSpec.upto (s : _root_.Go.ChangeSpec) : _root_.Go.OpenSpec := { _root_.Go.OpenSpec.ofChange s with cond := some uptoSmall }

/-- 'headendlaw10.EdgeServesNothingOld', WHERE WHAT IT READS IS OF BULK AT MOST 1048576: true; the input reads as it did. -/
def edgeServesNothingOldUptoRow : OpenClaim := { program := "ytgohddfnhofjhaagreatdoor", sum := "091ee41f63d1d0a10d8637c830467d5795c222c40ada0fbc126313484ef17d9a", func := "headend/headendlaw10.EdgeServesNothingOld", spec := "edgeServesNothingOld", inPlace := ["internal/bytealg.IndexByteString", "internal/bytealg.IndexString", "internal/bytealg.CountString", "internal/bytealg.abigen_runtime_cmpstring", "internal/abi.NoEscape", "internal/bytealg.MakeNoZero"], unfollowed := true, recurses := true, named := ["internal/bytealg.MaxLen", "unicode/utf8.first", "unicode/utf8.acceptRanges"], apart := false, laid := [("unicode/utf8.acceptRanges", laid_unicode_utf8_acceptRanges), ("unicode/utf8.first", laid_unicode_utf8_first)], narrowed := true }
def EdgeServesNothingOldUptoSaid : Prop := edgeServesNothingOldUptoRow.holds Tryz.pinned (OpenSpec.upto edgeServesNothingOldSpec)

/-- 'headendlaw10.EdgeLaterGetsChangeNothing', WHERE WHAT IT READS IS OF BULK AT MOST 1048576: true; the input reads as it did. -/
def edgeLaterGetsChangeNothingUptoRow : OpenClaim := { program := "ytgohddfnhofjhaagreatdoor", sum := "091ee41f63d1d0a10d8637c830467d5795c222c40ada0fbc126313484ef17d9a", func := "headend/headendlaw10.EdgeLaterGetsChangeNothing", spec := "edgeLaterGetsChangeNothing", inPlace := ["internal/bytealg.IndexByteString", "internal/bytealg.IndexString", "internal/bytealg.CountString", "internal/bytealg.abigen_runtime_cmpstring", "internal/abi.NoEscape", "internal/bytealg.MakeNoZero"], unfollowed := true, recurses := true, named := ["internal/bytealg.MaxLen", "unicode/utf8.first", "unicode/utf8.acceptRanges"], apart := false, laid := [("unicode/utf8.acceptRanges", laid_unicode_utf8_acceptRanges), ("unicode/utf8.first", laid_unicode_utf8_first)], narrowed := true }
def EdgeLaterGetsChangeNothingUptoSaid : Prop := edgeLaterGetsChangeNothingUptoRow.holds Tryz.pinned (OpenSpec.upto edgeLaterGetsChangeNothingSpec)

/-- 'headendlaw10.EdgeLoadsAddUp', WHERE WHAT IT READS IS OF BULK AT MOST 1048576: true; the input reads as it did. -/
def edgeLoadsAddUpUptoRow : OpenClaim := { program := "ytgohddfnhofjhaagreatdoor", sum := "091ee41f63d1d0a10d8637c830467d5795c222c40ada0fbc126313484ef17d9a", func := "headend/headendlaw10.EdgeLoadsAddUp", spec := "edgeLoadsAddUp", inPlace := ["internal/bytealg.IndexByteString", "internal/bytealg.IndexString", "internal/bytealg.CountString", "internal/bytealg.abigen_runtime_cmpstring", "internal/abi.NoEscape", "internal/bytealg.MakeNoZero"], unfollowed := true, recurses := true, named := ["internal/bytealg.MaxLen", "unicode/utf8.first", "unicode/utf8.acceptRanges"], apart := false, laid := [("unicode/utf8.acceptRanges", laid_unicode_utf8_acceptRanges), ("unicode/utf8.first", laid_unicode_utf8_first)], narrowed := true }
def EdgeLoadsAddUpUptoSaid : Prop := edgeLoadsAddUpUptoRow.holds Tryz.pinned (OpenSpec.upto edgeLoadsAddUpSpec)

/-- 'headendlaw10.EdgeServesMatchSpec', WHERE WHAT IT READS IS OF BULK AT MOST 1048576: true; the input reads as it did. -/
def edgeServesMatchSpecUptoRow : OpenClaim := { program := "ytgohddfnhofjhaagreatdoor", sum := "091ee41f63d1d0a10d8637c830467d5795c222c40ada0fbc126313484ef17d9a", func := "headend/headendlaw10.EdgeServesMatchSpec", spec := "edgeServesMatchSpec", inPlace := ["internal/bytealg.abigen_runtime_cmpstring", "slices.overlaps[int]", "internal/bytealg.IndexByteString", "internal/bytealg.IndexString", "internal/bytealg.CountString", "internal/abi.NoEscape", "internal/bytealg.MakeNoZero"], unfollowed := true, recurses := true, named := ["internal/bytealg.MaxLen", "unicode/utf8.first", "unicode/utf8.acceptRanges"], apart := false, laid := [("unicode/utf8.acceptRanges", laid_unicode_utf8_acceptRanges), ("unicode/utf8.first", laid_unicode_utf8_first)], narrowed := true }
def EdgeServesMatchSpecUptoSaid : Prop := edgeServesMatchSpecUptoRow.holds Tryz.pinned (OpenSpec.upto edgeServesMatchSpecSpec)

/-- 'headendlaw10.EdgeLoadsMatchSpec', WHERE WHAT IT READS IS OF BULK AT MOST 1048576: true; the input reads as it did. -/
def edgeLoadsMatchSpecUptoRow : OpenClaim := { program := "ytgohddfnhofjhaagreatdoor", sum := "091ee41f63d1d0a10d8637c830467d5795c222c40ada0fbc126313484ef17d9a", func := "headend/headendlaw10.EdgeLoadsMatchSpec", spec := "edgeLoadsMatchSpec", inPlace := ["internal/bytealg.abigen_runtime_cmpstring", "slices.overlaps[int]", "internal/bytealg.IndexByteString", "internal/bytealg.IndexString", "internal/bytealg.CountString", "internal/abi.NoEscape", "internal/bytealg.MakeNoZero"], unfollowed := true, recurses := true, named := ["internal/bytealg.MaxLen", "unicode/utf8.first", "unicode/utf8.acceptRanges"], apart := false, laid := [("unicode/utf8.acceptRanges", laid_unicode_utf8_acceptRanges), ("unicode/utf8.first", laid_unicode_utf8_first)], narrowed := true }
def EdgeLoadsMatchSpecUptoSaid : Prop := edgeLoadsMatchSpecUptoRow.holds Tryz.pinned (OpenSpec.upto edgeLoadsMatchSpecSpec)

/-- 'headendlaw10.EdgeHoldsFit', WHERE WHAT IT READS IS OF BULK AT MOST 1048576: true; the input reads as it did. -/
def edgeHoldsFitUptoRow : OpenClaim := { program := "ytgohddfnhofjhaagreatdoor", sum := "091ee41f63d1d0a10d8637c830467d5795c222c40ada0fbc126313484ef17d9a", func := "headend/headendlaw10.EdgeHoldsFit", spec := "edgeHoldsFit", inPlace := ["internal/bytealg.abigen_runtime_cmpstring", "internal/bytealg.IndexByteString", "internal/bytealg.IndexString", "internal/bytealg.CountString", "internal/abi.NoEscape", "internal/bytealg.MakeNoZero"], unfollowed := true, recurses := true, named := ["internal/bytealg.MaxLen", "unicode/utf8.first", "unicode/utf8.acceptRanges"], apart := false, laid := [("unicode/utf8.acceptRanges", laid_unicode_utf8_acceptRanges), ("unicode/utf8.first", laid_unicode_utf8_first)], narrowed := true }
def EdgeHoldsFitUptoSaid : Prop := edgeHoldsFitUptoRow.holds Tryz.pinned (OpenSpec.upto edgeHoldsFitSpec)

/-- 'headendlaw10.EdgeHoldsMatchSpec', WHERE WHAT IT READS IS OF BULK AT MOST 1048576: true; the input reads as it did. -/
def edgeHoldsMatchSpecUptoRow : OpenClaim := { program := "ytgohddfnhofjhaagreatdoor", sum := "091ee41f63d1d0a10d8637c830467d5795c222c40ada0fbc126313484ef17d9a", func := "headend/headendlaw10.EdgeHoldsMatchSpec", spec := "edgeHoldsMatchSpec", inPlace := ["internal/bytealg.abigen_runtime_cmpstring", "slices.overlaps[int]", "slices.overlaps[headend/api.Held]", "internal/bytealg.IndexByteString", "internal/bytealg.IndexString", "internal/bytealg.CountString", "internal/abi.NoEscape", "internal/bytealg.MakeNoZero"], unfollowed := true, recurses := true, named := ["internal/bytealg.MaxLen", "unicode/utf8.first", "unicode/utf8.acceptRanges"], apart := false, laid := [("unicode/utf8.acceptRanges", laid_unicode_utf8_acceptRanges), ("unicode/utf8.first", laid_unicode_utf8_first)], narrowed := true }
def EdgeHoldsMatchSpecUptoSaid : Prop := edgeHoldsMatchSpecUptoRow.holds Tryz.pinned (OpenSpec.upto edgeHoldsMatchSpecSpec)

end Rows
end Go.Proofs.YtgohddfnhofjhaaGreatDoor

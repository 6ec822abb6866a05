/-
  No cell of these rows narrows 'for every input' (looked for: loops, veiled, ifaces, maps, wideKeys, modest, calm, conditions, laid).
  DERIVED. THE GIVEN ROWS OF THIS SEAT. 4 by the template 'for every input the law returns true; each argument reads behind the call as it read before'; 0 by the template 'total and deterministic' (their statements: YtkcnnfgdplccoaaTotals.lean).
  GIVEN WITH THE SEED: the statements are not yours to turn. If you find one false, say at which input.
  Laid BY PROGRAM, IN A SANDBOX (cutbox-rows.mjs): the forced cells as the released guide's own fill.sh prints them over the translation 6aa841fc80191b5a… (all of the seat's roots in one cut). By AI agents, Wed Nov 11 2026. No macro, syntax, notation, axiom, sorry.
-/
import Derived.Test.YtkcnnfgdplccoaaChecked
import GoSem.Claim
import GoSem.ClaimJoined
import GoSem.ClaimMapViews
import Derived.JoinedTies
import Derived.KernelRfl
namespace Go.Proofs.Ytkcnnfgdplccoaa
/- THE CELL 'sum', in the pinned program and in every row, IS THE sha256 OF THE DUMP (.gsa) THAT YtkcnnfgdplccoaaProg.lean LOADS. Nothing in Lean hashes anything: it is a label: what it is worth is what the hold of that sum in a sandbox is worth. -/
noncomputable def Try.pinned : Pinned := { name := "ytkcnnfgdplccoaa", sum := "6aa841fc80191b5aa54dc01ed824b59e0d28693078712510a6b823e04ea0e800", checked := Try.checked }
namespace Rows
def none {H : Type} : Left H := { results := [], args := [] }

/-- 'headendlaw7.MarkSumsAreZero': WHATEVER THE INPUT: true; the input reads as it did. -/
def markSumsAreZeroSpec : ChangeSpec := { name := "markSumsAreZero", fn := fun _ => fun
  | [d] => { results := [.lit (.bool true)], args := [d] }
  | _ => none }
def markSumsAreZeroRow : OpenClaim := { program := "ytkcnnfgdplccoaa", sum := "6aa841fc80191b5aa54dc01ed824b59e0d28693078712510a6b823e04ea0e800", func := "headend/headendlaw7.MarkSumsAreZero", spec := "markSumsAreZero", apart := false }
def MarkSumsAreZeroSaid : Prop := markSumsAreZeroRow.holds Try.pinned (OpenSpec.ofChange markSumsAreZeroSpec)

/-- ITS FALSE NEIGHBOUR: 'it returns false'. Refute it at one input. -/
def markSumsAreZeroWrong : ChangeSpec := { name := "markSumsAreZero", fn := fun _ => fun
  | [d] => { results := [.lit (.bool false)], args := [d] }
  | _ => none }
def MarkSumsAreZeroWrongFalsely : Prop := markSumsAreZeroRow.holds Try.pinned (OpenSpec.ofChange markSumsAreZeroWrong)

/-- 'headendlaw7.MarkCuesMatchSpec': WHATEVER THE INPUT: true; the input reads as it did. -/
def markCuesMatchSpecSpec : ChangeSpec := { name := "markCuesMatchSpec", fn := fun _ => fun
  | [d1, d2] => { results := [.lit (.bool true)], args := [d1, d2] }
  | _ => none }
def markCuesMatchSpecRow : OpenClaim := { program := "ytkcnnfgdplccoaa", sum := "6aa841fc80191b5aa54dc01ed824b59e0d28693078712510a6b823e04ea0e800", func := "headend/headendlaw7.MarkCuesMatchSpec", spec := "markCuesMatchSpec", apart := false }
def MarkCuesMatchSpecSaid : Prop := markCuesMatchSpecRow.holds Try.pinned (OpenSpec.ofChange markCuesMatchSpecSpec)

/-- ITS FALSE NEIGHBOUR: 'it returns false'. Refute it at one input. -/
def markCuesMatchSpecWrong : ChangeSpec := { name := "markCuesMatchSpec", fn := fun _ => fun
  | [d1, d2] => { results := [.lit (.bool false)], args := [d1, d2] }
  | _ => none }
def MarkCuesMatchSpecWrongFalsely : Prop := markCuesMatchSpecRow.holds Try.pinned (OpenSpec.ofChange markCuesMatchSpecWrong)

/-- 'headendlaw7.MarkCuesReadMatchSpec': WHATEVER THE INPUT: true; the input reads as it did. -/
def markCuesReadMatchSpecSpec : ChangeSpec := { name := "markCuesReadMatchSpec", fn := fun _ => fun
  | [d] => { results := [.lit (.bool true)], args := [d] }
  | _ => none }
def markCuesReadMatchSpecRow : OpenClaim := { program := "ytkcnnfgdplccoaa", sum := "6aa841fc80191b5aa54dc01ed824b59e0d28693078712510a6b823e04ea0e800", func := "headend/headendlaw7.MarkCuesReadMatchSpec", spec := "markCuesReadMatchSpec", apart := false }
def MarkCuesReadMatchSpecSaid : Prop := markCuesReadMatchSpecRow.holds Try.pinned (OpenSpec.ofChange markCuesReadMatchSpecSpec)

/-- ITS FALSE NEIGHBOUR: 'it returns false'. Refute it at one input. -/
def markCuesReadMatchSpecWrong : ChangeSpec := { name := "markCuesReadMatchSpec", fn := fun _ => fun
  | [d] => { results := [.lit (.bool false)], args := [d] }
  | _ => none }
def MarkCuesReadMatchSpecWrongFalsely : Prop := markCuesReadMatchSpecRow.holds Try.pinned (OpenSpec.ofChange markCuesReadMatchSpecWrong)

/-- 'headendlaw7.MarkCuesComeBack': WHATEVER THE INPUT: true; the input reads as it did. -/
def markCuesComeBackSpec : ChangeSpec := { name := "markCuesComeBack", fn := fun _ => fun
  | [d1, d2, d3] => { results := [.lit (.bool true)], args := [d1, d2, d3] }
  | _ => none }
def markCuesComeBackRow : OpenClaim := { program := "ytkcnnfgdplccoaa", sum := "6aa841fc80191b5aa54dc01ed824b59e0d28693078712510a6b823e04ea0e800", func := "headend/headendlaw7.MarkCuesComeBack", spec := "markCuesComeBack", apart := false }
def MarkCuesComeBackSaid : Prop := markCuesComeBackRow.holds Try.pinned (OpenSpec.ofChange markCuesComeBackSpec)

/-- ITS FALSE NEIGHBOUR: 'it returns false'. Refute it at one input. -/
def markCuesComeBackWrong : ChangeSpec := { name := "markCuesComeBack", fn := fun _ => fun
  | [d1, d2, d3] => { results := [.lit (.bool false)], args := [d1, d2, d3] }
  | _ => none }
def MarkCuesComeBackWrongFalsely : Prop := markCuesComeBackRow.holds Try.pinned (OpenSpec.ofChange markCuesComeBackWrong)

/- THE SECOND FORM. 'bulk': how many values and letters a reading holds, each counted each time it is reached (what is shared counts as often as it is met; a slice's spare places count too). A statement '..UptoSaid' is the law's where the arguments, and the package variables that the reading takes, are together of bulk at most 1048576: NARROWER than '..Said'. Prove '..Said' where nothing that the law and all that it calls make is longer than what came in: it says more and counts as full. Else prove '..UptoSaid'. A law counts once. -/
mutual
def uptoBulk {H : Type} : DataW H → Nat
  | .lit (.string bytes) => bytes.length + 1
  | .lit _ => 1
  | .nil => 1
  | .ptr d => uptoBulk d + 1
  | .slice elems spare => uptoBulkAll elems + uptoBulkAll spare + 1
  | .agg parts => uptoBulkAll parts + 1
  | .iface _ d => uptoBulk d + 1
  | .map entries => uptoBulkEntries entries + 1
  | .held _ => 1
def uptoBulkAll {H : Type} : List (DataW H) → Nat
  | [] => 0
  | d :: r => uptoBulk d + uptoBulkAll r
def uptoBulkEntries {H : Type} : List (Lit × DataW H) → Nat
  | [] => 0
  | x :: r => uptoBulkEntry x + uptoBulkEntries r
def uptoBulkEntry {H : Type} : Lit × DataW H → Nat
  | (.string bytes, d) => bytes.length + uptoBulk d + 1
  | (_, d) => uptoBulk d + 1
 end
def uptoSmall : (H : Type) → List (DataW H) → Bool := fun _ ds => decide (uptoBulkAll ds ≤ 1048576)
def OpenSpec.upto (s : _root_.Go.ChangeSpec) : _root_.Go.OpenSpec := { _root_.Go.OpenSpec.ofChange s with cond := some uptoSmall }

/-- 'headendlaw7.MarkSumsAreZero', WHERE WHAT IT READS IS OF BULK AT MOST 1048576: true; the input reads as it did. -/
def markSumsAreZeroUptoRow : OpenClaim := { program := "ytkcnnfgdplccoaa", sum := "6aa841fc80191b5aa54dc01ed824b59e0d28693078712510a6b823e04ea0e800", func := "headend/headendlaw7.MarkSumsAreZero", spec := "markSumsAreZero", apart := false, narrowed := true }
def MarkSumsAreZeroUptoSaid : Prop := markSumsAreZeroUptoRow.holds Try.pinned (OpenSpec.upto markSumsAreZeroSpec)

/-- 'headendlaw7.MarkCuesMatchSpec', WHERE WHAT IT READS IS OF BULK AT MOST 1048576: true; the input reads as it did. -/
def markCuesMatchSpecUptoRow : OpenClaim := { program := "ytkcnnfgdplccoaa", sum := "6aa841fc80191b5aa54dc01ed824b59e0d28693078712510a6b823e04ea0e800", func := "headend/headendlaw7.MarkCuesMatchSpec", spec := "markCuesMatchSpec", apart := false, narrowed := true }
def MarkCuesMatchSpecUptoSaid : Prop := markCuesMatchSpecUptoRow.holds Try.pinned (OpenSpec.upto markCuesMatchSpecSpec)

/-- 'headendlaw7.MarkCuesReadMatchSpec', WHERE WHAT IT READS IS OF BULK AT MOST 1048576: true; the input reads as it did. -/
def markCuesReadMatchSpecUptoRow : OpenClaim := { program := "ytkcnnfgdplccoaa", sum := "6aa841fc80191b5aa54dc01ed824b59e0d28693078712510a6b823e04ea0e800", func := "headend/headendlaw7.MarkCuesReadMatchSpec", spec := "markCuesReadMatchSpec", apart := false, narrowed := true }
def MarkCuesReadMatchSpecUptoSaid : Prop := markCuesReadMatchSpecUptoRow.holds Try.pinned (OpenSpec.upto markCuesReadMatchSpecSpec)

/-- 'headendlaw7.MarkCuesComeBack', WHERE WHAT IT READS IS OF BULK AT MOST 1048576: true; the input reads as it did. -/
def markCuesComeBackUptoRow : OpenClaim := { program := "ytkcnnfgdplccoaa", sum := "6aa841fc80191b5aa54dc01ed824b59e0d28693078712510a6b823e04ea0e800", func := "headend/headendlaw7.MarkCuesComeBack", spec := "markCuesComeBack", apart := false, narrowed := true }
def MarkCuesComeBackUptoSaid : Prop := markCuesComeBackUptoRow.holds Try.pinned (OpenSpec.upto markCuesComeBackSpec)

end Rows
end Go.Proofs.Ytkcnnfgdplccoaa

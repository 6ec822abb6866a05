/-
  No cell of these rows narrows 'for every input' (looked for: loops, veiled, ifaces, maps, wideKeys, modest, calm, conditions, laid).
  DERIVED. THE GIVEN ROWS OF THIS SEAT. 3 by the template 'for every input the law returns true; each argument reads behind the call as it read before'; 0 by the template 'total and deterministic' (their statements: YtaoamechajffbaaTotals.lean).
  GIVEN WITH THE SEED: the statements are not yours to turn. If you find one false, say at which input.
  Laid BY PROGRAM, IN A SANDBOX (cutbox-rows.mjs): the forced cells as the released guide's own fill.sh prints them over the translation 2dceb9c6178120ad… (all of the seat's roots in one cut). By AI agents, Wed Nov 11 2026. No macro, syntax, notation, axiom, sorry.
-/
import Derived.Test.YtaoamechajffbaaChecked
import GoSem.Claim
import GoSem.ClaimJoined
import GoSem.ClaimMapViews
import Derived.JoinedTies
import Derived.KernelRfl
namespace Go.Proofs.Ytaoamechajffbaa
/- THE CELL 'sum', in the pinned program and in every row, IS THE sha256 OF THE DUMP (.gsa) THAT YtaoamechajffbaaProg.lean LOADS. Nothing in Lean hashes anything: it is a label: what it is worth is what the hold of that sum in a sandbox is worth. -/
noncomputable def Try.pinned : Pinned := { name := "ytaoamechajffbaa", sum := "2dceb9c6178120ad7e267f942550a439b1fad05c25d71a87543aa589f2c3d4a7", checked := Try.checked }
namespace Rows
def none {H : Type} : Left H := { results := [], args := [] }

/-- 'headendlaw7.MarkCountsMatchSpec': WHATEVER THE INPUT: true; the input reads as it did. -/
def markCountsMatchSpecSpec : ChangeSpec := { name := "markCountsMatchSpec", fn := fun _ => fun
  | [d1, d2] => { results := [.lit (.bool true)], args := [d1, d2] }
  | _ => none }
def markCountsMatchSpecRow : OpenClaim := { program := "ytaoamechajffbaa", sum := "2dceb9c6178120ad7e267f942550a439b1fad05c25d71a87543aa589f2c3d4a7", func := "headend/headendlaw7.MarkCountsMatchSpec", spec := "markCountsMatchSpec", unfollowed := true, recurses := true, plainKeys := false, apart := false }
def MarkCountsMatchSpecSaid : Prop := markCountsMatchSpecRow.holds Try.pinned (OpenSpec.ofChange markCountsMatchSpecSpec)

/-- ITS FALSE NEIGHBOUR: 'it returns false'. Refute it at one input. -/
def markCountsMatchSpecWrong : ChangeSpec := { name := "markCountsMatchSpec", fn := fun _ => fun
  | [d1, d2] => { results := [.lit (.bool false)], args := [d1, d2] }
  | _ => none }
def MarkCountsMatchSpecWrongFalsely : Prop := markCountsMatchSpecRow.holds Try.pinned (OpenSpec.ofChange markCountsMatchSpecWrong)

/-- 'headendlaw7.MarkCountsAnyOrder': WHATEVER THE INPUT: true; the input reads as it did. -/
def markCountsAnyOrderSpec : ChangeSpec := { name := "markCountsAnyOrder", fn := fun _ => fun
  | [d1, d2] => { results := [.lit (.bool true)], args := [d1, d2] }
  | _ => none }
def markCountsAnyOrderRow : OpenClaim := { program := "ytaoamechajffbaa", sum := "2dceb9c6178120ad7e267f942550a439b1fad05c25d71a87543aa589f2c3d4a7", func := "headend/headendlaw7.MarkCountsAnyOrder", spec := "markCountsAnyOrder", unfollowed := true, recurses := true, plainKeys := false, apart := false }
def MarkCountsAnyOrderSaid : Prop := markCountsAnyOrderRow.holds Try.pinned (OpenSpec.ofChange markCountsAnyOrderSpec)

/-- ITS FALSE NEIGHBOUR: 'it returns false'. Refute it at one input. -/
def markCountsAnyOrderWrong : ChangeSpec := { name := "markCountsAnyOrder", fn := fun _ => fun
  | [d1, d2] => { results := [.lit (.bool false)], args := [d1, d2] }
  | _ => none }
def MarkCountsAnyOrderWrongFalsely : Prop := markCountsAnyOrderRow.holds Try.pinned (OpenSpec.ofChange markCountsAnyOrderWrong)

/-- 'headendlaw7.MarkSessionsCount': WHATEVER THE INPUT: true; the input reads as it did. -/
def markSessionsCountSpec : ChangeSpec := { name := "markSessionsCount", fn := fun _ => fun
  | [d1, d2] => { results := [.lit (.bool true)], args := [d1, d2] }
  | _ => none }
def markSessionsCountRow : OpenClaim := { program := "ytaoamechajffbaa", sum := "2dceb9c6178120ad7e267f942550a439b1fad05c25d71a87543aa589f2c3d4a7", func := "headend/headendlaw7.MarkSessionsCount", spec := "markSessionsCount", unfollowed := true, recurses := true, plainKeys := false, apart := false }
def MarkSessionsCountSaid : Prop := markSessionsCountRow.holds Try.pinned (OpenSpec.ofChange markSessionsCountSpec)

/-- ITS FALSE NEIGHBOUR: 'it returns false'. Refute it at one input. -/
def markSessionsCountWrong : ChangeSpec := { name := "markSessionsCount", fn := fun _ => fun
  | [d1, d2] => { results := [.lit (.bool false)], args := [d1, d2] }
  | _ => none }
def MarkSessionsCountWrongFalsely : Prop := markSessionsCountRow.holds Try.pinned (OpenSpec.ofChange markSessionsCountWrong)

/- THE SECOND FORM. 'bulk': how many values and letters a reading holds, each counted each time it is reached (what is shared counts as often as it is met; a slice's spare places count too). A statement '..UptoSaid' is the law's where the arguments, and the package variables that the reading takes, are together of bulk at most 1048576: NARROWER than '..Said'. Prove '..Said' where nothing that the law and all that it calls make is longer than what came in: it says more and counts as full. Else prove '..UptoSaid'. A law counts once. -/
mutual
def uptoBulk {H : Type} : DataW H → Nat
  | .lit (.string bytes) => bytes.length + 1
  | .lit _ => 1
  | .nil => 1
  | .ptr d => uptoBulk d + 1
  | .slice elems spare => uptoBulkAll elems + uptoBulkAll spare + 1
  | .agg parts => uptoBulkAll parts + 1
  | .iface _ d => uptoBulk d + 1
  | .map entries => uptoBulkEntries entries + 1
  | .held _ => 1
def uptoBulkAll {H : Type} : List (DataW H) → Nat
  | [] => 0
  | d :: r => uptoBulk d + uptoBulkAll r
def uptoBulkEntries {H : Type} : List (Lit × DataW H) → Nat
  | [] => 0
  | x :: r => uptoBulkEntry x + uptoBulkEntries r
def uptoBulkEntry {H : Type} : Lit × DataW H → Nat
  | (.string bytes, d) => bytes.length + uptoBulk d + 1
  | (_, d) => uptoBulk d + 1
 end
def uptoSmall : (H : Type) → List (DataW H) → Bool := fun _ ds => decide (uptoBulkAll ds ≤ 1048576)
def OpenSpec.upto (s : _root_.Go.ChangeSpec) : _root_.Go.OpenSpec := { _root_.Go.OpenSpec.ofChange s with cond := some uptoSmall }

/-- 'headendlaw7.MarkCountsMatchSpec', WHERE WHAT IT READS IS OF BULK AT MOST 1048576: true; the input reads as it did. -/
def markCountsMatchSpecUptoRow : OpenClaim := { program := "ytaoamechajffbaa", sum := "2dceb9c6178120ad7e267f942550a439b1fad05c25d71a87543aa589f2c3d4a7", func := "headend/headendlaw7.MarkCountsMatchSpec", spec := "markCountsMatchSpec", unfollowed := true, recurses := true, plainKeys := false, apart := false, narrowed := true }
def MarkCountsMatchSpecUptoSaid : Prop := markCountsMatchSpecUptoRow.holds Try.pinned (OpenSpec.upto markCountsMatchSpecSpec)

/-- 'headendlaw7.MarkCountsAnyOrder', WHERE WHAT IT READS IS OF BULK AT MOST 1048576: true; the input reads as it did. -/
def markCountsAnyOrderUptoRow : OpenClaim := { program := "ytaoamechajffbaa", sum := "2dceb9c6178120ad7e267f942550a439b1fad05c25d71a87543aa589f2c3d4a7", func := "headend/headendlaw7.MarkCountsAnyOrder", spec := "markCountsAnyOrder", unfollowed := true, recurses := true, plainKeys := false, apart := false, narrowed := true }
def MarkCountsAnyOrderUptoSaid : Prop := markCountsAnyOrderUptoRow.holds Try.pinned (OpenSpec.upto markCountsAnyOrderSpec)

/-- 'headendlaw7.MarkSessionsCount', WHERE WHAT IT READS IS OF BULK AT MOST 1048576: true; the input reads as it did. -/
def markSessionsCountUptoRow : OpenClaim := { program := "ytaoamechajffbaa", sum := "2dceb9c6178120ad7e267f942550a439b1fad05c25d71a87543aa589f2c3d4a7", func := "headend/headendlaw7.MarkSessionsCount", spec := "markSessionsCount", unfollowed := true, recurses := true, plainKeys := false, apart := false, narrowed := true }
def MarkSessionsCountUptoSaid : Prop := markSessionsCountUptoRow.holds Try.pinned (OpenSpec.upto markSessionsCountSpec)

end Rows
end Go.Proofs.Ytaoamechajffbaa

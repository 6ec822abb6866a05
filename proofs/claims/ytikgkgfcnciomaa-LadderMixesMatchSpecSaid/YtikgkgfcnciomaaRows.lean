/-
  No cell of these rows narrows 'for every input' (looked for: loops, veiled, ifaces, maps, wideKeys, modest, calm, conditions, laid).
  DERIVED. THE GIVEN ROWS OF THIS SEAT. 4 by the template 'for every input the law returns true; each argument reads behind the call as it read before'; 0 by the template 'total and deterministic' (their statements: YtikgkgfcnciomaaTotals.lean).
  GIVEN WITH THE SEED: the statements are not yours to turn. If you find one false, say at which input.
  Laid BY PROGRAM, IN A SANDBOX (cutbox-rows.mjs): the forced cells as the released guide's own fill.sh prints them over the translation 605a22e355f3065d… (all of the seat's roots in one cut). By AI agents, Wed Nov 11 2026. No macro, syntax, notation, axiom, sorry.
-/
import Derived.Test.YtikgkgfcnciomaaChecked
import GoSem.Claim
import GoSem.ClaimJoined
import GoSem.ClaimMapViews
import Derived.JoinedTies
import Derived.KernelRfl
namespace Go.Proofs.Ytikgkgfcnciomaa
/- THE CELL 'sum', in the pinned program and in every row, IS THE sha256 OF THE DUMP (.gsa) THAT YtikgkgfcnciomaaProg.lean LOADS. Nothing in Lean hashes anything: it is a label: what it is worth is what the hold of that sum in a sandbox is worth. -/
noncomputable def Try.pinned : Pinned := { name := "ytikgkgfcnciomaa", sum := "605a22e355f3065d2a818b4c243f12fbfcc2a999eaf3c8e40f3a1cd5cdb0815a", checked := Try.checked }
namespace Rows
def none {H : Type} : Left H := { results := [], args := [] }

/-- 'headendlaw5.LadderHullsMatchSpec': WHATEVER THE INPUT: true; the input reads as it did. -/
def ladderHullsMatchSpecSpec : ChangeSpec := { name := "ladderHullsMatchSpec", fn := fun _ => fun
  | [d] => { results := [.lit (.bool true)], args := [d] }
  | _ => none }
def ladderHullsMatchSpecRow : OpenClaim := { program := "ytikgkgfcnciomaa", sum := "605a22e355f3065d2a818b4c243f12fbfcc2a999eaf3c8e40f3a1cd5cdb0815a", func := "headend/headendlaw5.LadderHullsMatchSpec", spec := "ladderHullsMatchSpec", inPlace := ["math/bits.Sub64"], unfollowed := true, recurses := true, apart := false }
def LadderHullsMatchSpecSaid : Prop := ladderHullsMatchSpecRow.holds Try.pinned (OpenSpec.ofChange ladderHullsMatchSpecSpec)

/-- ITS FALSE NEIGHBOUR: 'it returns false'. Refute it at one input. -/
def ladderHullsMatchSpecWrong : ChangeSpec := { name := "ladderHullsMatchSpec", fn := fun _ => fun
  | [d] => { results := [.lit (.bool false)], args := [d] }
  | _ => none }
def LadderHullsMatchSpecWrongFalsely : Prop := ladderHullsMatchSpecRow.holds Try.pinned (OpenSpec.ofChange ladderHullsMatchSpecWrong)

/-- 'headendlaw5.LadderHullsAreSensible': WHATEVER THE INPUT: true; the input reads as it did. -/
def ladderHullsAreSensibleSpec : ChangeSpec := { name := "ladderHullsAreSensible", fn := fun _ => fun
  | [d] => { results := [.lit (.bool true)], args := [d] }
  | _ => none }
def ladderHullsAreSensibleRow : OpenClaim := { program := "ytikgkgfcnciomaa", sum := "605a22e355f3065d2a818b4c243f12fbfcc2a999eaf3c8e40f3a1cd5cdb0815a", func := "headend/headendlaw5.LadderHullsAreSensible", spec := "ladderHullsAreSensible", inPlace := ["math/bits.Sub64"], unfollowed := true, recurses := true, apart := false }
def LadderHullsAreSensibleSaid : Prop := ladderHullsAreSensibleRow.holds Try.pinned (OpenSpec.ofChange ladderHullsAreSensibleSpec)

/-- ITS FALSE NEIGHBOUR: 'it returns false'. Refute it at one input. -/
def ladderHullsAreSensibleWrong : ChangeSpec := { name := "ladderHullsAreSensible", fn := fun _ => fun
  | [d] => { results := [.lit (.bool false)], args := [d] }
  | _ => none }
def LadderHullsAreSensibleWrongFalsely : Prop := ladderHullsAreSensibleRow.holds Try.pinned (OpenSpec.ofChange ladderHullsAreSensibleWrong)

/-- 'headendlaw5.LadderMixesMatchSpec': WHATEVER THE INPUT: true; the input reads as it did. -/
def ladderMixesMatchSpecSpec : ChangeSpec := { name := "ladderMixesMatchSpec", fn := fun _ => fun
  | [d1, d2] => { results := [.lit (.bool true)], args := [d1, d2] }
  | _ => none }
def ladderMixesMatchSpecRow : OpenClaim := { program := "ytikgkgfcnciomaa", sum := "605a22e355f3065d2a818b4c243f12fbfcc2a999eaf3c8e40f3a1cd5cdb0815a", func := "headend/headendlaw5.LadderMixesMatchSpec", spec := "ladderMixesMatchSpec", inPlace := ["math/bits.Sub64"], unfollowed := true, recurses := true, apart := false }
def LadderMixesMatchSpecSaid : Prop := ladderMixesMatchSpecRow.holds Try.pinned (OpenSpec.ofChange ladderMixesMatchSpecSpec)

/-- ITS FALSE NEIGHBOUR: 'it returns false'. Refute it at one input. -/
def ladderMixesMatchSpecWrong : ChangeSpec := { name := "ladderMixesMatchSpec", fn := fun _ => fun
  | [d1, d2] => { results := [.lit (.bool false)], args := [d1, d2] }
  | _ => none }
def LadderMixesMatchSpecWrongFalsely : Prop := ladderMixesMatchSpecRow.holds Try.pinned (OpenSpec.ofChange ladderMixesMatchSpecWrong)

/-- 'headendlaw5.LadderMixesLieOnHulls': WHATEVER THE INPUT: true; the input reads as it did. -/
def ladderMixesLieOnHullsSpec : ChangeSpec := { name := "ladderMixesLieOnHulls", fn := fun _ => fun
  | [d1, d2] => { results := [.lit (.bool true)], args := [d1, d2] }
  | _ => none }
def ladderMixesLieOnHullsRow : OpenClaim := { program := "ytikgkgfcnciomaa", sum := "605a22e355f3065d2a818b4c243f12fbfcc2a999eaf3c8e40f3a1cd5cdb0815a", func := "headend/headendlaw5.LadderMixesLieOnHulls", spec := "ladderMixesLieOnHulls", inPlace := ["math/bits.Sub64"], unfollowed := true, recurses := true, apart := false }
def LadderMixesLieOnHullsSaid : Prop := ladderMixesLieOnHullsRow.holds Try.pinned (OpenSpec.ofChange ladderMixesLieOnHullsSpec)

/-- ITS FALSE NEIGHBOUR: 'it returns false'. Refute it at one input. -/
def ladderMixesLieOnHullsWrong : ChangeSpec := { name := "ladderMixesLieOnHulls", fn := fun _ => fun
  | [d1, d2] => { results := [.lit (.bool false)], args := [d1, d2] }
  | _ => none }
def LadderMixesLieOnHullsWrongFalsely : Prop := ladderMixesLieOnHullsRow.holds Try.pinned (OpenSpec.ofChange ladderMixesLieOnHullsWrong)

/- THE SECOND FORM. 'bulk': how many values and letters a reading holds, each counted each time it is reached (what is shared counts as often as it is met; a slice's spare places count too). A statement '..UptoSaid' is the law's where the arguments, and the package variables that the reading takes, are together of bulk at most 1048576: NARROWER than '..Said'. Prove '..Said' where nothing that the law and all that it calls make is longer than what came in: it says more and counts as full. Else prove '..UptoSaid'. A law counts once. -/
mutual
def uptoBulk {H : Type} : DataW H → Nat
  | .lit (.string bytes) => bytes.length + 1
  | .lit _ => 1
  | .nil => 1
  | .ptr d => uptoBulk d + 1
  | .slice elems spare => uptoBulkAll elems + uptoBulkAll spare + 1
  | .agg parts => uptoBulkAll parts + 1
  | .iface _ d => uptoBulk d + 1
  | .map entries => uptoBulkEntries entries + 1
  | .held _ => 1
def uptoBulkAll {H : Type} : List (DataW H) → Nat
  | [] => 0
  | d :: r => uptoBulk d + uptoBulkAll r
def uptoBulkEntries {H : Type} : List (Lit × DataW H) → Nat
  | [] => 0
  | x :: r => uptoBulkEntry x + uptoBulkEntries r
def uptoBulkEntry {H : Type} : Lit × DataW H → Nat
  | (.string bytes, d) => bytes.length + uptoBulk d + 1
  | (_, d) => uptoBulk d + 1
 end
def uptoSmall : (H : Type) → List (DataW H) → Bool := fun _ ds => decide (uptoBulkAll ds ≤ 1048576)
def OpenSpec.upto (s : _root_.Go.ChangeSpec) : _root_.Go.OpenSpec := { _root_.Go.OpenSpec.ofChange s with cond := some uptoSmall }

/-- 'headendlaw5.LadderHullsMatchSpec', WHERE WHAT IT READS IS OF BULK AT MOST 1048576: true; the input reads as it did. -/
def ladderHullsMatchSpecUptoRow : OpenClaim := { program := "ytikgkgfcnciomaa", sum := "605a22e355f3065d2a818b4c243f12fbfcc2a999eaf3c8e40f3a1cd5cdb0815a", func := "headend/headendlaw5.LadderHullsMatchSpec", spec := "ladderHullsMatchSpec", inPlace := ["math/bits.Sub64"], unfollowed := true, recurses := true, apart := false, narrowed := true }
def LadderHullsMatchSpecUptoSaid : Prop := ladderHullsMatchSpecUptoRow.holds Try.pinned (OpenSpec.upto ladderHullsMatchSpecSpec)

/-- 'headendlaw5.LadderHullsAreSensible', WHERE WHAT IT READS IS OF BULK AT MOST 1048576: true; the input reads as it did. -/
def ladderHullsAreSensibleUptoRow : OpenClaim := { program := "ytikgkgfcnciomaa", sum := "605a22e355f3065d2a818b4c243f12fbfcc2a999eaf3c8e40f3a1cd5cdb0815a", func := "headend/headendlaw5.LadderHullsAreSensible", spec := "ladderHullsAreSensible", inPlace := ["math/bits.Sub64"], unfollowed := true, recurses := true, apart := false, narrowed := true }
def LadderHullsAreSensibleUptoSaid : Prop := ladderHullsAreSensibleUptoRow.holds Try.pinned (OpenSpec.upto ladderHullsAreSensibleSpec)

/-- 'headendlaw5.LadderMixesMatchSpec', WHERE WHAT IT READS IS OF BULK AT MOST 1048576: true; the input reads as it did. -/
def ladderMixesMatchSpecUptoRow : OpenClaim := { program := "ytikgkgfcnciomaa", sum := "605a22e355f3065d2a818b4c243f12fbfcc2a999eaf3c8e40f3a1cd5cdb0815a", func := "headend/headendlaw5.LadderMixesMatchSpec", spec := "ladderMixesMatchSpec", inPlace := ["math/bits.Sub64"], unfollowed := true, recurses := true, apart := false, narrowed := true }
def LadderMixesMatchSpecUptoSaid : Prop := ladderMixesMatchSpecUptoRow.holds Try.pinned (OpenSpec.upto ladderMixesMatchSpecSpec)

/-- 'headendlaw5.LadderMixesLieOnHulls', WHERE WHAT IT READS IS OF BULK AT MOST 1048576: true; the input reads as it did. -/
def ladderMixesLieOnHullsUptoRow : OpenClaim := { program := "ytikgkgfcnciomaa", sum := "605a22e355f3065d2a818b4c243f12fbfcc2a999eaf3c8e40f3a1cd5cdb0815a", func := "headend/headendlaw5.LadderMixesLieOnHulls", spec := "ladderMixesLieOnHulls", inPlace := ["math/bits.Sub64"], unfollowed := true, recurses := true, apart := false, narrowed := true }
def LadderMixesLieOnHullsUptoSaid : Prop := ladderMixesLieOnHullsUptoRow.holds Try.pinned (OpenSpec.upto ladderMixesLieOnHullsSpec)

end Rows
end Go.Proofs.Ytikgkgfcnciomaa

/- What ReadCue leaves. -/
import Derived.Test.YtkcnnfgdplccoaaCueL
namespace Go.Proofs.Ytkcnnfgdplccoaa
open Go.RowKit

def RdP (w : World) (a : CueAns) : Ending → World → Prop := fun e w' => e = .returned (.tuple #[agC a.cue, .int .i64 a.at_, .int .i64 a.fault]) ∧ Below w.heap.size w w'
theorem RdP.mk {w w' : World} {a : CueAns} {c : Cue} {z f : Int} {v : Value} (ha : a = ⟨c, z, f⟩) (hv : v = .tuple #[agC c, .int .i64 z, .int .i64 f]) (hb : Below w.heap.size w w') : RdP w a (.returned v) w' := by
  subst ha hv
  exact ⟨rfl, hb⟩
end Go.Proofs.Ytkcnnfgdplccoaa

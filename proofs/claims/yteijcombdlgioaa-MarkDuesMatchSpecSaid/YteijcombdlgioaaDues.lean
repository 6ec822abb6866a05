/- MarkDuesMatchSpec: Due is as specified. -/
import Derived.Test.YteijcombdlgioaaRdue
import Derived.Test.YteijcombdlgioaaEqE
import Derived.Test.YteijcombdlgioaaSum
namespace Go.Proofs.Yteijcombdlgioaa
open Go.RowKit

set_option maxRecDepth 100000 in
set_option maxHeartbeats 1000000 in
theorem dues_any (w : World) (l : List Prt) (v : Value) (a t : Int) (hl : Sl w 3 encP v l) (hw : ∀ p, p ∈ l → WfP p) :
    Calls Try.prog 3 #[v, .int .i64 a, .int .i64 t] w fun e w' => e = .returned (.bool true) ∧ Below w.heap.size w w' := by
  have h1 := due_any w l v a t hl hw
  have h2 := fun (w1 : World) (hb : Below w.heap.size w w1) => dueR_any w1 l v a t (hl.below hb (Nat.le_refl _)) hw
  clear hl hw
  generalize dueL l a t = L at h1 h2
  generalize dueF l a t = f at h1 h2
  go_enter Try.func3, Try.ntmps3
  go_wp2_with fail
  refine h1.mono ?_
  rintro e w1 ⟨v1, rfl, hs1, hb1⟩
  go_wp2_with fail
  refine (h2 w1 hb1).mono ?_
  rintro e w2 ⟨v2, rfl, hs2, hb2⟩
  have h5 := equalSameE w2 L v1 v2 (hs1.below hb2 (Nat.le_refl _)) hs2
  have hb2' := hb1.thru hb2
  clear hs1 hs2 h1 h2
  go_wp2_with (first | (go_at_call 12; refine h5.mono ?_; rintro e w5 ⟨rfl, hb5⟩; have hb5' := hb2'.thru hb5) | (go_at_call 13; refine (awake_any _).mono ?_; rintro e w6 ⟨rfl, hb6⟩))
  go_ret
  exact ⟨rfl, hb5'.thru hb6⟩
end Go.Proofs.Yteijcombdlgioaa

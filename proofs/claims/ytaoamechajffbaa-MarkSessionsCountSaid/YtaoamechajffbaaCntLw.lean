/- MarkCountsMatchSpec: Counts is as specified. -/
import Derived.Test.YtaoamechajffbaaCntW
import Derived.Test.YtaoamechajffbaaCntR
import Derived.Test.YtaoamechajffbaaEqK
import Derived.Test.YtaoamechajffbaaEqIL
import Derived.Test.YtaoamechajffbaaSum
namespace Go.Proofs.Ytaoamechajffbaa
open Go.RowKit

set_option maxRecDepth 100000 in
set_option maxHeartbeats 1000000 in
theorem countsM_any (w : World) (l : List Prt) (es : List Ev) (u v : Value) (hl : Sl w 3 encP u l) (he : Sl w 4 encE v es) (hw : ∀ p, p ∈ l → WfP p) (hs : ∀ e, e ∈ es → WfE e) :
    Calls Try.prog 3 #[u, v] w fun e w' => e = .returned (.bool true) ∧ Below w.heap.size w w' := by
  have h1 := counts_any w l es u v hl he hw hs
  have h2 := fun (w1 : World) (hb : Below w.heap.size w w1) => countsR_any w1 l es u v (hl.below hb (Nat.le_refl _)) (he.below hb (Nat.le_refl _)) hw (fun e h => ⟨(hs e h).1, (hs e h).2.1⟩)
  clear hl he hw hs
  unfold CntPost at h1 h2
  generalize cntA l es = L at h1 h2
  generalize cntI l es = I at h1 h2
  generalize cntF l es = f at h1 h2
  go_enter Try.func3, Try.ntmps3
  go_wp2_with fail
  refine h1.mono ?_
  rintro e w1 ⟨v1, v2, rfl, hs1, hi1, hb1⟩
  go_wp2_with fail
  refine (h2 w1 hb1).mono ?_
  rintro e w2 ⟨v3, v4, rfl, hs2, hi2, hb2⟩
  have h5 := equalSameK w2 L v1 v3 (hs1.below hb2 (Nat.le_refl _)) hs2
  have h6 := fun (W : World) (hb : Below w2.heap.size w2 W) => equalSameI W I v2 v4 ((hi1.below hb2 (Nat.le_refl _)).below hb (Nat.le_refl _)) (hi2.below hb (Nat.le_refl _))
  have hb2' := hb1.thru hb2
  clear hs1 hs2 h1 h2 hi1 hi2
  go_wp2_with (first | (go_at_call 8; refine h5.mono ?_; rintro e w5 ⟨rfl, hb5⟩; have hb5' := hb2'.thru hb5; have h7 := h6 w5 hb5) | (go_at_call 9; refine h7.mono ?_; rintro e w7 ⟨rfl, hb7⟩; have hb7' := hb5'.thru hb7) | (go_at_call 10; refine (awake_any _).mono ?_; rintro e w6 ⟨rfl, hb6⟩))
  go_ret
  exact ⟨rfl, hb7'.thru hb6⟩
end Go.Proofs.Ytaoamechajffbaa

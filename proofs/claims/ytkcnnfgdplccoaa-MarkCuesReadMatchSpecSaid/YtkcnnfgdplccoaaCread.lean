/- MarkCuesReadMatchSpec: ReadCue is as specified. -/
import Derived.Test.YtkcnnfgdplccoaaReadR
import Derived.Test.YtkcnnfgdplccoaaCback
namespace Go.Proofs.Ytkcnnfgdplccoaa
open Go.RowKit
set_option linter.unusedSimpArgs false
set_option linter.unusedVariables false

set_option maxRecDepth 100000 in
set_option maxHeartbeats 4000000 in
theorem cread_any (w : World) (l : List UInt8) (v : Value) (hl : Sl w 1 encU v l) :
    Calls Try.prog 5 #[v] w fun e w' => e = .returned (.bool true) ∧ Below w.heap.size w w' := by
  have h1 := Lib.hid (ReadCue_any w l v hl)
  have h2 := Lib.hid (fun (W : World) (hb : Below w.heap.size w W) => ReadCueR_any W l v (hl.below hb (Nat.le_refl _)))
  clear hl
  generalize readC l = A at h1 h2
  obtain ⟨⟨k, e, n, t, q, u⟩, z, f⟩ := A
  go_enter Try.func5, Try.ntmps5
  go_wp2_with fail
  refine h1.out.mono ?_
  rintro e1 w1 ⟨rfl, hb⟩
  have HB1 := Lib.hid hb
  clear hb
  obtain ⟨w2, hw2⟩ : ∃ w2, w2 = w1.alloc (boxC ⟨k, e, n, t, q, u⟩) := ⟨_, rfl⟩
  have HB2 : Hid (Below w.heap.size w w2) := Lib.hid (by rw [hw2]; exact HB1.out.alloc HB1.out.size _)
  have HK2 : Hid (w2.heap[w1.heap.size]? = some (boxC ⟨k, e, n, t, q, u⟩)) := Lib.hid (by rw [hw2]; exact block_new w1 _)
  have HW2 := Lib.hid hw2
  clear hw2
  go_wp2_with fail
  rw [← HW2.out]
  refine (h2.out _ HB2.out).mono ?_
  rintro e2 w3 ⟨rfl, hb⟩
  have HB3 := Lib.hid (HB2.out.thru hb)
  have hk3 := (hb.block _ (lt_of_blk HK2.out)).trans HK2.out
  have r0 := (cell_of_block (i := 0) hk3).trans rfl
  have r1 := (cell_of_block (i := 1) hk3).trans rfl
  have r2 := (cell_of_block (i := 2) hk3).trans rfl
  have r3 := (cell_of_block (i := 3) hk3).trans rfl
  have r4 := (cell_of_block (i := 4) hk3).trans rfl
  have r5 := (cell_of_block (i := 5) hk3).trans rfl
  have hlR := lt_of_blk hk3
  have hne := fun w => eqC_same k e n t q u w
  have hgd := guardC
  have HA := Lib.hid (HB3.out.alloc HB3.out.size (boxC ⟨k, e, n, t, q, u⟩))
  clear hb hk3
  go_wp2_with (go_at_call 9; refine (awake_any _).mono ?_; rintro e w4 ⟨rfl, hb4⟩)
  go_ret
  exact ⟨by simp, HA.out.thru hb4⟩
end Go.Proofs.Ytkcnnfgdplccoaa

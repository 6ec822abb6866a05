/- LadderStepsMatchSpec: the walk of the law. -/
import Derived.Test.YtlomnfaedhgciaaStpR
import Derived.Test.YtlomnfaedhgciaaCapR
import Derived.Test.YtlomnfaedhgciaaEqW
import Derived.Test.YtlomnfaedhgciaaEqIL
import Derived.Test.YtlomnfaedhgciaaAwk5
namespace Go.Proofs.Ytlomnfaedhgciaa
open Go.RowKit

set_option maxRecDepth 100000 in
set_option maxHeartbeats 2000000 in
theorem stepsM_any (w : World) (l : List Rng) (u : Value) (n d r h : Int) (hl : Sl w 4 encR u l) (hw : ∀ x, x ∈ l → WfR x) :
    Calls Try.prog 4 #[u, .agg #[.int .i64 n, .int .i64 d], .int .i64 r, .int .i64 h] w fun e w' => e = .returned (.bool true) ∧ Below w.heap.size w w' := by
  have B0 := Lib.hid ((Below.refl w.heap.size w).alloc (Nat.le_refl _) (.cells #[.int .i64 n, .int .i64 d] 24))
  have K0 := Lib.hid (block_new w (.cells #[.int .i64 n, .int .i64 d] 24))
  have h1 := Lib.hid (fun (W : World) (hb : Below w.heap.size w W) => steps_any W l u n d (hl.below hb (Nat.le_refl _)) hw)
  have h2 := Lib.hid (fun (W : World) (hb : Below w.heap.size w W) => stepsR_any W l u n d (hl.below hb (Nat.le_refl _)) hw)
  have h3 := Lib.hid (fun (W : World) (hb : Below w.heap.size w W) => capped_any W l u r h (hl.below hb (Nat.le_refl _)) hw)
  have h4 := Lib.hid (fun (W : World) (hb : Below w.heap.size w W) => cappedR_any W l u r h (hl.below hb (Nat.le_refl _)) hw)
  have h5 := Lib.hid (fun (W : World) (hb : Below w.heap.size w W) => wrong_any W l u n d (hl.below hb (Nat.le_refl _)) hw)
  have h6 := Lib.hid (fun (W : World) (hb : Below w.heap.size w W) => wrongR_any W l u n d (hl.below hb (Nat.le_refl _)) hw)
  clear hl hw
  generalize stpL l n d = n1 at h1 h2
  generalize stpB l n d = n2 at h1 h2
  generalize rmF l n d = n3 at h1 h2 h5 h6
  generalize capL l r h = n4 at h3 h4
  generalize capF l r h = n5 at h3 h4
  generalize wrgL l n d = n6 at h5 h6
  cases n2
  all_goals
    go_enter Try.func4, Try.ntmps4
    go_wp2_with fail
    refine (h1.out _ B0.out).mono ?_
    rintro e w1 ⟨v1, rfl, hs, hb⟩
    have HS1 := Lib.hid hs
    have HB1 := Lib.hid (B0.out.thru hb)
    have hk := (hb.block _ (lt_of_block K0.out)).trans K0.out
    have HK1 := Lib.hid hk
    have c0 := (cell_of_block (i := 0) hk).trans rfl
    have c1 := (cell_of_block (i := 1) hk).trans rfl
    have hlt := lt_of_block hk
    clear hs hb hk h1
    go_wp2_with fail
    refine (h2.out _ HB1.out).mono ?_
    rintro e w2 ⟨v2, rfl, hs, hb⟩
    have HB2 := Lib.hid (HB1.out.thru hb)
    have HE := Lib.hid (equalSameI w2 n1 v1 v2 (HS1.out.below hb (Nat.le_refl _)) hs)
    have HK2 := Lib.hid ((hb.block _ (lt_of_block HK1.out)).trans HK1.out)
    clear hs hb h2 c0 c1 hlt HS1 HK1
    go_wp2_with fail
    refine HE.out.mono ?_
    rintro e w3 ⟨rfl, hb⟩
    have HB3 := Lib.hid (HB2.out.thru hb)
    have HK3 := Lib.hid ((hb.block _ (lt_of_block HK2.out)).trans HK2.out)
    clear hb HE HK2
    go_wp2_with fail
    refine (h3.out _ HB3.out).mono ?_
    rintro e w4 ⟨v3, rfl, hs, hb⟩
    have HS4 := Lib.hid hs
    have HB4 := Lib.hid (HB3.out.thru hb)
    have HK4 := Lib.hid ((hb.block _ (lt_of_block HK3.out)).trans HK3.out)
    clear hs hb h3 HK3
    go_wp2_with fail
    refine (h4.out _ HB4.out).mono ?_
    rintro e w5 ⟨v4, rfl, hs, hb⟩
    have HB5 := Lib.hid (HB4.out.thru hb)
    have HE2 := Lib.hid (equalSameI w5 n4 v3 v4 (HS4.out.below hb (Nat.le_refl _)) hs)
    have HK5 := Lib.hid ((hb.block _ (lt_of_block HK4.out)).trans HK4.out)
    clear hs hb h4 HK4 HS4
    go_wp2_with fail
    refine HE2.out.mono ?_
    rintro e w6 ⟨rfl, hb⟩
    have HB6 := Lib.hid (HB5.out.thru hb)
    have hk := (hb.block _ (lt_of_block HK5.out)).trans HK5.out
    have HK6 := Lib.hid hk
    have c0 := (cell_of_block (i := 0) hk).trans rfl
    have c1 := (cell_of_block (i := 1) hk).trans rfl
    have hlt := lt_of_block hk
    clear hb hk HE2 HK5
    go_wp2_with fail
    refine (h5.out _ HB6.out).mono ?_
    rintro e w7 ⟨v5, rfl, hs, hb⟩
    have HS7 := Lib.hid hs
    have HB7 := Lib.hid (HB6.out.thru hb)
    have hk := (hb.block _ (lt_of_block HK6.out)).trans HK6.out
    clear c0 c1 hlt
    have c0 := (cell_of_block (i := 0) hk).trans rfl
    have c1 := (cell_of_block (i := 1) hk).trans rfl
    have hlt := lt_of_block hk
    clear hs hb hk h5 HK6
    go_wp2_with fail
    refine (h6.out _ HB7.out).mono ?_
    rintro e w8 ⟨v6, rfl, hs, hb⟩
    have HB8 := Lib.hid (HB7.out.thru hb)
    have HE3 := Lib.hid (equalSameW w8 n6 v5 v6 (HS7.out.below hb (Nat.le_refl _)) hs)
    clear hs hb h6 HS7 c0 c1 hlt
    go_wp2_with fail
    refine HE3.out.mono ?_
    rintro e w9 ⟨rfl, hb⟩
    have HB9 := Lib.hid (HB8.out.thru hb)
    clear hb HE3
    go_wp2_with fail
    refine (awake5_any _).mono ?_
    rintro e w10 ⟨rfl, hb⟩
    go_wp2
    go_ret
    exact ⟨rfl, HB9.out.thru hb⟩
end Go.Proofs.Ytlomnfaedhgciaa

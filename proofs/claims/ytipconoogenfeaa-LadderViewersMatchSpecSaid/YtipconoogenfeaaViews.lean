/- LadderViewersMatchSpec: the walk of the law. -/
import Derived.Test.YtipconoogenfeaaTk
import Derived.Test.YtipconoogenfeaaAwk5
namespace Go.Proofs.Ytipconoogenfeaa
open Go.RowKit

set_option maxHeartbeats 1000000 in
theorem views_any (w : World) (l : List Rng) (u : Value) (c : List Vw) (vc : Value) (v : Vw) (hl : Sl w 4 encR u l) (hw : ∀ x, x ∈ l → WfR x) (hc : Sl w 3 encV vc c) :
    Calls Try.prog 3 #[u, vc, .agg #[.int .i64 v.ra, .int .i64 v.he, .int .i64 v.we]] w fun e w' => e = .returned (.bool true) ∧ Below w.heap.size w w' := by
  have B0 := Lib.hid ((Below.refl w.heap.size w).alloc (Nat.le_refl _) (.cells #[.int .i64 v.ra, .int .i64 v.he, .int .i64 v.we] 25))
  have K0 := Lib.hid (block_new w (.cells #[.int .i64 v.ra, .int .i64 v.he, .int .i64 v.we] 25))
  have h1 := Lib.hid (fun (W : World) (hb : Below w.heap.size w W) => Takes_any W l u v (hl.below hb (Nat.le_refl _)) hw)
  have h2 := Lib.hid (fun (W : World) (hb : Below w.heap.size w W) => TakesR_any W l u v (hl.below hb (Nat.le_refl _)) hw)
  have h3 := Lib.hid (fun (W : World) (hb : Below w.heap.size w W) => checkCrowd_any W c vc (hc.below hb (Nat.le_refl _)))
  have h4 := Lib.hid (fun (W : World) (hb : Below w.heap.size w W) => checkCrowdR_any W c vc (hc.below hb (Nat.le_refl _)))
  have h5 := Lib.hid (fun (W : World) (hb : Below w.heap.size w W) => Worth_any W l u c vc (hl.below hb (Nat.le_refl _)) hw (hc.below hb (Nat.le_refl _)))
  have h6 := Lib.hid (fun (W : World) (hb : Below w.heap.size w W) => WorthR_any W l u c vc (hl.below hb (Nat.le_refl _)) hw (hc.below hb (Nat.le_refl _)))
  unfold TPost at h1 h2
  unfold WPost at h5 h6
  clear hl hw hc
  generalize takeI l v = n1 at h1 h2
  generalize takeB l v = n2 at h1 h2
  generalize checkRV l [v] = n3 at h1 h2
  generalize checkV c = n4 at h3 h4
  generalize worthF l c = n5 at h5 h6
  generalize checkRV l c = n6 at h5 h6
  go_enter Try.func3, Try.ntmps3
  go_upto_region 2 with (go_at_call 5; refine (h1.out _ B0.out).mono ?_; rintro e w1 ⟨rfl, hb⟩; have HB := Lib.hid (B0.out.thru hb); have hk := (hb.block w.heap.size (by simp)).trans K0.out; have HK := Lib.hid hk; have v0 := (cell_of_block (i := 0) hk).trans rfl; have v1 := (cell_of_block (i := 1) hk).trans rfl; have v2 := (cell_of_block (i := 2) hk).trans rfl; have hlw := lt_of_block hk; clear hb hk)
  cases n2
  all_goals
    go_wp2_with (first | (go_at_call 6; refine (h2.out _ HB.out).mono ?_; rintro e w2 ⟨rfl, hb⟩; have HB2 := Lib.hid (HB.out.thru hb); clear hb) | (go_at_call 7; refine (h3.out _ HB2.out).mono ?_; rintro e w3 ⟨rfl, hb⟩; have HB3 := Lib.hid (HB2.out.thru hb); clear hb) | (go_at_call 8; refine (h4.out _ HB3.out).mono ?_; rintro e w4 ⟨rfl, hb⟩; have HB4 := Lib.hid (HB3.out.thru hb); clear hb) | (go_at_call 9; refine (h5.out _ HB4.out).mono ?_; rintro e w5 ⟨rfl, hb⟩; have HB5 := Lib.hid (HB4.out.thru hb); clear hb) | (go_at_call 10; refine (h6.out _ HB5.out).mono ?_; rintro e w6 ⟨rfl, hb⟩; have HB6 := Lib.hid (HB5.out.thru hb); clear hb) | (go_at_call 11; refine (awake5_any _).mono ?_; rintro e w7 ⟨rfl, hb7⟩))
    go_ret
    exact ⟨rfl, HB6.out.thru hb7⟩

end Go.Proofs.Ytipconoogenfeaa

/- LadderRatesMatchSpec: Mean and Peak are as specified. -/
import Derived.Test.YtjfjilbogpcfjaaPeak2
import Derived.Laws.StructEq
namespace Go.Proofs.Ytjfjilbogpcfjaa
open Go.RowKit

theorem stoodRt : Try.prog.stoodInHeld 24 = false := by kernel_rfl
theorem guardRt : Try.prog.eqGuardType Try.prog.depth 24 = false := by kernel_rfl
theorem neqRt (x y : Int) (w : World) : (binOp .neq 24 (.agg #[.int .i64 x, .int .i64 y]) (.agg #[.int .i64 x, .int .i64 y])).run Try.prog w = .ok (.bool false) w := by
  have h1 := stoodRt
  simp [go_sem, h1]
theorem eqlRt (x y : Int) (w : World) : (binOp .eql 24 (.agg #[.int .i64 x, .int .i64 y]) (.agg #[.int .i64 x, .int .i64 y])).run Try.prog w = .ok (.bool true) w := by
  have h1 := stoodRt
  simp [go_sem, h1]

theorem two_setCell {w : World} {b : Nat} {a c x y : Value} {t : TypeId} (h : w.heap[b]? = some (.cells #[a, c] t (0, 0))) : ((w.setCell ⟨b, 0, none⟩ x).setCell ⟨b, 1, none⟩ y).heap[b]? = some (.cells #[x, y] t (0, 0)) :=
  heap_setCell_same _ b 1 #[x, c] t y (heap_setCell_same w b 0 #[a, c] t x h)

set_option maxRecDepth 100000 in
set_option maxHeartbeats 2000000 in
theorem rates_any (w : World) (s l : List Int) (u v : Value) (c lo hi : Int) (hs : Sl w 1 encI u s) (hl : Sl w 1 encI v l) :
    Calls Try.prog 3 #[u, v, .int .i64 c, .int .i64 lo, .int .i64 hi] w fun e w' => e = .returned (.bool true) ∧ Below w.heap.size w w' := by
  have h1 := fun (W : World) (hb : Below w.heap.size w W) => mean_any W s l u v c (hs.below hb (Nat.le_refl _)) (hl.below hb (Nat.le_refl _))
  have h2 := fun (W : World) (hb : Below w.heap.size w W) => meanR_any W s l u v c (hs.below hb (Nat.le_refl _)) (hl.below hb (Nat.le_refl _))
  have h3 := fun (W : World) (hb : Below w.heap.size w W) => peak_any W s l u v c lo hi (hs.below hb (Nat.le_refl _)) (hl.below hb (Nat.le_refl _))
  have h4 := fun (W : World) (hb : Below w.heap.size w W) => peakR_any W s l u v c lo hi (hs.below hb (Nat.le_refl _)) (hl.below hb (Nat.le_refl _))
  unfold RtP at h1 h2
  unfold Rt3 at h3 h4
  clear hs hl
  generalize mN s l c = n1 at h1 h2
  generalize mD s l c = n2 at h1 h2
  generalize mF s l c = n3 at h1 h2
  generalize pkN s l c lo hi = n4 at h3 h4
  generalize pkD s l c lo hi = n5 at h3 h4
  generalize pkB s l c lo hi = n6 at h3 h4
  generalize pkF s l c lo hi = n7 at h3 h4
  have hg := guardRt
  have ne1 := neqRt n1 n2
  have eq1 := eqlRt n4 n5
  cases n6
  all_goals
    go_enter Try.func3, Try.ntmps3
    go_wp2_with (go_at_call 5; refine (h1 _ (Below.refl _ _)).mono ?_; rintro e w1 ⟨rfl, hb1⟩)
    have HB1 := Lib.hid (hb1.alloc hb1.size (.cells #[.int .i64 n1, .int .i64 n2] 24))
    have HK1 := Lib.hid (block_new w1 (.cells #[.int .i64 n1, .int .i64 n2] 24))
    have hz1 := hb1.size
    have h2' := h2 _ HB1.out
    clear hb1 h1 h2
    refine h2'.mono ?_
    rintro e w2 ⟨rfl, hb2⟩
    have hk2 := (hb2.block w1.heap.size (by simp)).trans HK1.out
    have HK2 := Lib.hid hk2
    have hl2 := lt_of_block hk2
    have c0 := (cell_of_block (i := 0) hk2).trans rfl
    have c1 := (cell_of_block (i := 1) hk2).trans rfl
    have HB2 := Lib.hid ((HB1.out.thru hb2).alloc (by have := hb2.size; simp at this; omega) (.cells #[.int .i64 n1, .int .i64 n2] 24))
    have HL1 := Lib.hid ((Below.heap_alloc w2 (.cells #[.int .i64 n1, .int .i64 n2] 24) _ hl2).trans hk2)
    have HL2 := Lib.hid (block_new w2 (.cells #[.int .i64 n1, .int .i64 n2] 24))
    have h3' := h3 _ HB2.out
    clear hb2 hk2 h2' h3
    go_wp2_with (go_at_call 7; refine h3'.mono ?_; rintro e w3 ⟨rfl, hb3⟩; have hk3 := (hb3.block w1.heap.size (by simp; omega)).trans HL1.out; have hk4 := (hb3.block w2.heap.size (by simp)).trans HL2.out; have d0 := (cell_of_block (i := 0) hk3).trans rfl; have d1 := (cell_of_block (i := 1) hk3).trans rfl; have f0 := froz_of_block (i := 0) hk3; have f1 := froz_of_block (i := 1) hk3; have HK3 := Lib.hid hk3; have HK4 := Lib.hid hk4; have HB3 := Lib.hid (HB2.out.thru hb3); have hz3 := hb3.size; simp at hz3; clear hb3 hk3 hk4 h3')
    have hle1 : w.heap.size ≤ w1.heap.size := hz1
    have HB4 := Lib.hid ((HB3.out.setCell (p := ⟨w1.heap.size, 0, none⟩) hle1 (.int .i64 n4)).setCell (p := ⟨w1.heap.size, 1, none⟩) hle1 (.int .i64 n5))
    have HM1 := Lib.hid (two_setCell (x := .int .i64 n4) (y := .int .i64 n5) HK3.out)
    have HM2 := Lib.hid ((Below.heap_setCell _ ⟨w1.heap.size, 1, none⟩ (.int .i64 n5) w2.heap.size (by show w2.heap.size ≠ w1.heap.size; omega)).trans ((Below.heap_setCell w3 ⟨w1.heap.size, 0, none⟩ (.int .i64 n4) w2.heap.size (by show w2.heap.size ≠ w1.heap.size; omega)).trans HK4.out))
    have h4' := h4 _ HB4.out
    clear h4 d0 d1 f0 f1 c0 c1
    refine h4'.mono ?_
    rintro e w4 ⟨rfl, hb4⟩
    have hk5 := (hb4.block w1.heap.size (by simp; omega)).trans HM1.out
    have hk6 := (hb4.block w2.heap.size (by simp; omega)).trans HM2.out
    have d0 := (cell_of_block (i := 0) hk5).trans rfl
    have d1 := (cell_of_block (i := 1) hk5).trans rfl
    have c0 := (cell_of_block (i := 0) hk6).trans rfl
    have c1 := (cell_of_block (i := 1) hk6).trans rfl
    have f0 := froz_of_block (i := 0) hk6
    have f1 := froz_of_block (i := 1) hk6
    have hne : ¬ w1.heap.size = w2.heap.size := by omega
    have hne2 : ¬ w2.heap.size = w1.heap.size := by omega
    have hle2 : w.heap.size ≤ w2.heap.size := by omega
    have HB5 := Lib.hid ((HB4.out.thru hb4).setCell (p := ⟨w2.heap.size, 0, none⟩) hle2 (.int .i64 n4) |>.setCell (p := ⟨w2.heap.size, 1, none⟩) hle2 (.int .i64 n5))
    clear hb4 hk5 hk6 h4'
    go_wp2_with (go_at_call 9; refine (awake5_any _).mono ?_; rintro e w6 ⟨rfl, hb6⟩)
    go_ret
    exact ⟨rfl, HB5.out.thru hb6⟩
end Go.Proofs.Ytjfjilbogpcfjaa

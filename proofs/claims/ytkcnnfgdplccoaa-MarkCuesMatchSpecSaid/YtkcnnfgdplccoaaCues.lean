/- MarkCuesMatchSpec: Sum, CheckCue and CueBytes are as specified. -/
import Derived.Test.YtkcnnfgdplccoaaRCb8
import Derived.Test.YtkcnnfgdplccoaaBytE
import Derived.Test.YtkcnnfgdplccoaaRSum
import Derived.Deep.RegionHeld3
namespace Go.Proofs.Ytkcnnfgdplccoaa
open Go.RowKit

set_option maxRecDepth 100000 in
set_option maxHeartbeats 4000000 in
theorem cues_any (w : World) (c : Cue) (l : List UInt8) (v : Value) (hl : Sl w 1 encU v l) :
    Calls Try.prog 4 #[agC c, v] w fun e w' => e = .returned (.bool true) ∧ Below w.heap.size w w' := by
  have HB0 := Lib.hid ((Below.refl w.heap.size w).alloc (Nat.le_refl _) (boxC c))
  have HK0 := Lib.hid (block_new w (boxC c))
  have HL := Lib.hid hl
  have HC1 := Lib.hid (fun W => CueBytes_any c W)
  have HC2 := Lib.hid (fun W => CueBytesR_any c W)
  have HK1 := Lib.hid (fun W => checkCue_any c W)
  have HK2 := Lib.hid (fun W => checkCueR_any c W)
  clear hl
  generalize cueR c = R at HC1 HC2
  generalize checkC c = F at HC1 HC2 HK1 HK2
  obtain ⟨ki, ev, no, ti, le, au⟩ := c
  go_enter Try.func4, Try.ntmps4
  go_wp2_with fail
  refine (HC1.out _).mono ?_
  rintro e w1 ⟨x, rfl, hx, hb⟩
  have HB1 := Lib.hid (HB0.out.thru hb)
  have hk1 := (hb.block _ (lt_of_block HK0.out)).trans HK0.out
  have HX1 := Lib.hid hx
  have HKA := Lib.hid hk1
  have b0 := (cell_of_block (i := 0) hk1).trans rfl
  have b1 := (cell_of_block (i := 1) hk1).trans rfl
  have b2 := (cell_of_block (i := 2) hk1).trans rfl
  have b3 := (cell_of_block (i := 3) hk1).trans rfl
  have b4 := (cell_of_block (i := 4) hk1).trans rfl
  have b5 := (cell_of_block (i := 5) hk1).trans rfl
  have hlb := lt_of_block hk1
  clear hx hb hk1
  go_wp2_with fail
  refine (HC2.out _).mono ?_
  rintro e w2 ⟨y, rfl, hy, hb⟩
  have HB2 := Lib.hid (HB1.out.thru hb)
  have HX2 := Lib.hid (HX1.out.below hb (Nat.le_refl _))
  have HY2 := Lib.hid hy
  have hk2 := (hb.block _ (lt_of_block HKA.out)).trans HKA.out
  have HKB := Lib.hid hk2
  have HLL := Lib.hid (HL.out.below HB2.out (Nat.le_refl _))
  clear hy hb b0 b1 b2 b3 b4 b5 hlb hk2
  have hlt := lt_of_block HKB.out
  have HSS : Hid (∀ W : World, Below w2.heap.size w2 W → (W.cell? ⟨w.heap.size, 0, none⟩ = some (.int .i64 ki) ∧ W.cell? ⟨w.heap.size, 1, none⟩ = some (.int .i64 ev) ∧ W.cell? ⟨w.heap.size, 2, none⟩ = some (.bool no) ∧ W.cell? ⟨w.heap.size, 3, none⟩ = some (.int .i64 ti) ∧ W.cell? ⟨w.heap.size, 4, none⟩ = some (.int .i64 le) ∧ W.cell? ⟨w.heap.size, 5, none⟩ = some (.bool au))) := Lib.hid (fun W hb =>
    ⟨(hb.cell (p := ⟨w.heap.size, 0, none⟩) hlt).trans ((cell_of_block (i := 0) HKB.out).trans rfl), (hb.cell (p := ⟨w.heap.size, 1, none⟩) hlt).trans ((cell_of_block (i := 1) HKB.out).trans rfl), (hb.cell (p := ⟨w.heap.size, 2, none⟩) hlt).trans ((cell_of_block (i := 2) HKB.out).trans rfl),
     (hb.cell (p := ⟨w.heap.size, 3, none⟩) hlt).trans ((cell_of_block (i := 3) HKB.out).trans rfl), (hb.cell (p := ⟨w.heap.size, 4, none⟩) hlt).trans ((cell_of_block (i := 4) HKB.out).trans rfl), (hb.cell (p := ⟨w.heap.size, 5, none⟩) hlt).trans ((cell_of_block (i := 5) HKB.out).trans rfl)⟩)
  have t1 := Lib.hid (fun (W : World) (hb : Below w2.heap.size w2 W) => sum_any W l v (HLL.out.below hb (Nat.le_refl _)))
  have t2 := Lib.hid (fun (W : World) (hb : Below w2.heap.size w2 W) => sumR_any W l v (HLL.out.below hb (Nat.le_refl _)))
  have t3 := Lib.hid (fun (W : World) (hb : Below w2.heap.size w2 W) => bytesEqual_any W R R x y (HX2.out.below hb (Nat.le_refl _)) (HY2.out.below hb (Nat.le_refl _)))
  generalize crc l = S at t1 t2
  have hbc : Below w2.heap.size w2 w2.drew := (Below.refl _ w2).drew
  go_upto_region 10 with (fail)
  go_region_held3 (fun W => W.cell? ⟨w.heap.size, 0, none⟩ = some (.int .i64 ki) ∧ W.cell? ⟨w.heap.size, 1, none⟩ = some (.int .i64 ev) ∧ W.cell? ⟨w.heap.size, 2, none⟩ = some (.bool no) ∧ W.cell? ⟨w.heap.size, 3, none⟩ = some (.int .i64 ti) ∧ W.cell? ⟨w.heap.size, 4, none⟩ = some (.int .i64 le) ∧ W.cell? ⟨w.heap.size, 5, none⟩ = some (.bool au))
    (first | exact HSS.out _ hbc | fail "keep")
    (first | (go_at_call 7; ((with_reducible refine (t1.out _ hbc).mono ?_); rintro e w' ⟨rfl, rfl⟩))
           | (go_at_call 12; ((with_reducible refine (t2.out _ hbc).mono ?_); rintro e w' ⟨rfl, rfl⟩))
           | (go_at_call 13; ((with_reducible refine (HK1.out _).mono ?_); rintro e w' ⟨rfl, hb⟩; replace hbc := hbc.thru hb; clear hb))
           | (go_at_call 14; ((with_reducible refine (HK2.out _).mono ?_); rintro e w' ⟨rfl, hb⟩; replace hbc := hbc.thru hb; clear hb))
           | (go_at_call 15; ((with_reducible refine (t3.out _ hbc).mono ?_); rintro e w' ⟨rfl, rfl⟩))
           | (go_at_call 9; ((with_reducible refine (awake_any _).mono ?_); rintro e w' ⟨rfl, hb⟩; replace hbc := hbc.thru hb; clear hb)) | fail "arms")
  all_goals
    go_wp2
    go_ret
    exact ⟨by simp, HB2.out.thru hbc⟩
end Go.Proofs.Ytkcnnfgdplccoaa

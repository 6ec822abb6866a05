/- comes, of the statements through the layers. -/
import Derived.Test.YtehbmnkbmgnkfaaGreatDoorB02
namespace Go.Proofs.YtehbmnkbmgnkfaaGreatDoor
open Go.RowKit

structure Flw where
  ti : Int
  ra : Int
def encFl (x : Flw) : List Value := [.int .i64 x.ti, .int .i64 x.ra]
theorem encFl_len (x : Flw) : (encFl x).length = 2 := rfl
def oneFl (w : World) (b : Nat) : Prop := w.heap[b]? = some (.cells #[.int .i64 0, .int .i64 2] 66 (0, 0))
theorem oneFl.below {w W : World} {b : Nat} (h : oneFl w b) (hb : Below w.heap.size w W) : oneFl W b := (hb.block _ (Array.getElem?_eq_some_iff.1 h).1).trans h

set_option maxHeartbeats 1000000 in
theorem endOf1 (w : World) (b : Nat) : Calls Tryz.prog 58 #[.slice (some ⟨b, 0, none⟩) 1 1, .int .i64 0] w fun e w' => e = .returned (.int .i64 1152921504606846976) ∧ w = w' := by
  go_enter Tryz.func58, Tryz.ntmps58
  go_wp2
  go_ret
  exact ⟨rfl, rfl⟩
set_option maxHeartbeats 1000000 in
theorem checkTr1 (w : World) (b : Nat) (h : oneFl w b) : Calls Tryz.prog 30 #[.slice (some ⟨b, 0, none⟩) 1 1] w fun e w' => e = .returned (.int .i64 0) ∧ Below w.heap.size w w' := by
  have H := Lib.hid h
  clear h
  go_enter Tryz.func30, Tryz.ntmps30
  go_wp2
  go_loopg [15] 1 (fun gg s15 wr => ∃ kk : Nat, kk ≤ 1 ∧ 1 - kk ≤ gg ∧ s15 = .int .i64 kk ∧ Aside (Below w.heap.size w wr))
  case atStart => exact ⟨0, by omega, by omega, rfl, Below.refl _ w⟩
  case round =>
    obtain ⟨kk, hkk, hg, rfl, BW⟩ := hrel
    have hB := H.out.below BW.out
    have c0 := (cell_of_block (i := 0) hB).trans rfl
    have c1 := (cell_of_block (i := 1) hB).trans rfl
    clear hB
    by_cases hlt : kk = 0
    · subst hlt
      obtain ⟨w2, hw2⟩ : ∃ w2, w2 = wr.alloc (.cells #[.int .i64 0, .int .i64 2] 66) := ⟨_, rfl⟩
      have hB2 : Below w.heap.size w w2 := by rw [hw2]; exact BW.out.alloc BW.out.size _
      have hK2 := by have := block_new wr (.cells #[.int .i64 0, .int .i64 2] 66); rw [← hw2] at this; exact this
      have HB2 := Lib.hid hB2
      have HK2 := Lib.hid hK2
      clear hB2 hK2
      go_wp2_with (go_at_call 20; refine (out_any _ _ _ _).mono ?_; rintro e w' ⟨rfl, rfl⟩)
      rw [← hw2]
      have d0 := (cell_of_block (i := 0) HK2.out).trans rfl
      have d1 := (cell_of_block (i := 1) HK2.out).trans rfl
      clear hw2
      have hund : undef = Value.tuple #[] := rfl
      go_quiet (fail)
      clear hund
      have e0 := (cell_of_block (w := w2.drewN nq) (i := 0) HK2.out).trans rfl
      have e1 := (cell_of_block (w := w2.drewN nq) (i := 1) HK2.out).trans rfl
      have HB3 : Hid (Below w.heap.size w (w2.drewN nq)) := Lib.hid (below_drewN HB2.out _)
      clear d0 d1
      go_wp2_with (go_at_call 20; refine (out_any _ _ _ _).mono ?_; rintro e w' ⟨rfl, rfl⟩)
      go_roundg 0
      case measure => omega
      case rel => exact ⟨1, by omega, by omega, by go_num, HB3.out⟩
    · obtain rfl : kk = 1 := by omega
      go_wp2
      go_ret
      exact ⟨rfl, BW.out⟩
set_option maxHeartbeats 1000000 in
theorem came1 (w : World) (b : Nat) (h : oneFl w b) : Calls Tryz.prog 31 #[.slice (some ⟨b, 0, none⟩) 1 1, .int .i64 0, .int .i64 3] w fun e w' => e = .returned (.int .i64 6) ∧ Below w.heap.size w w' := by
  have H := Lib.hid h
  clear h
  go_enter Tryz.func31, Tryz.ntmps31
  go_wp2
  go_loopg [7, 12] 1 (fun gg s7 s12 wr => ∃ kk : Nat, kk ≤ 1 ∧ 1 - kk ≤ gg ∧ s12 = .int .i64 kk ∧ s7 = .int .i64 (6 * kk) ∧ Aside (Below w.heap.size w wr))
  case atStart => exact ⟨0, by omega, by omega, rfl, rfl, Below.refl _ w⟩
  case round =>
    obtain ⟨kk, hkk, hg, rfl, rfl, BW⟩ := hrel
    have hB := H.out.below BW.out
    have c0 := (cell_of_block (i := 0) hB).trans rfl
    have c1 := (cell_of_block (i := 1) hB).trans rfl
    clear hB
    by_cases hlt : kk = 0
    · subst hlt
      obtain ⟨w2, hw2⟩ : ∃ w2, w2 = wr.alloc (.cells #[.int .i64 0, .int .i64 2] 66) := ⟨_, rfl⟩
      have hB2 : Below w.heap.size w w2 := by rw [hw2]; exact BW.out.alloc BW.out.size _
      have hK2 := by have := block_new wr (.cells #[.int .i64 0, .int .i64 2] 66); rw [← hw2] at this; exact this
      have HB2 := Lib.hid hB2
      have HK2 := Lib.hid hK2
      have HE := Lib.hid (fun W => endOf1 W b)
      clear hB2 hK2
      go_wp2_with fail
      rw [← hw2]
      have d0 := (cell_of_block (i := 0) HK2.out).trans rfl
      have d1 := (cell_of_block (i := 1) HK2.out).trans rfl
      clear hw2
      go_quiet ((go_at_call 58; exact Calls.quiet_of_same ((HE.out _).mono fun _ _ h => ⟨h.1, h.2.symm⟩)))
      have HB3 : Hid (Below w.heap.size w (w2.drewN nq)) := Lib.hid (below_drewN HB2.out _)
      clear d0 d1
      go_wp2
      go_roundg 0
      case measure => omega
      case rel => exact ⟨1, by omega, by omega, by go_num, by first | rfl | go_num, HB3.out⟩
    · obtain rfl : kk = 1 := by omega
      go_wp2
      go_ret
      exact ⟨rfl, BW.out⟩
set_option maxHeartbeats 1000000 in
theorem cameP1 (w : World) (b : Nat) (h : oneFl w b) : Calls Tryz.prog 12 #[.slice (some ⟨b, 0, none⟩) 1 1, .int .i64 0, .int .i64 3] w fun e w' => e = .returned (.tuple #[.int .i64 6, .int .i64 0]) ∧ Below w.heap.size w w' := by
  have H1 := Lib.hid (checkTr1 w b h)
  have H2 := Lib.hid (fun W (hb : Below w.heap.size w W) => came1 W b (h.below hb))
  clear h
  go_enter Tryz.func12, Tryz.ntmps12
  go_wp2_with fail
  refine H1.out.mono ?_
  rintro e w1 ⟨rfl, hb1⟩
  have HB1 := Lib.hid hb1
  clear hb1
  go_wp2_with fail
  refine (H2.out _ HB1.out).mono ?_
  rintro e w2 ⟨rfl, hb2⟩
  have HB2 := Lib.hid (HB1.out.thru hb2)
  clear hb2
  go_wp2
  go_ret2
  exact ⟨rfl, HB2.out⟩
theorem comes_any (w : World) : Calls Tryz.prog 5 #[] w fun e w' => e = .returned (.bool true) ∧ Below w.heap.size w w' := by
  have H1 := Lib.hid (fun (W : World) (hb : Below w.heap.size w W) => cameP1 (W.alloc (.cells #[.int .i64 0, .int .i64 2] 66)) W.heap.size (block_new W _))
  have HB0 : Hid (Below w.heap.size w (w.alloc (.cells #[.int .i64 0, .int .i64 2] 66))) := Lib.hid ((Below.refl _ w).alloc (Nat.le_refl _) _)
  go_enter Tryz.func5, Tryz.ntmps5
  go_wp2_with (go_at_call 12; refine (H1.out w (Below.refl _ _)).mono ?_; rintro e w1 ⟨rfl, hb1⟩; have HB1 := Lib.hid (HB0.out.thru hb1); clear hb1)
  go_ret
  exact ⟨rfl, HB1.out⟩
end Go.Proofs.YtehbmnkbmgnkfaaGreatDoor

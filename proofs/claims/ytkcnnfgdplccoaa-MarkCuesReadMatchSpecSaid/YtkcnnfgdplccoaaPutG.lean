/- putFields: the walk. -/
import Derived.Test.YtkcnnfgdplccoaaPutF
namespace Go.Proofs.Ytkcnnfgdplccoaa
open Go.RowKit

theorem BL.alloc {w : World} {P : Nat} {L : List Bool} {v : Value} (h : BL w P L v) (o : Obj) : BL (w.alloc o) P L v := ⟨(Below.heap_alloc w o P (lt_of_block h.1)).trans h.1, h.2.al o⟩
theorem KeepP.alloc {P : Nat} (w : World) (o : Obj) : KeepP P w (w.alloc o) := fun b _ _ _ h1 _ _ => (Below.heap_alloc w o b (lt_of_block h1)).trans h1
/-- put, with the numbers as they stand in the text. -/
theorem putL (m : Int) (many : Nat) (hm' : m = many) (w : World) (P : Nat) (L : List Bool) (v : Value) (n : Nat) (hb : BL w P L v) (hm : many ≤ 60) (hn : n < 1152921504606846976) (hL : L.length ≤ 1000) :
    Calls Try.prog 19 #[.pointer (some ⟨P, 0, none⟩), .int .i64 n, .int .i64 m] w (PutP w P (L ++ bitsN n many)) := by
  subst hm'
  exact put_any w P L v n many hb hm hn hL

set_option maxRecDepth 100000 in
set_option maxHeartbeats 4000000 in
theorem putF_nn (w : World) (P : Nat) (v : Value) (k e t q : Nat) (no au : Bool) (hb : BL w P [] v) (hk : k ≤ 3) (he : e ≤ 4294967295) (ht : t ≤ 8589934591) (hq : q ≤ 8589934591) :
    Calls Try.prog 18 #[.pointer (some ⟨P, 0, none⟩), agC ⟨k, e, no, t, q, au⟩] w (PutP w P (padO (fieldsL ⟨k, e, no, t, q, au⟩))) := by
  have hPl := lt_of_block hb.1
  have HB1 := Lib.hid (hb.alloc (boxC ⟨k, e, no, t, q, au⟩))
  have HK1 := Lib.hid (block_new w (boxC ⟨k, e, no, t, q, au⟩))
  have HW1 : Hid (Below P w (w.alloc (boxC ⟨k, e, no, t, q, au⟩))) := Lib.hid ((Below.refl P w).alloc (Nat.le_of_lt hPl) _)
  have HKP1 := Lib.hid (KeepP.alloc (P := P) w (boxC ⟨k, e, no, t, q, au⟩))
  have HF : Hid (fieldsL ⟨k, e, no, t, q, au⟩ = bitsN k 3 ++ ((if k = 0 then [] else bitsN e 32) ++ ((if k = 1 ∨ k = 2 then [no] ++ (if no then [] else bitsN t 33) else []) ++ (if k = 1 then [au] ++ bitsN q 33 else [])))) := Lib.hid (by
    unfold fieldsL
    simp only [Int.toNat_natCast]
    have e0 : ((k : Int) = 0) = (k = 0) := by simp
    have e1 : ((k : Int) = 1) = (k = 1) := by rw [eq_iff_iff]; omega
    have e2 : ((k : Int) = 2) = (k = 2) := by rw [eq_iff_iff]; omega
    simp only [e0, e1, e2])
  have HL := Lib.hid (fieldsL_len ⟨k, e, no, t, q, au⟩)
  generalize fieldsL ⟨k, e, no, t, q, au⟩ = FL at HF HL ⊢
  obtain ⟨X1, hX1⟩ : ∃ X1, X1 = if k = 0 then [] else bitsN e 32 := ⟨_, rfl⟩
  obtain ⟨X2, hX2⟩ : ∃ X2, X2 = if k = 1 ∨ k = 2 then [no] ++ (if no then [] else bitsN t 33) else [] := ⟨_, rfl⟩
  obtain ⟨X3, hX3⟩ : ∃ X3, X3 = if k = 1 then [au] ++ bitsN q 33 else [] := ⟨_, rfl⟩
  rw [← hX1, ← hX2, ← hX3] at HF
  have HX1 := Lib.hid hX1
  have HX2 := Lib.hid hX2
  have HX3 := Lib.hid hX3
  clear hX1 hX2 hX3
  have hBP : w.heap.size ≠ P := by omega
  clear hb
  go_enter Try.func18, Try.ntmps18
  go_wp2_with fail
  refine (putL 3 3 rfl _ P [] v k HB1.out (by omega) (by omega) (by simp)).mono ?_
  rintro e1 w2 ⟨rfl, ⟨v2, hb2⟩, hw2, hk2⟩
  have HB2 := Lib.hid hb2
  have HW2 := Lib.hid (HW1.out.trans hw2)
  have HKP2 := Lib.hid (HKP1.out.trans hk2)
  have HK2 := Lib.hid (hk2 _ _ _ _ HK1.out (by decide) hBP)
  clear hb2 hw2 hk2 HB1 HW1 HKP1
  have b0 := (cell_of_block (i := 0) HK2.out).trans rfl
  have b1 := (cell_of_block (i := 1) HK2.out).trans rfl
  have hlb := lt_of_block HK2.out
  go_upto_if 10 with (fail)
  go_cut [10] (fun s10 w4 => ∃ v4, Aside (BL w4 P ([] ++ bitsN k 3 ++ X1) v4) ∧ Aside (Below P w w4) ∧ Aside (KeepP P w w4) ∧ Aside (w4.heap[w.heap.size]? = some (boxC ⟨k, e, no, t, q, au⟩)))
  case first =>
    by_cases h0 : k = 0
    · have HI : Hid (X1 = []) := Lib.hid (by rw [HX1.out, if_pos h0])
      subst h0
      go_wp2
      go_meet
      exact ⟨v2, by rw [HI.out, List.append_nil]; exact HB2.out, HW2.out, HKP2.out, HK2.out⟩
    · have hd : ((k : Int) != 0) = true := by simp; omega
      have HI : Hid (X1 = bitsN e 32) := Lib.hid (by rw [HX1.out, if_neg h0])
      clear h0
      go_wp2_with fail
      refine (putL 32 32 rfl _ P _ v2 e HB2.out (by omega) (by omega) (by simp [bitsN_len])).mono ?_
      rintro e1 w3 ⟨rfl, ⟨v3, hb3⟩, hw3, hk3⟩
      have HB3 := Lib.hid hb3
      have HW3 := Lib.hid (HW2.out.trans hw3)
      have HKP3 := Lib.hid (HKP2.out.trans hk3)
      have HK3 := Lib.hid (hk3 _ _ _ _ HK2.out (by decide) hBP)
      clear hb3 hw3 hk3
      go_wp2
      go_meet
      exact ⟨v3, by rw [HI.out]; exact HB3.out, HW3.out, HKP3.out, HK3.out⟩
  obtain ⟨v4, hb4, hw4, hkp4, hk4⟩ := hcut
  obtain ⟨w4, rfl⟩ : ∃ w4, w4 = wc := ⟨_, rfl⟩
  generalize hL1 : [] ++ bitsN k 3 ++ X1 = L1 at hb4
  have HL1 := Lib.hid hL1
  have HB4 := Lib.hid hb4.out
  have HW4 := Lib.hid hw4.out
  have HKP4 := Lib.hid hkp4.out
  have HK4 := Lib.hid hk4.out
  have hl1 : L1.length ≤ 35 := by rw [← HL1.out, HX1.out]; simp only [List.length_append, bitsN_len, List.length_nil]; split <;> simp [bitsN_len]
  clear hb4 hw4 hkp4 hk4 hL1 b0 b1 hlb HB2 HW2 HKP2 HK2
  have b0 := (cell_of_block (i := 0) HK4.out).trans rfl
  have b2 := (cell_of_block (i := 2) HK4.out).trans rfl
  have b3 := (cell_of_block (i := 3) HK4.out).trans rfl
  have hlb := lt_of_block HK4.out
  go_upto_region 4 with (fail)
  go_cut [22] (fun s22 w5 => s22 = .bool (decide (k = 1) || decide (k = 2)) ∧ w4 = w5)
  case first =>
    by_cases h1 : k = 1
    · subst h1
      go_wp2
      go_meet
      exact ⟨rfl, rfl⟩
    · have hd : ((k : Int) == 1) = false := by rw [beq_eq_false_iff_ne]; omega
      have he : ((k : Int) == 2) = decide (k = 2) := by rw [Bool.eq_iff_iff]; simp; omega
      have hf : decide (k = 1) = false := decide_eq_false h1
      go_wp2
      go_meet
      exact ⟨by rw [hf]; rfl, rfl⟩
  obtain ⟨rfl, rfl⟩ := hcut
  go_upto_if 22 with (fail)
  go_cut [22] (fun s22 w5 => ∃ v5, Aside (BL w5 P (L1 ++ X2) v5) ∧ Aside (Below P w w5) ∧ Aside (KeepP P w w5) ∧ Aside (w5.heap[w.heap.size]? = some (boxC ⟨k, e, no, t, q, au⟩)))
  case first =>
    by_cases h12 : k = 1 ∨ k = 2
    · have hd : (decide (k = 1) || decide (k = 2)) = true := by simpa using h12
      rw [hd]
      have HI : Hid (X2 = [no] ++ (if no then [] else bitsN t 33)) := Lib.hid (by rw [HX2.out, if_pos h12])
      clear hd h12
      go_wp2_with (go_at_call 29; refine (flag_any no _).mono ?_; rintro e w' ⟨rfl, rfl⟩)
      refine (putL 1 1 rfl _ P L1 v4 (b01 no) HB4.out (by omega) (by have := b01_lt no; omega) (by omega)).mono ?_
      rintro e1 w5 ⟨rfl, ⟨v5, hb5⟩, hw5, hk5⟩
      rw [bitsN_one] at hb5
      have HB5 := Lib.hid hb5
      have HW5 := Lib.hid (HW4.out.trans hw5)
      have HKP5 := Lib.hid (HKP4.out.trans hk5)
      have HK5 := Lib.hid (hk5 _ _ _ _ HK4.out (by decide) hBP)
      clear hb5 hw5 hk5 b0 b2 b3 hlb
      have b2 := (cell_of_block (i := 2) HK5.out).trans rfl
      have b3 := (cell_of_block (i := 3) HK5.out).trans rfl
      have hlb := lt_of_block HK5.out
      cases no
      case true =>
        have HI2 : Hid (X2 = [true]) := Lib.hid (by rw [HI.out]; rfl)
        go_wp2
        go_meet
        exact ⟨v5, by rw [HI2.out]; exact HB5.out, HW5.out, HKP5.out, HK5.out⟩
      case false =>
        have HI2 : Hid (X2 = [false] ++ bitsN t 33) := Lib.hid (by rw [HI.out]; rfl)
        go_wp2_with fail
        refine (putL 33 33 rfl _ P _ v5 t HB5.out (by omega) (by omega) (by simp; omega)).mono ?_
        rintro e1 w6 ⟨rfl, ⟨v6, hb6⟩, hw6, hk6⟩
        rw [List.append_assoc] at hb6
        have HB6 := Lib.hid hb6
        have HW6 := Lib.hid (HW5.out.trans hw6)
        have HKP6 := Lib.hid (HKP5.out.trans hk6)
        have HK6 := Lib.hid (hk6 _ _ _ _ HK5.out (by decide) hBP)
        clear hb6 hw6 hk6
        go_wp2
        go_meet
        exact ⟨v6, by rw [HI2.out]; exact HB6.out, HW6.out, HKP6.out, HK6.out⟩
    · have hd : (decide (k = 1) || decide (k = 2)) = false := by simpa using h12
      rw [hd]
      have HI : Hid (X2 = []) := Lib.hid (by rw [HX2.out, if_neg h12])
      clear hd h12
      go_wp2
      go_meet
      exact ⟨v4, by rw [HI.out, List.append_nil]; exact HB4.out, HW4.out, HKP4.out, HK4.out⟩
  obtain ⟨v5, hb5, hw5, hkp5, hk5⟩ := hcut
  obtain ⟨w5, rfl⟩ : ∃ w5, w5 = wc := ⟨_, rfl⟩
  generalize hL2 : L1 ++ X2 = L2 at hb5
  have HL2 := Lib.hid hL2
  have HB5 := Lib.hid hb5.out
  have HW5 := Lib.hid hw5.out
  have HKP5 := Lib.hid hkp5.out
  have HK5 := Lib.hid hk5.out
  have hl2 : L2.length ≤ 69 := by rw [← HL2.out, HX2.out]; simp only [List.length_append]; split <;> (try split) <;> simp [bitsN_len] <;> omega
  clear hb5 hw5 hkp5 hk5 hL2 b0 b2 b3 hlb HB4 HW4 HKP4 HK4
  have b0 := (cell_of_block (i := 0) HK5.out).trans rfl
  have b4 := (cell_of_block (i := 4) HK5.out).trans rfl
  have b5 := (cell_of_block (i := 5) HK5.out).trans rfl
  have hlb := lt_of_block HK5.out
  go_upto_if 37 with (fail)
  go_cut [37] (fun s37 w6 => ∃ v6, Aside (BL w6 P (L2 ++ X3) v6) ∧ Aside (Below P w w6) ∧ Aside (KeepP P w w6))
  case first =>
    by_cases h1 : k = 1
    · have HI : Hid (X3 = [au] ++ bitsN q 33) := Lib.hid (by rw [HX3.out, if_pos h1])
      subst h1
      go_wp2_with (go_at_call 29; refine (flag_any au _).mono ?_; rintro e w' ⟨rfl, rfl⟩)
      refine (putL 1 1 rfl _ P L2 v5 (b01 au) HB5.out (by omega) (by have := b01_lt au; omega) (by omega)).mono ?_
      rintro e1 w6 ⟨rfl, ⟨v6, hb6⟩, hw6, hk6⟩
      rw [bitsN_one] at hb6
      have HB6 := Lib.hid hb6
      have HW6 := Lib.hid (HW5.out.trans hw6)
      have HKP6 := Lib.hid (HKP5.out.trans hk6)
      have HK6 := Lib.hid (hk6 _ _ _ _ HK5.out (by decide) hBP)
      clear hb6 hw6 hk6 b0 b4 b5 hlb
      have b4 := (cell_of_block (i := 4) HK6.out).trans rfl
      have hlb := lt_of_block HK6.out
      go_wp2_with fail
      refine (putL 33 33 rfl _ P _ v6 q HB6.out (by omega) (by omega) (by simp; omega)).mono ?_
      rintro e1 w7 ⟨rfl, ⟨v7, hb7⟩, hw7, hk7⟩
      rw [List.append_assoc] at hb7
      have HB7 := Lib.hid hb7
      have HW7 := Lib.hid (HW6.out.trans hw7)
      have HKP7 := Lib.hid (HKP6.out.trans hk7)
      clear hb7 hw7 hk7
      go_wp2
      go_meet
      exact ⟨v7, by rw [HI.out]; exact HB7.out, HW7.out, HKP7.out⟩
    · have hd : ((k : Int) == 1) = false := by rw [beq_eq_false_iff_ne]; omega
      have HI : Hid (X3 = []) := Lib.hid (by rw [HX3.out, if_neg h1])
      clear h1
      go_wp2
      go_meet
      exact ⟨v5, by rw [HI.out, List.append_nil]; exact HB5.out, HW5.out, HKP5.out⟩
  obtain ⟨v6, hb6, hw6, hkp6⟩ := hcut
  obtain ⟨w6, rfl⟩ : ∃ w6, w6 = wc := ⟨_, rfl⟩
  have HFL : Hid (L2 ++ X3 = FL) := Lib.hid (by rw [HF.out, ← HL2.out, ← HL1.out]; simp only [List.nil_append, List.append_assoc])
  have HB6 : Hid (BL w6 P FL v6) := Lib.hid (by rw [← HFL.out]; exact hb6.out)
  have HW6 := Lib.hid hw6.out
  have HKP6 := Lib.hid hkp6.out
  have hfl := HL.out
  clear hb6 hw6 hkp6 b0 b4 b5 hlb HB5 HW5 HKP5 HK5
  go_wp2
  go_loopg [52] 8 (fun gg _ wr => ∃ (M : List Bool) (u : Value), (8 - M.length % 8) % 8 ≤ gg ∧ M.length ≤ 112 ∧ (M.length ≤ 103 ∨ M.length % 8 ≠ 1) ∧ Aside (padO FL = padO M) ∧ Aside (BL wr P M u) ∧ Aside (Below P w wr) ∧ Aside (KeepP P w wr))
  case atStart => exact ⟨FL, v6, by omega, by omega, .inl hfl, (show _ = _ from rfl), HB6.out, HW6.out, HKP6.out⟩
  obtain ⟨M, u, hg, hM1, hM2, HM, HB, BW, KW⟩ := hrel
  have HM := Lib.hid HM.out
  have HB := Lib.hid HB.out
  have HBW := Lib.hid BW.out
  have HKW := Lib.hid KW.out
  have c1 := (cell_of_block (i := 1) HB.out.1).trans rfl
  have hlb := lt_of_block HB.out.1
  clear BW KW
  by_cases h8 : M.length % 8 = 0
  · have hd : ((M.length : Int) % 8 != 0) = false := by simp; omega
    have hd2 : (M.length : Int) % 8 = 0 := by omega
    have HP : Hid (padO FL = M) := Lib.hid (by rw [HM.out]; exact padO_done h8)
    clear h8
    go_wp2
    go_end0
    exact ⟨rfl, ⟨u, by rw [HP.out]; exact HB.out⟩, HBW.out, HKW.out⟩
  · have hd : ((M.length : Int) % 8 != 0) = true := by simp; omega
    have HP : Hid (padO FL = padO (M ++ [true])) := Lib.hid (by rw [HM.out]; exact pad_next M h8)
    go_wp2_with fail
    refine (putL 1 1 rfl _ P M u 1 HB.out (by omega) (by omega) (by omega)).mono ?_
    rintro e1 w7 ⟨rfl, ⟨v7, hb7⟩, hw7, hk7⟩
    rw [bitsN_1] at hb7
    have HB7 := Lib.hid hb7
    have HW7 := Lib.hid (HBW.out.trans hw7)
    have HKP7 := Lib.hid (HKW.out.trans hk7)
    have hlm : (M ++ [true]).length = M.length + 1 := by simp
    clear hb7 hw7 hk7
    go_wp2
    go_roundg ((8 - (M.length + 1) % 8) % 8)
    case measure => omega
    case rel => exact ⟨M ++ [true], v7, by rw [hlm]; exact Nat.le_refl _, by omega, by omega, HP.out, HB7.out, HW7.out, HKP7.out⟩
end Go.Proofs.Ytkcnnfgdplccoaa

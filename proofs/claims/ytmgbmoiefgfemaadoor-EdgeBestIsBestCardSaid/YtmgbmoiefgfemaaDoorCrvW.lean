/- Curve of edge: the walk. -/
import Derived.Test.YtmgbmoiefgfemaaDoorCrvL
import Derived.Test.YtmgbmoiefgfemaaDoorKeyF
import Derived.Test.YtmgbmoiefgfemaaDoorDelS
import Derived.StillTailTactics
namespace Go.Proofs.YtmgbmoiefgfemaaDoor
open Go.RowKit

/-- The fault of Curve and Best. -/
def crvF (K : List ByteArray) (m : Int) : Int := if kyF K ≠ 0 then kyF K else if outB m 0 1000 = true then 1 else 0
def crvA (K : List ByteArray) (m : Int) : List Int := if crvF K m = 0 then crvL K m.toNat else []
theorem outS_any (K : List ByteArray) (m : Int) : crvF K m = if kyF K ≠ 0 then kyF K else if outB m 0 1000 = true then 1 else 0 := rfl
/-- A world beside a slice of strings and an array. -/
def CvR (w wr : World) (G : Nat) (v : Value) (R : List ByteArray) (row : List Int) : Prop := Own wr (G + 1) 9 1 encS v R ∧ Arr wr G row ∧ Below w.heap.size w wr ∧ G + 1 ≤ wr.heap.size
set_option maxRecDepth 100000 in
set_option maxHeartbeats 4000000 in
theorem Curve_any (w : World) (K : List ByteArray) (v : Value) (m : Int) (hl : Sl w 1 encS v K) (hw : ∀ x, x ∈ K → x.size ≤ 9223372036854775807) :
    Calls Tryd.prog 25 #[v, .int .i64 m] w (SlPost w 1 encI (crvA K m) (crvF K m)) := by
  have H1 := Lib.hid (keysFault_any w K v hl hw)
  have HFF := Lib.hid (outS_any K m)
  have HNO := Lib.hid (fun (h : crvF K m ≠ 0) => show crvA K m = [] from by unfold crvA; rw [if_neg h])
  have HYES := Lib.hid (fun (h : crvF K m = 0) => show crvA K m = crvL K m.toNat from by unfold crvA; rw [if_pos h])
  have HK := Lib.hid (fun (h : kyF K = 0) => (kyF_zero h).1)
  obtain ⟨r, hr⟩ : ∃ r, r = kyF K := ⟨_, rfl⟩
  rw [← hr] at H1 HFF HK
  obtain ⟨ao, cap, rfl, hcap, hmax, _, hel⟩ := hl
  unfold maxLen at hmax
  have HEL := Lib.hid hel
  clear hel hw hr
  go_enter Tryd.func25, Tryd.ntmps25
  go_upto_region 2 with (go_at_call 64; refine H1.out.mono ?_; rintro e w1 ⟨rfl, hb⟩; have HB1 := Lib.hid hb; clear hb)
  cases e1 : (r != 0)
  case true =>
    have hr0 : r ≠ 0 := by simpa using e1
    have hf : Hid (r = crvF K m) := Lib.hid (by rw [HFF.out, if_pos hr0])
    have HN1 := Lib.hid (HNO.out (by rw [← hf.out]; exact hr0))
    go_wp2
    go_ret2
    exact SlPost.mk hf.out (by rw [HN1.out]; exact Sl.nil) HB1.out
  have hr0 : r = 0 := by simpa using e1
  subst hr0
  clear e1
  cases o1 : outB m 0 1000
  case true =>
    have hf : Hid (1 = crvF K m) := Lib.hid (by rw [HFF.out, if_neg (by simp), if_pos o1])
    have HN1 := Lib.hid (HNO.out (by rw [← hf.out]; simp))
    go_wp2_with (go_at_call 40; refine (out_any _ _ _ _).mono ?_; rintro e w' ⟨rfl, rfl⟩)
    go_ret2
    exact SlPost.mk hf.out (by rw [HN1.out]; exact Sl.nil) HB1.out
  have hf : Hid (0 = crvF K m) := Lib.hid (by rw [HFF.out, if_neg (by simp), if_neg (by simp [o1])])
  have hm := outB_no' (show ¬ outB m 0 1000 = true by rw [o1]; simp)
  obtain ⟨M, rfl⟩ : ∃ M : Nat, m = (M : Int) := ⟨m.toNat, by omega⟩
  have HYE := Lib.hid (HYES.out hf.out.symm)
  have hn1000 := HK.out rfl
  have hmk := make_ints M (by omega)
  have hM1 : M ≤ 1000 := by omega
  have HEL1 := Lib.hid (el_below HEL.out HB1.out (Nat.le_refl _))
  clear H1 HFF HNO HYES HK
  go_wp2_with (go_at_call 40; refine (out_any _ _ _ _).mono ?_; rintro e w' ⟨rfl, rfl⟩)
  obtain ⟨G, hG⟩ : ∃ G, G = w1.heap.size := ⟨_, rfl⟩
  have HG := Lib.hid hG
  obtain ⟨wA, hwA⟩ : ∃ wA, wA = w1.alloc (.cells (Array.replicate M (Value.int .i64 0)) 3) := ⟨_, rfl⟩
  have HC0 : Hid (CvR w wA G (.slice none 0 0) (recK K 0) (rowF (fun p => cntP K p 0) M)) := Lib.hid (by
    rw [hwA]
    refine ⟨Own.nil, ?_, HB1.out.alloc HB1.out.size _, by simp; omega⟩
    unfold Arr
    rw [hG, block_new]
    have e : (rowF (fun p => cntP K p 0) M) = List.replicate M 0 := by
      apply List.ext_getElem
      · simp [rowF]
      · intro i h1 h2; simp [rowF, cntP]
    rw [e]
    simp)
  rw [← hG, ← hwA]
  have hwG : w.heap.size ≤ G := by rw [hG]; exact HB1.out.size
  clear hG hwA hmk
  go_loopg [8, 24] K.length (fun gg s8 s24 wr => ∃ i : Nat, i ≤ K.length ∧ K.length - i ≤ gg ∧ s24 = .int .i64 i ∧ Aside (CvR w wr G s8 (recK K i) (rowF (fun p => cntP K p i) M)))
  case atStart => exact ⟨0, by omega, by omega, rfl, (show Aside _ from HC0.out)⟩
  case round =>
    obtain ⟨wi, rfl⟩ : ∃ wi : World, wi = wr := ⟨_, rfl⟩
    obtain ⟨i, hi, hgi, rfl, CV⟩ := hrel
    obtain ⟨ho, ha, hbw, hsz⟩ := CV.out
    obtain ⟨ra, rc, P0, rfl, hrc1, hrc2, _, _⟩ := own_parts encS_len ho
    obtain ⟨rn, hrn⟩ : ∃ rn, rn = (recK K i).length := ⟨_, rfl⟩
    rw [← hrn] at ho hrc1 ⊢
    have HRL := Lib.hid hrn
    clear hrn
    have HO := Lib.hid ho
    have HA := Lib.hid ha
    have HBW := Lib.hid hbw
    clear ho ha CV
    by_cases hil : i < K.length
    · have hiz : (i : Int) < (K.length : Int) := by omega
      obtain ⟨x, hx⟩ : ∃ x, K[i]? = some x := ⟨K[i], by simp [hil]⟩
      obtain ⟨b, off, rfl, hc⟩ := HEL.out i x hx
      have hbl : b < w.heap.size := World.block_lt_of_cell? w _ (hc 0 _ rfl)
      have c0 : wi.cell? ⟨b, off + i, none⟩ = some (.string x) := by have h := (hbw.cell (p := ⟨b, off + i * 1 + 0, none⟩) hbl).trans (hc 0 _ rfl); simpa using h
      have HX : Hid (keyA K i = x) := Lib.hid (by unfold keyA; rw [List.getD_eq_getElem?_getD, hx]; rfl)
      have HIX := Lib.hid (index_any (recK K i) x _ wi (HO.out.sl encS_len))
      rw [← HX.out] at HIX
      have hix : Lib.idxOfS (recK K i) (keyA K i) = atK K i := rfl
      rw [hix, HX.out] at HIX
      have hab := atK_bd K i
      have hrl := recK_len K i
      have HRN := Lib.hid (recK_next K i)
      rw [HX.out] at HRN
      obtain ⟨a, ha⟩ : ∃ a, a = atK K i := ⟨_, rfl⟩
      rw [← ha] at HIX hab HRN
      have HAT := Lib.hid ha
      clear hx hc hbw ha hix
      go_wp2_with fail
      with_reducible refine HIX.out.mono ?_
      rintro e w' ⟨rfl, hw⟩
      obtain rfl := hw
      have hNG : G + 1 ≤ (w'.alloc (.cells #[.string x] 9)).heap.size := by simp; omega
      rcases hab with rfl | ⟨j, hj, rfl⟩
      · have HRX : Hid (recK K (i + 1) = x :: recK K i) := Lib.hid (by rw [HRN.out, if_neg (by omega)])
        have HRW : Hid (rowF (fun p => cntP K p (i + 1)) M = rowF (fun p => cntP K p i) M) := Lib.hid (rowP_skip fun p _ => by rw [← HAT.out]; omega)
        have HIN := Lib.hid (insS_lit w' (G + 1) (recK K i) x _ HO.out hsz (by omega))
        rw [← HRX.out] at HIN
        unfold InsPS at HIN
        have HAA : Hid (Arr (w'.alloc (.cells #[.string x] 9)) G (rowF (fun p => cntP K p (i + 1)) M)) := Lib.hid (by rw [HRW.out]; exact HA.out.below ((Below.refl _ w').alloc (Nat.le_refl _) _))
        have HBA : Hid (Below w.heap.size w (w'.alloc (.cells #[.string x] 9))) := Lib.hid (HBW.out.alloc HBW.out.size _)
        clear HIX HRN HAT HX c0
        go_wp2_with fail
        with_reducible refine HIN.out.mono ?_
        rintro e w8 ⟨v8, rfl, ho8, hb8⟩
        have HC8 : Hid (CvR w w8 G v8 (recK K (i + 1)) (rowF (fun p => cntP K p (i + 1)) M)) := Lib.hid ⟨ho8, HAA.out.belowB hb8 (by omega), HBA.out.trans (hb8.mono (by omega)), Nat.le_trans hNG hb8.size⟩
        clear ho8 hb8 HIN HAA HBA
        go_wp2
        go_roundg (K.length - (i + 1))
        case measure => omega
        case rel => exact ⟨i + 1, by omega, by omega, by go_num, (show Aside _ from HC8.out)⟩
      · have HRX : Hid (recK K (i + 1) = x :: (recK K i).eraseIdx j) := Lib.hid (by rw [HRN.out, if_pos (by omega), Int.toNat_natCast])
        have hj0 : (0 : Int) ≤ (j : Int) := by omega
        have hjw : IntKind.i64.wrap ((j : Int) + 1) = (j : Int) + 1 := IntWalk.i64_in _ (by omega)
        have HDE := Lib.hid (delS_any w' (G + 1) j (recK K i) _ HO.out hj)
        unfold InsPS at HDE
        have hel : ((recK K i).eraseIdx j).length ≤ 1000000 := by have := List.length_eraseIdx_le (recK K i) j; omega
        clear HIX HRN HX c0
        go_wp2_with fail
        with_reducible refine HDE.out.mono ?_
        rintro e w7 ⟨v7, rfl, ho7, hb7⟩
        have hsz7 : G + 1 ≤ w7.heap.size := Nat.le_trans hsz hb7.size
        have HA7 := Lib.hid (HA.out.belowB hb7 (by omega))
        have HBW7 : Hid (Below w.heap.size w w7) := Lib.hid (HBW.out.trans (hb7.mono (by omega)))
        have HO7 := Lib.hid ho7
        clear ho7 hb7 HDE HO HA HBW
        by_cases hjM : j < M
        · have hjz : (j : Int) < (M : Int) := by omega
          have cj := HA7.out.cell (rowF_get hjM)
          have zj := HA7.out.free j
          have hcb := cntP_bd K j i
          have HRW := Lib.hid (rowP_set (M := M) HAT.out.symm)
          obtain ⟨z, hz⟩ : ∃ z, z = cntP K j i := ⟨_, rfl⟩
          rw [← hz] at cj hcb HRW
          have hzw : IntKind.i64.wrap (z + 1) = z + 1 := IntWalk.i64_in _ (by omega)
          have HA8 : Hid (Arr (w7.setCell ⟨G, j, none⟩ (.int .i64 (z + 1))) G (rowF (fun p => cntP K p (i + 1)) M)) := Lib.hid (by rw [← HRW.out]; exact HA7.out.set _ _)
          have HO8 : Hid (Own (w7.setCell ⟨G, j, none⟩ (.int .i64 (z + 1))) (G + 1) 9 1 encS v7 ((recK K i).eraseIdx j)) := Lib.hid (by
            obtain ⟨q1, q2⟩ := HO7.out
            refine ⟨q1, ?_⟩
            rcases q2 with q2 | ⟨g, cap, cur, e1, e2, e3, r⟩
            · exact Or.inl q2
            · exact Or.inr ⟨g, cap, cur, e1, e2, (Below.heap_setCell w7 ⟨G, j, none⟩ _ g (by simp; omega)).trans e3, r⟩)
          have HBW8 : Hid (Below w.heap.size w (w7.setCell ⟨G, j, none⟩ (.int .i64 (z + 1)))) := Lib.hid (HBW7.out.setCell hwG _)
          obtain ⟨w8, hw8⟩ : ∃ w8, w8 = w7.setCell ⟨G, j, none⟩ (.int .i64 (z + 1)) := ⟨_, rfl⟩
          have hs8 : G + 1 ≤ w8.heap.size := by rw [hw8]; simpa using hsz7
          have HW8 := Lib.hid hw8
          rw [← hw8] at HA8 HO8 HBW8
          have HIN := Lib.hid (insS_lit w8 (G + 1) _ x _ HO8.out hs8 hel)
          rw [← HRX.out] at HIN
          unfold InsPS at HIN
          clear hz hw8 HO7 HA7 HBW7 HRW
          go_upto_region 16 with (fail)
          rw [← HW8.out]
          clear cj zj
          go_wp2_with fail
          with_reducible refine HIN.out.mono ?_
          rintro e w9 ⟨v9, rfl, ho9, hb9⟩
          have HC9 : Hid (CvR w w9 G v9 (recK K (i + 1)) (rowF (fun p => cntP K p (i + 1)) M)) := Lib.hid ⟨ho9, (HA8.out.below ((Below.refl _ w8).alloc (Nat.le_refl _) _)).belowB hb9 (by omega), (HBW8.out.alloc HBW8.out.size _).trans (hb9.mono (by omega)), Nat.le_trans (by simp; omega) hb9.size⟩
          clear ho9 hb9 HIN HA8 HBW8
          go_wp2
          go_roundg (K.length - (i + 1))
          case measure => omega
          case rel => exact ⟨i + 1, by omega, by omega, by go_num, (show Aside _ from HC9.out)⟩
        · have hjz : ¬ (j : Int) < (M : Int) := by omega
          have HRW : Hid (rowF (fun p => cntP K p (i + 1)) M = rowF (fun p => cntP K p i) M) := Lib.hid (rowP_skip fun p hp => by rw [← HAT.out]; omega)
          have HIN := Lib.hid (insS_lit w7 (G + 1) _ x _ HO7.out hsz7 hel)
          rw [← HRX.out] at HIN
          unfold InsPS at HIN
          go_wp2_with fail
          with_reducible refine HIN.out.mono ?_
          rintro e w9 ⟨v9, rfl, ho9, hb9⟩
          have HC9 : Hid (CvR w w9 G v9 (recK K (i + 1)) (rowF (fun p => cntP K p (i + 1)) M)) := Lib.hid ⟨ho9, by rw [HRW.out]; exact (HA7.out.below ((Below.refl _ w7).alloc (Nat.le_refl _) _)).belowB hb9 (by omega), (HBW7.out.alloc HBW7.out.size _).trans (hb9.mono (by omega)), Nat.le_trans (by simp; omega) hb9.size⟩
          clear ho9 hb9 HIN HA7 HBW7
          go_wp2
          go_roundg (K.length - (i + 1))
          case measure => omega
          case rel => exact ⟨i + 1, by omega, by omega, by go_num, (show Aside _ from HC9.out)⟩
    · obtain rfl : i = K.length := by omega
      rw [mixP_start] at HA
      clear HEL HEL1 HG
      go_wp2
      go_loopg [12] M (fun g2 s12 wr => ∃ p : Nat, 1 ≤ p ∧ (p ≤ M ∨ p = 1) ∧ M - p ≤ g2 ∧ s12 = .int .i64 p ∧ Aside (Arr wr G (mixL (fun p => cntQ K p K.length) (fun p => cntP K p K.length) p M)) ∧ Aside (Below G wi wr))
      case atStart => exact ⟨1, Nat.le_refl _, Or.inr rfl, by omega, rfl, HA.out, (show Aside _ from Below.refl _ _)⟩
      case round =>
        obtain ⟨wp, rfl⟩ : ∃ wp : World, wp = wr := ⟨_, rfl⟩
        obtain ⟨p, hp1, hpM, hgp, rfl, AP, BP⟩ := hrel
        by_cases hpl : p < M
        · have hpz : (p : Int) < (M : Int) := by omega
          have hw1 : IntKind.i64.wrap ((p : Int) - 1) = (p : Int) - 1 := IntWalk.i64_in _ (by omega)
          have hw2 : ((p : Int) - 1).toNat = p - 1 := by omega
          have hw3 : (0 : Int) ≤ (p : Int) - 1 := by omega
          have hw4 : (p : Int) - 1 < (M : Int) := by omega
          have hw5 : (1 : Int) ≤ (p : Int) := by omega
          have hw6 : IntKind.i64.wrap ((p : Int) + 1) = (p : Int) + 1 := IntWalk.i64_in _ (by omega)
          have c1 : wp.cell? ⟨G, p, none⟩ = some (.int .i64 (cntP K p K.length)) := AP.out.cell (by rw [mixL_get hpl, if_neg (Nat.lt_irrefl _)])
          have c2 : wp.cell? ⟨G, p - 1, none⟩ = some (.int .i64 (cntQ K (p - 1) K.length)) := AP.out.cell (by rw [mixL_get (by omega), if_pos (by omega)])
          have z1 := AP.out.free p
          have b1 := cntP_bd K p K.length
          have b2 := cntQ_bd K (p - 1) K.length
          have HN : Hid (cntQ K p K.length = cntP K p K.length + cntQ K (p - 1) K.length) := Lib.hid (by
            have h := cntQ_next K (p - 1) K.length
            rwa [show p - 1 + 1 = p by omega] at h)
          obtain ⟨y1, hy1⟩ : ∃ y1, y1 = cntP K p K.length := ⟨_, rfl⟩
          obtain ⟨y2, hy2⟩ : ∃ y2, y2 = cntQ K (p - 1) K.length := ⟨_, rfl⟩
          rw [← hy1] at c1 b1 HN
          rw [← hy2] at c2 b2 HN
          have hzw : IntKind.i64.wrap (y1 + y2) = y1 + y2 := IntWalk.i64_in _ (by omega)
          have hGl := AP.out.lt
          have HA2 : Hid (Arr (wp.drew.setCell ⟨G, p, none⟩ (.int .i64 (y1 + y2))) G (mixL (fun p => cntQ K p K.length) (fun p => cntP K p K.length) (p + 1) M)) := Lib.hid (by
            have h := Arr.set (w := wp.drew) AP.out p (y1 + y2)
            rw [← HN.out, mixL_set (fun p => cntQ K p K.length) (fun p => cntP K p K.length) p M] at h
            rw [← HN.out]
            exact h)
          have HB2 : Hid (Below G wi (wp.drew.setCell ⟨G, p, none⟩ (.int .i64 (y1 + y2)))) := Lib.hid (BP.out.drew.setCell (Nat.le_refl _) _)
          clear hy1 hy2 AP BP
          go_upto_region 21 with (fail)
          go_still_tail 11, (by kernel_rfl)
          change wpList _ _ _ _ _ wp.drew
          go_wp2
          go_roundg (M - (p + 1))
          case measure => omega
          case rel => exact ⟨p + 1, by omega, by omega, by omega, by go_num, (show Aside _ from HA2.out), (show Aside _ from HB2.out)⟩
        · rw [mixP_end K (by omega)] at AP
          have hpz : ¬ (p : Int) < (M : Int) := by omega
          have HSL : Hid (Sl wp 1 encI (.slice (some ⟨G, 0, none⟩) M M) (crvA K M)) := Lib.hid (by
            rw [HYE.out, Int.toNat_natCast]
            refine ⟨_, M, by simp [crvL, rowF], by simp [crvL, rowF], by unfold maxLen; omega, fun h => (by cases h), fun j x hj => ⟨G, 0, rfl, fun t u hu => ?_⟩⟩
            have ht : t = 0 := by
              have := (List.getElem?_eq_some_iff.1 hu).1
              simp [encI] at this
              omega
            subst ht
            have h := AP.out.cell hj
            simp [encI] at hu
            subst hu
            simpa using h)
          have HBF : Hid (Below w.heap.size w wp) := Lib.hid (HBW.out.trans (BP.out.mono hwG))
          go_wp2
          go_ret2
          exact SlPost.mk hf.out HSL.out HBF.out
end Go.Proofs.YtmgbmoiefgfemaaDoor

/- Curve of the reference: the walk. -/
import Derived.Test.YtmgbmoiefgfemaaDoorCrvW
import Derived.Test.YtmgbmoiefgfemaaDoorOutE
namespace Go.Proofs.YtmgbmoiefgfemaaDoor
open Go.RowKit

set_option maxRecDepth 100000 in
set_option maxHeartbeats 4000000 in
theorem CurveR_any (w : World) (K : List ByteArray) (v : Value) (m : Int) (hl : Sl w 1 encS v K) (hw : ∀ x, x ∈ K → x.size ≤ 9223372036854775807) :
    Calls Tryd.prog 26 #[v, .int .i64 m] w (SlPost w 1 encI (crvA K m) (crvF K m)) := by
  have H1 := Lib.hid (checkKeysR_any w K v hl hw)
  have HFF := Lib.hid (outS_any K m)
  have HNO := Lib.hid (fun (h : crvF K m ≠ 0) => show crvA K m = [] from by unfold crvA; rw [if_neg h])
  have HYES := Lib.hid (fun (h : crvF K m = 0) => show crvA K m = crvL K m.toNat from by unfold crvA; rw [if_pos h])
  have HK := Lib.hid (fun (h : kyF K = 0) => (kyF_zero h).1)
  obtain ⟨r, hr⟩ : ∃ r, r = kyF K := ⟨_, rfl⟩
  rw [← hr] at H1 HFF HK
  obtain ⟨ao, cap, rfl, hcap, hmax, _, hel⟩ := hl
  unfold maxLen at hmax
  have HEL := Lib.hid hel
  clear hel hw hr
  go_enter Tryd.func26, Tryd.ntmps26
  go_upto_region 2 with (go_at_call 68; refine H1.out.mono ?_; rintro e w1 ⟨rfl, hb⟩; have HB1 := Lib.hid hb; clear hb)
  cases e1 : (r != 0)
  case true =>
    have hr0 : r ≠ 0 := by simpa using e1
    have hf : Hid (r = crvF K m) := Lib.hid (by rw [HFF.out, if_pos hr0])
    have HN1 := Lib.hid (HNO.out (by rw [← hf.out]; exact hr0))
    go_wp2
    go_ret2
    exact SlPost.mk hf.out (by rw [HN1.out]; exact Sl.nil) HB1.out
  have hr0 : r = 0 := by simpa using e1
  subst hr0
  clear e1
  cases o1 : outB m 0 1000
  case true =>
    have hf : Hid (1 = crvF K m) := Lib.hid (by rw [HFF.out, if_neg (by simp), if_pos o1])
    have HN1 := Lib.hid (HNO.out (by rw [← hf.out]; simp))
    go_wp2_with (go_at_call 41; refine (withinE_any _ _ _ _).mono ?_; rintro e w' ⟨rfl, rfl⟩)
    go_ret2
    exact SlPost.mk hf.out (by rw [HN1.out]; exact Sl.nil) HB1.out
  have hf : Hid (0 = crvF K m) := Lib.hid (by rw [HFF.out, if_neg (by simp), if_neg (by simp [o1])])
  have hm := outB_no' (show ¬ outB m 0 1000 = true by rw [o1]; simp)
  obtain ⟨M, rfl⟩ : ∃ M : Nat, m = (M : Int) := ⟨m.toNat, by omega⟩
  have HYE := Lib.hid (HYES.out hf.out.symm)
  have hn1000 := HK.out rfl
  have hmk := make_ints M (by omega)
  have hM1 : M ≤ 1000 := by omega
  have HEL1 := Lib.hid (el_below HEL.out HB1.out (Nat.le_refl _))
  clear H1 HFF HNO HYES HK
  go_wp2_with (go_at_call 41; refine (withinE_any _ _ _ _).mono ?_; rintro e w' ⟨rfl, rfl⟩)
  obtain ⟨G, hG⟩ : ∃ G, G = w1.heap.size := ⟨_, rfl⟩
  have HG := Lib.hid hG
  obtain ⟨wA, hwA⟩ : ∃ wA, wA = w1.alloc (.cells (Array.replicate M (Value.int .i64 0)) 3) := ⟨_, rfl⟩
  have HC0 : Hid (CvR w wA G (.slice none 0 0) (recK K 0) (rowF (fun p => cntQ K p 0) M)) := Lib.hid (by
    rw [hwA]
    refine ⟨Own.nil, ?_, HB1.out.alloc HB1.out.size _, by simp; omega⟩
    unfold Arr
    rw [hG, block_new]
    have e : (rowF (fun p => cntQ K p 0) M) = List.replicate M 0 := by
      apply List.ext_getElem
      · simp [rowF]
      · intro i h1 h2; simp [rowF, cntQ]
    rw [e]
    simp)
  rw [← hG, ← hwA]
  have hwG : w.heap.size ≤ G := by rw [hG]; exact HB1.out.size
  clear hG hwA hmk
  go_loopg [8, 25] K.length (fun gg s8 s25 wr => ∃ i : Nat, i ≤ K.length ∧ K.length - i ≤ gg ∧ s25 = .int .i64 i ∧ Aside (CvR w wr G s8 (recK K i) (rowF (fun p => cntQ K p i) M)))
  case atStart => exact ⟨0, by omega, by omega, rfl, (show Aside _ from HC0.out)⟩
  case round =>
    obtain ⟨wi, rfl⟩ : ∃ wi : World, wi = wr := ⟨_, rfl⟩
    obtain ⟨i, hi, hgi, rfl, CV⟩ := hrel
    obtain ⟨ho, ha, hbw, hsz⟩ := CV.out
    obtain ⟨ra, rc, P0, rfl, hrc1, hrc2, _, _⟩ := own_parts encS_len ho
    obtain ⟨rn, hrn⟩ : ∃ rn, rn = (recK K i).length := ⟨_, rfl⟩
    rw [← hrn] at ho hrc1 ⊢
    have HRL := Lib.hid hrn
    clear hrn
    have HO := Lib.hid ho
    have HA := Lib.hid ha
    have HBW := Lib.hid hbw
    clear ho ha CV
    by_cases hil : i < K.length
    · have hiz : (i : Int) < (K.length : Int) := by omega
      obtain ⟨x, hx⟩ : ∃ x, K[i]? = some x := ⟨K[i], by simp [hil]⟩
      obtain ⟨b, off, rfl, hc⟩ := HEL.out i x hx
      have hbl : b < w.heap.size := World.block_lt_of_cell? w _ (hc 0 _ rfl)
      have c0 : wi.cell? ⟨b, off + i, none⟩ = some (.string x) := by have h := (hbw.cell (p := ⟨b, off + i * 1 + 0, none⟩) hbl).trans (hc 0 _ rfl); simpa using h
      have HX : Hid (keyA K i = x) := Lib.hid (by unfold keyA; rw [List.getD_eq_getElem?_getD, hx]; rfl)
      have HIX := Lib.hid (index_any (recK K i) x _ wi (HO.out.sl encS_len))
      rw [← HX.out] at HIX
      have hix : Lib.idxOfS (recK K i) (keyA K i) = atK K i := rfl
      rw [hix, HX.out] at HIX
      have hab := atK_bd K i
      have hrl := recK_len K i
      have HRN := Lib.hid (recK_next K i)
      rw [HX.out] at HRN
      obtain ⟨a, ha⟩ : ∃ a, a = atK K i := ⟨_, rfl⟩
      rw [← ha] at HIX hab HRN
      have HAT := Lib.hid ha
      clear hx hc hbw ha hix
      go_wp2_with fail
      with_reducible refine HIX.out.mono ?_
      rintro e w' ⟨rfl, hw⟩
      obtain rfl := hw
      obtain ⟨n0, hn0⟩ : ∃ n0 : Nat, (n0 : Int) = a + 1 := ⟨(a + 1).toNat, by rcases hab with h | ⟨j, _, h⟩ <;> omega⟩
      have haw : IntKind.i64.wrap (a + 1) = (n0 : Int) := by rw [IntWalk.i64_in _ (by omega)]; omega
      have HR0 : Hid (Arr w' G (rowQ K i M n0)) := Lib.hid (by rw [rowQ_start (by rw [← HAT.out]; omega)]; exact HA.out)
      clear HIX c0
      go_wp2
      go_loopg [12] (M + 2) (fun g2 s12 wr => ∃ N : Nat, (a + 1 ≤ (N : Int)) ∧ (N ≤ M + 1 ∨ N = n0) ∧ M + 2 - N ≤ g2 ∧ s12 = .int .i64 N ∧ Aside (Arr wr G (rowQ K i M N)) ∧ Aside (Own wr (G + 1) 9 1 encS (.slice ra rn rc) (recK K i)) ∧ Aside (Below G w' wr))
      case atStart => exact ⟨n0, by omega, Or.inr rfl, by omega, (by rw [hn0]), HR0.out, (show Aside _ from HO.out), (show Aside _ from Below.refl _ _)⟩
      case round =>
        obtain ⟨wn, rfl⟩ : ∃ wn : World, wn = wr := ⟨_, rfl⟩
        obtain ⟨N, hN1, hN2, hgN, rfl, AN, ON, BN⟩ := hrel
        have hszn : G + 1 ≤ wn.heap.size := Nat.le_trans hsz BN.out.size
        have HBWn : Hid (Below w.heap.size w wn) := Lib.hid (HBW.out.trans (BN.out.mono hwG))
        rcases hab with rfl | ⟨j, hj, rfl⟩
        · have HRX : Hid (recK K (i + 1) = x :: recK K i) := Lib.hid (by rw [HRN.out, if_neg (by omega)])
          have HAN : Hid (Arr wn G (rowF (fun p => cntQ K p (i + 1)) M)) := Lib.hid (by rw [← rowQ_end (n := N) (Or.inl (by rw [← HAT.out]; omega))]; exact AN.out)
          have HIN := Lib.hid (insS_lit wn (G + 1) (recK K i) x _ ON.out hszn (by omega))
          rw [← HRX.out] at HIN
          unfold InsPS at HIN
          go_wp2_with fail
          with_reducible refine HIN.out.mono ?_
          rintro e w8 ⟨v8, rfl, ho8, hb8⟩
          have HC8 : Hid (CvR w w8 G v8 (recK K (i + 1)) (rowF (fun p => cntQ K p (i + 1)) M)) := Lib.hid ⟨ho8, (HAN.out.below ((Below.refl _ wn).alloc (Nat.le_refl _) _)).belowB hb8 (by omega), (HBWn.out.alloc HBWn.out.size _).trans (hb8.mono (by omega)), Nat.le_trans (by simp; omega) hb8.size⟩
          clear ho8 hb8 HIN HAN
          go_wp2
          go_roundg (K.length - (i + 1))
          case measure => omega
          case rel => exact ⟨i + 1, by omega, by omega, by go_num, (show Aside _ from HC8.out)⟩
        · have hj0 : (0 : Int) ≤ (j : Int) := by omega
          by_cases hNM : N ≤ M
          · have hNz : (N : Int) ≤ (M : Int) := by omega
            have hw1 : IntKind.i64.wrap ((N : Int) - 1) = (N : Int) - 1 := IntWalk.i64_in _ (by omega)
            have hw2 : ((N : Int) - 1).toNat = N - 1 := by omega
            have hw3 : (0 : Int) ≤ (N : Int) - 1 := by omega
            have hw4 : (N : Int) - 1 < (M : Int) := by omega
            have hw5 : (1 : Int) ≤ (N : Int) := by omega
            have hw6 : IntKind.i64.wrap ((N : Int) + 1) = (N : Int) + 1 := IntWalk.i64_in _ (by omega)
            have hNe : N - 1 + 1 = N := by omega
            have c1 : wn.cell? ⟨G, N - 1, none⟩ = some (.int .i64 (cntQ K (N - 1) i)) := AN.out.cell (by have h := rowQ_get (K := K) (i := i) (M := M) (n := N - 1) (by omega); rwa [hNe] at h)
            have z1 := AN.out.free (N - 1)
            have b1 := cntQ_bd K (N - 1) i
            obtain ⟨y1, hy1⟩ : ∃ y1, y1 = cntQ K (N - 1) i := ⟨_, rfl⟩
            rw [← hy1] at c1 b1
            have hzw : IntKind.i64.wrap (y1 + 1) = y1 + 1 := IntWalk.i64_in _ (by omega)
            have hGl := AN.out.lt
            have HA2 : Hid (Arr (wn.setCell ⟨G, N - 1, none⟩ (.int .i64 (y1 + 1))) G (rowQ K i M (N + 1))) := Lib.hid (by
              have h := AN.out.set (N - 1) (y1 + 1)
              have h2 := rowQ_set (K := K) (i := i) (M := M) (n := N - 1) (by rw [← HAT.out]; omega) (by rw [← HAT.out]; omega)
              rw [hNe, ← hy1, show N - 1 + 2 = N + 1 by omega] at h2
              rw [h2] at h
              exact h)
            have HO2 : Hid (Own (wn.setCell ⟨G, N - 1, none⟩ (.int .i64 (y1 + 1))) (G + 1) 9 1 encS (.slice ra rn rc) (recK K i)) := Lib.hid (by
              obtain ⟨q1, q2⟩ := ON.out
              refine ⟨q1, ?_⟩
              rcases q2 with q2 | ⟨g, cap, cur, e1, e2, e3, r⟩
              · exact Or.inl q2
              · exact Or.inr ⟨g, cap, cur, e1, e2, (Below.heap_setCell wn ⟨G, N - 1, none⟩ _ g (by simp; omega)).trans e3, r⟩)
            have HB2 : Hid (Below G w' (wn.setCell ⟨G, N - 1, none⟩ (.int .i64 (y1 + 1)))) := Lib.hid (BN.out.setCell (Nat.le_refl _) _)
            clear hy1 AN ON BN hNe
            go_wp2
            go_roundg (M + 2 - (N + 1))
            case measure => omega
            case rel => exact ⟨N + 1, by omega, by omega, by omega, by go_num, (show Aside _ from HA2.out), (show Aside _ from HO2.out), (show Aside _ from HB2.out)⟩
          · have hNz : ¬ (N : Int) ≤ (M : Int) := by omega
            have HAN : Hid (Arr wn G (rowF (fun p => cntQ K p (i + 1)) M)) := Lib.hid (by rw [← rowQ_end (n := N) (Or.inr (by omega))]; exact AN.out)
            have HRX : Hid (recK K (i + 1) = x :: (recK K i).eraseIdx j) := Lib.hid (by rw [HRN.out, if_pos (by omega), Int.toNat_natCast])
            have hjw : IntKind.i64.wrap ((j : Int) + 1) = (j : Int) + 1 := IntWalk.i64_in _ (by omega)
            have HDE := Lib.hid (delS_any wn (G + 1) j (recK K i) _ ON.out hj)
            unfold InsPS at HDE
            have hel : ((recK K i).eraseIdx j).length ≤ 1000000 := by have := List.length_eraseIdx_le (recK K i) j; omega
            go_wp2_with fail
            with_reducible refine HDE.out.mono ?_
            rintro e w7 ⟨v7, rfl, ho7, hb7⟩
            have hsz7 : G + 1 ≤ w7.heap.size := Nat.le_trans hszn hb7.size
            have HA7 := Lib.hid (HAN.out.belowB hb7 (by omega))
            have HBW7 : Hid (Below w.heap.size w w7) := Lib.hid (HBWn.out.trans (hb7.mono (by omega)))
            have HIN := Lib.hid (insS_lit w7 (G + 1) _ x _ ho7 hsz7 hel)
            rw [← HRX.out] at HIN
            unfold InsPS at HIN
            clear ho7 hb7 HDE HAN
            go_wp2_with fail
            with_reducible refine HIN.out.mono ?_
            rintro e w9 ⟨v9, rfl, ho9, hb9⟩
            have HC9 : Hid (CvR w w9 G v9 (recK K (i + 1)) (rowF (fun p => cntQ K p (i + 1)) M)) := Lib.hid ⟨ho9, (HA7.out.below ((Below.refl _ w7).alloc (Nat.le_refl _) _)).belowB hb9 (by omega), (HBW7.out.alloc HBW7.out.size _).trans (hb9.mono (by omega)), Nat.le_trans (by simp; omega) hb9.size⟩
            clear ho9 hb9 HIN HA7 HBW7
            go_wp2
            go_roundg (K.length - (i + 1))
            case measure => omega
            case rel => exact ⟨i + 1, by omega, by omega, by go_num, (show Aside _ from HC9.out)⟩
    · obtain rfl : i = K.length := by omega
      have HSL : Hid (Sl wi 1 encI (.slice (some ⟨G, 0, none⟩) M M) (crvA K M)) := Lib.hid (by
        rw [HYE.out, Int.toNat_natCast]
        refine ⟨_, M, by simp [crvL, rowF], by simp [crvL, rowF], by unfold maxLen; omega, fun h => (by cases h), fun j x hj => ⟨G, 0, rfl, fun t u hu => ?_⟩⟩
        have ht : t = 0 := by
          have := (List.getElem?_eq_some_iff.1 hu).1
          simp [encI] at this
          omega
        subst ht
        have h := HA.out.cell hj
        simp [encI] at hu
        subst hu
        simpa using h)
      go_wp2
      go_ret2
      exact SlPost.mk hf.out HSL.out HBW.out
end Go.Proofs.YtmgbmoiefgfemaaDoor

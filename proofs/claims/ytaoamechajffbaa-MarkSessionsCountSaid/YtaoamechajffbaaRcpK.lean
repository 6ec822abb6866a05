/- CheckParts of the reference: what it returns. -/
import Derived.Test.YtaoamechajffbaaCpK
namespace Go.Proofs.Ytaoamechajffbaa
open Go.RowKit

set_option maxRecDepth 100000 in
set_option maxHeartbeats 2000000 in
theorem checkPartsR_any (w : World) (l : List Prt) (v : Value) (hl : Sl w 3 encP v l) (hw : ∀ p, p ∈ l → WfP p) :
    Calls Try.prog 21 #[v] w fun e w' => e = .returned (.int .i64 (checkP l)) ∧ Below w.heap.size w w' := by
  obtain ⟨ao, cap, rfl, hcap, hmax, hnil, hel⟩ := hl
  unfold maxLen at hmax
  by_cases hbig : 1000 < l.length
  · have hv : Hid (2 = checkP l) := Lib.hid (by simp [checkP, hbig])
    clear hel
    go_enter Try.func21, Try.ntmps21
    go_wp2
    go_ret
    exact ⟨ret_int hv.out, Below.refl _ _⟩
  have HFa := Lib.hid (fun k e s p (h : CpAt l k e s) hx hz => CpAt.fault h (by omega) (p := p) hx hz)
  have HDo := Lib.hid (fun e s (h : CpAt l l.length e s) => CpAt.done h (by omega))
  go_enter Try.func21, Try.ntmps21
  go_wp2
  go_loopg [3, 4, 5] l.length (fun gg s3 s4 s5 wr => ∃ (kk : Nat) (e s : Int), kk ≤ l.length ∧ l.length - kk ≤ gg ∧ s5 = .int .i64 kk ∧ s3 = .int .i64 e ∧ s4 = .int .i64 s ∧ 0 ≤ e ∧ e ≤ 1000000000000000 ∧ 0 ≤ s ∧ s ≤ kk * 1000000000000000 ∧ Aside (Below w.heap.size w wr) ∧ Aside (CpAt l kk e s))
  case atStart => exact ⟨0, 0, 0, Nat.zero_le _, by omega, rfl, rfl, rfl, by omega, by omega, by omega, by omega, Below.refl _ w, ⟨rfl, rfl, fun j hj => absurd hj (Nat.not_lt_zero _)⟩⟩
  case round =>
    obtain ⟨kk, e, s, hkk, hg, rfl, rfl, rfl, he0, he1, hs0, hs1, BW, A⟩ := hrel
    by_cases hlt : kk < l.length
    · have hltz : (kk : Int) < (l.length : Int) := by omega
      have hks : (kk : Int) ≤ 1000 := by omega
      have hs2 : s ≤ 1000000000000000000 := by omega
      obtain ⟨p, hx⟩ : ∃ x, l[kk]? = some x := ⟨l[kk], by simp [hlt]⟩
      obtain ⟨b, off, rfl, hc⟩ := hel kk p hx
      have hwp := hw p (List.mem_of_getElem? hx)
      obtain ⟨hsz, _, _⟩ := hwp
      have hlt0 := World.block_lt_of_cell? w _ (hc 0 _ rfl)
      have c0 := (BW.out.cell (p := ⟨b, off + kk * 3, none⟩) hlt0).trans (hc 0 _ rfl)
      have c1 := (BW.out.cell (p := ⟨b, off + kk * 3 + 1, none⟩) hlt0).trans (hc 1 _ rfl)
      have c2 := (BW.out.cell (p := ⟨b, off + kk * 3 + 2, none⟩) hlt0).trans (hc 2 _ rfl)
      have HX := Lib.hid hx
      have hszw := BW.out.size
      have HB := Lib.hid (BW.out.alloc hszw (.cells #[.string p.ad, .int .i64 p.fr, .int .i64 p.ln] 41))
      have hin := isNameR_any p.ad
      clear hx hc hel hw
      have hC : Hid (pf p = if (!noAd p && !nameB p.ad) = true then 5 else if (outB p.ln 1 1000000000000000 || outB p.fr 0 1000000000000000 || decide (1000000000000000 < p.fr + p.ln)) = true then 1 else if (!noAd p && (p.fr != 0)) = true then 3 else 0) := Lib.hid rfl
      have hno : Hid (noAd p = p.ad.toList.isEmpty) := Lib.hid rfl
      have HFb := Lib.hid (fun (c : Int) (h : pf p = c) (hc : c ≠ 0) => (show c = checkP l from by
        have h1 : cpOf p e = c := by rw [cpOf, h, if_pos hc]
        rw [← HFa.out kk e s p A.out HX.out (by rw [h1]; exact hc), h1]))
      obtain ⟨na, hna⟩ : ∃ na, na = p.ad.toList.isEmpty := ⟨_, rfl⟩
      have hn1 : noAd p = na := hno.out.trans hna.symm
      have HN1 := Lib.hid hn1
      rw [hn1] at hC
      clear hn1 hno
      have HNA := Lib.hid hna
      clear hna
      go_upto_region 8 with (fail)
      go_cut [28] (fun s28 w2 => s28 = .bool (!na && !nameB p.ad) ∧ w2 = wr.alloc (.cells #[.string p.ad, .int .i64 p.fr, .int .i64 p.ln] 41))
      case first =>
        cases na
        all_goals
          have e1 := HNA.out.symm
          go_wp2_with (go_at_call 22; refine (hin _ hsz).mono ?_; rintro e w' ⟨rfl, rfl⟩)
          go_meet
          exact ⟨by simp [*], rfl⟩
      obtain ⟨rfl, rfl⟩ := hcut
      generalize hO : (!na && !nameB p.ad) = O at hC ⊢
      have HO := Lib.hid hO
      clear hO
      cases O
      case true =>
        have hv : Hid (5 = checkP l) := Lib.hid (HFb.out 5 (by rw [hC.out]; rfl) (by decide))
        go_wp2
        go_ret
        exact ⟨ret_int hv.out, HB.out⟩
      go_upto_region 10 with (fail)
      go_cut [46] (fun s46 w2 => s46 = .bool (outB p.ln 1 1000000000000000 || outB p.fr 0 1000000000000000 || decide (1000000000000000 < p.fr + p.ln)) ∧ w2 = wr.alloc (.cells #[.string p.ad, .int .i64 p.fr, .int .i64 p.ln] 41))
      case first =>
        cases o1 : outB p.ln 1 1000000000000000
        case true =>
          go_wp2_with (go_at_call 23; refine (within_any _ _ _ _).mono ?_; rintro e w' ⟨rfl, rfl⟩)
          go_meet
          exact ⟨by simp [*], rfl⟩
        cases o2 : outB p.fr 0 1000000000000000
        case true =>
          go_wp2_with (go_at_call 23; refine (within_any _ _ _ _).mono ?_; rintro e w' ⟨rfl, rfl⟩)
          go_meet
          exact ⟨by simp [*], rfl⟩
        have b1 : 1 ≤ p.ln ∧ p.ln ≤ 1000000000000000 := by simp [outB] at o1; omega
        have b2 : 0 ≤ p.fr ∧ p.fr ≤ 1000000000000000 := by simp [outB] at o2; omega
        obtain ⟨b11, b12⟩ := b1
        obtain ⟨b21, b22⟩ := b2
        go_wp2_with (go_at_call 23; refine (within_any _ _ _ _).mono ?_; rintro e w' ⟨rfl, rfl⟩)
        go_meet
        exact ⟨by simp [*], rfl⟩
      obtain ⟨rfl, rfl⟩ := hcut
      generalize hO2 : (outB p.ln 1 1000000000000000 || outB p.fr 0 1000000000000000 || decide (1000000000000000 < p.fr + p.ln)) = O at hC ⊢
      have HO2 := Lib.hid hO2
      clear hO2
      cases O
      case true =>
        have hv : Hid (1 = checkP l) := Lib.hid (HFb.out 1 (by rw [hC.out]; rfl) (by decide))
        go_wp2
        go_ret
        exact ⟨ret_int hv.out, HB.out⟩
      have hbd : (1 ≤ p.ln ∧ p.ln ≤ 1000000000000000) ∧ (0 ≤ p.fr ∧ p.fr ≤ 1000000000000000) ∧ p.fr + p.ln ≤ 1000000000000000 := by
        have := HO2.out
        simp [outB] at this
        omega
      obtain ⟨⟨b1, b2⟩, ⟨b3, b4⟩, b5⟩ := hbd
      go_upto_region 12 with (fail)
      go_cut [54] (fun s54 w2 => s54 = .bool (!na && (p.fr != 0)) ∧ w2 = wr.alloc (.cells #[.string p.ad, .int .i64 p.fr, .int .i64 p.ln] 41))
      case first =>
        cases na
        all_goals
          have e1 := HNA.out.symm
          go_wp2
          go_meet
          exact ⟨by simp [*], rfl⟩
      obtain ⟨rfl, rfl⟩ := hcut
      generalize hO3 : (!na && (p.fr != 0)) = O at hC ⊢
      have HO3 := Lib.hid hO3
      clear hO3
      cases O
      case true =>
        have hv : Hid (3 = checkP l) := Lib.hid (HFb.out 3 (by rw [hC.out]; rfl) (by decide))
        go_wp2
        go_ret
        exact ⟨ret_int hv.out, HB.out⟩
      have h1 : Hid (cpOf p e = if (na && decide (p.fr < e)) = true then 8 else 0) := Lib.hid (by rw [cpOf, hC.out, HN1.out]; simp)
      cases na
      case false =>
        have h3 : Hid (cpOf p e = 0) := Lib.hid (by rw [h1.out]; rfl)
        have e1 := HNA.out.symm
        have e2 : ¬ p.ad.toList = [] := by simpa using e1
        go_wp2
        go_roundg (l.length - (kk + 1))
        case measure => omega
        case rel => exact ⟨kk + 1, e, s + p.ln, by omega, by omega, by go_num, rfl, rfl, by omega, by omega, by omega, by omega, HB.out, A.out.next HX.out h3.out (by rw [HN1.out]; rfl) rfl⟩
      case true =>
        have e1 := HNA.out.symm
        have e2 : p.ad.toList = [] := by simpa using e1
        by_cases hlt2 : p.fr < e
        · have h3 : Hid (cpOf p e = 8) := Lib.hid (by rw [h1.out]; simp [hlt2])
          have hv : Hid (8 = checkP l) := Lib.hid (by rw [← HFa.out kk e s p A.out HX.out (by rw [h3.out]; decide), h3.out])
          go_wp2
          go_ret
          exact ⟨ret_int hv.out, HB.out⟩
        · have h3 : Hid (cpOf p e = 0) := Lib.hid (by rw [h1.out]; simp [hlt2])
          go_wp2
          go_roundg (l.length - (kk + 1))
          case measure => omega
          case rel => exact ⟨kk + 1, p.fr + p.ln, s + p.ln, by omega, by omega, by go_num, rfl, rfl, by omega, by omega, by omega, by omega, HB.out, A.out.next HX.out h3.out (by rw [HN1.out]; rfl) rfl⟩
    · obtain rfl : kk = l.length := by omega
      have hv := Lib.hid (HDo.out e s A.out)
      clear hel
      by_cases hs3 : 1000000000000000 < s
      · have hv1 : Hid (1 = checkP l) := Lib.hid (by rw [← hv.out, if_pos hs3])
        go_wp2
        go_ret
        exact ⟨ret_int hv1.out, BW.out⟩
      · have hv1 : Hid (0 = checkP l) := Lib.hid (by rw [← hv.out, if_neg hs3])
        go_wp2
        go_ret
        exact ⟨ret_int hv1.out, BW.out⟩
end Go.Proofs.Ytaoamechajffbaa

/- Counts of the reference: what it returns. -/
import Derived.Test.YtaoamechajffbaaCntM
import Derived.Test.YtaoamechajffbaaNamR
import Derived.Test.YtaoamechajffbaaConR
import Derived.Test.YtaoamechajffbaaRcpK
namespace Go.Proofs.Ytaoamechajffbaa
open Go.RowKit

theorem frz_of {w : World} {b i : Nat} {c : Array Value} {T : TypeId} (h : w.heap[b]? = some (.cells c T (0, 0))) : w.frozen? ⟨b, i, none⟩ = false := by simp [World.frozen?, h]

set_option maxRecDepth 100000 in
set_option maxHeartbeats 1000000 in
theorem countsR_any (w : World) (l : List Prt) (es : List Ev) (u v : Value) (hl : Sl w 3 encP u l) (he : Sl w 4 encE v es) (hw : ∀ p, p ∈ l → WfP p) (hs : ∀ e, e ∈ es → e.se.size ≤ 9223372036854775807 ∧ e.ad.size ≤ 9223372036854775807) :
    Calls Try.prog 7 #[u, v] w (CntPost w l es) := by
  have HCP := Lib.hid (checkPartsR_any w l u hl hw)
  have HL := Lib.hid hl
  have HE := Lib.hid he
  have HW := Lib.hid hw
  have HS := Lib.hid hs
  obtain ⟨ao, cap, rfl, hcap, hmax, hnil, hel⟩ := hl
  obtain ⟨eo, ecap, rfl, hecap, hemax, henil, heel⟩ := he
  unfold maxLen at hmax hemax
  have HEEL := Lib.hid heel
  clear heel hel hw hs hnil henil
  have HF : Hid (cntF l es = if checkP l ≠ 0 then checkP l else if 5000 < es.length then 2 else FF (evA es) es.length) := Lib.hid rfl
  have HN : Hid (checkP l = 0 → l.length ≤ 1000) := Lib.hid (fun h => by
    unfold checkP at h
    split at h
    · simp at h
    · omega)
  obtain ⟨c, hc⟩ : ∃ c, c = checkP l := ⟨_, rfl⟩
  rw [← hc] at HCP HF HN
  clear hc
  go_enter Try.func7, Try.ntmps7
  go_wp2_with fail
  refine HCP.out.mono ?_
  rintro e w1 ⟨rfl, hb1⟩
  have HB1 := Lib.hid hb1
  clear hb1 HCP
  by_cases hc0 : c = 0
  case neg =>
    have hne : (c != 0) = true := by simpa using hc0
    have hv : Hid (cntF l es = c) := Lib.hid (by rw [HF.out, if_pos hc0])
    go_wp2
    go_ret3
    exact CntPost.fail hv.out hc0 HB1.out
  subst hc0
  have hl1000 := HN.out rfl
  by_cases hbig : 5000 < es.length
  · have hv : Hid (cntF l es = 2) := Lib.hid (by rw [HF.out, if_neg (by simp), if_pos hbig])
    go_wp2
    go_ret3
    exact CntPost.fail hv.out (by decide) HB1.out
  have HF2 : Hid (cntF l es = FF (evA es) es.length) := Lib.hid (by rw [HF.out, if_neg (by simp), if_neg hbig])
  clear HF HN
  go_wp2
  go_loopg [8] es.length (fun gg s8 wr => ∃ kk : Nat, kk ≤ es.length ∧ es.length - kk ≤ gg ∧ s8 = .int .i64 kk ∧ Aside (Below w.heap.size w wr) ∧ Aside (∀ j, j < kk → evA es j = 0))
  case atStart => exact ⟨0, Nat.zero_le _, by omega, rfl, HB1.out, fun j hj => absurd hj (Nat.not_lt_zero _)⟩
  case round =>
    obtain ⟨kk, hkk, hg, rfl, BW, A⟩ := hrel
    by_cases hlt : kk < es.length
    · have hltz : (kk : Int) < (es.length : Int) := by omega
      obtain ⟨x, hx⟩ : ∃ x, es[kk]? = some x := ⟨es[kk], by simp [hlt]⟩
      obtain ⟨b, off, rfl, hc⟩ := HEEL.out kk x hx
      have hlt0 := World.block_lt_of_cell? w _ (hc 0 _ rfl)
      have c0 : wr.cell? ⟨b, off + kk * 4, none⟩ = some (.string x.se) := by have h := (BW.out.cell (p := ⟨b, off + kk * 4 + 0, none⟩) hlt0).trans (hc 0 _ rfl); simpa using h
      have c1 := (BW.out.cell (p := ⟨b, off + kk * 4 + 1, none⟩) hlt0).trans (hc 1 _ rfl)
      have c2 := (BW.out.cell (p := ⟨b, off + kk * 4 + 2, none⟩) hlt0).trans (hc 2 _ rfl)
      have c3 := (BW.out.cell (p := ⟨b, off + kk * 4 + 3, none⟩) hlt0).trans (hc 3 _ rfl)
      have HEV := Lib.hid (evA_of hx)
      have hsz := HS.out x (List.mem_of_getElem? hx)
      obtain ⟨hsz1, hsz2⟩ := hsz
      have HI1 := Lib.hid (fun W => isNameR_any x.se W)
      have HI2 := Lib.hid (fun W => isNameR_any x.ad W)
      have hC : Hid (evF x = if (!nameB x.se || !nameB x.ad) = true then 5 else if outB x.ki 1 5 = true then 4 else 0) := Lib.hid rfl
      have HHIT : Hid (∀ f, evF x = f → f ≠ 0 → cntF l es = f) := Lib.hid (fun f h h0 => by
        rw [HF2.out, FF_hit hlt A.out (by rw [HEV.out, h]; exact h0), HEV.out, h])
      clear hx hc
      go_upto_region 9 with (fail)
      go_cut [49] (fun s49 w2 => s49 = .bool (!nameB x.se || !nameB x.ad) ∧ w2 = wr)
      case first =>
        cases n1 : nameB x.se
        all_goals
          go_wp2_with (go_at_call 22; first | ((with_reducible refine (HI1.out _ hsz1).mono ?_); rintro e w' ⟨rfl, rfl⟩) | ((with_reducible refine (HI2.out _ hsz2).mono ?_); rintro e w' ⟨rfl, rfl⟩))
          go_meet
          exact ⟨by simp [*], rfl⟩
      obtain ⟨rfl, rfl⟩ := hcut
      generalize hO : (!nameB x.se || !nameB x.ad) = O at hC ⊢
      clear hO
      cases O
      case true =>
        have hv : Hid (cntF l es = 5) := Lib.hid (HHIT.out 5 (by rw [hC.out]; rfl) (by decide))
        go_wp2
        go_ret3
        exact CntPost.fail hv.out (by decide) BW.out
      cases o1 : outB x.ki 1 5
      case true =>
        have hv : Hid (cntF l es = 4) := Lib.hid (HHIT.out 4 (by rw [hC.out, o1]; rfl) (by decide))
        go_wp2_with (go_at_call 23; refine (within7_any _ _ _ _).mono ?_; rintro e w' ⟨rfl, rfl⟩)
        go_ret3
        exact CntPost.fail hv.out (by decide) BW.out
      have hz : Hid (evF x = 0) := Lib.hid (by rw [hC.out, o1]; rfl)
      go_wp2_with (go_at_call 23; refine (within7_any _ _ _ _).mono ?_; rintro e w' ⟨rfl, rfl⟩)
      go_roundg (es.length - (kk + 1))
      case measure => omega
      case rel =>
        refine ⟨kk + 1, by omega, by omega, by go_num, BW.out, (show Aside _ from fun j hj => ?_)⟩
        by_cases e : j = kk
        · subst e
          rw [HEV.out, hz.out]
        · exact A.out j (by omega)
    · have hltz : ¬ (kk : Int) < (es.length : Int) := by omega
      obtain rfl : kk = es.length := by omega
      have HZ : Hid (cntF l es = 0) := Lib.hid (by rw [HF2.out]; exact FF_zero A.out)
      have HZA := Lib.hid A.out
      clear A HF2
      have HEB := Lib.hid BW.out
      have h5000 : es.length ≤ 5000 := by omega
      clear BW hg hkk hlt hltz
      go_wp2
      go_loopg [9, 10, 11] es.length (fun gg s9 s10 s11 wr => ∃ kk : Nat, kk ≤ es.length ∧ es.length - kk ≤ gg ∧ s11 = .int .i64 kk ∧ Aside (Below w.heap.size w wr) ∧ Aside (Own wr w.heap.size 3 1 encI s9 (stN l es kk).2) ∧ Aside (Own wr w.heap.size 37 4 encE s10 (stN l es kk).1))
      case atStart => exact ⟨0, Nat.zero_le _, by omega, rfl, HEB.out, (show Own _ _ _ _ _ _ _ from Own.nil), (show Own _ _ _ _ _ _ _ from Own.nil)⟩
      case round =>
        obtain ⟨kk, hkk, hg, rfl, BW, OI, OG⟩ := hrel
        obtain ⟨ia, iL, ic, rfl⟩ := Own.slv encI_len OI.out
        obtain ⟨ga, gL, gc, rfl⟩ := Own.slv encE_len OG.out
        have HLN := Lib.hid (stN_len l es kk)
        by_cases hlt : kk < es.length
        · have hltz : (kk : Int) < (es.length : Int) := by omega
          obtain ⟨x, hx⟩ : ∃ x, es[kk]? = some x := ⟨es[kk], by simp [hlt]⟩
          obtain ⟨b, off, rfl, hc⟩ := HEEL.out kk x hx
          have hlt0 := World.block_lt_of_cell? w _ (hc 0 _ rfl)
          have c0 : wr.cell? ⟨b, off + kk * 4, none⟩ = some (.string x.se) := by have h := (BW.out.cell (p := ⟨b, off + kk * 4 + 0, none⟩) hlt0).trans (hc 0 _ rfl); simpa using h
          have c1 := (BW.out.cell (p := ⟨b, off + kk * 4 + 1, none⟩) hlt0).trans (hc 1 _ rfl)
          have c2 := (BW.out.cell (p := ⟨b, off + kk * 4 + 2, none⟩) hlt0).trans (hc 2 _ rfl)
          have c3 := (BW.out.cell (p := ⟨b, off + kk * 4 + 3, none⟩) hlt0).trans (hc 3 _ rfl)
          have HID := Lib.hid (fun h => stN_idle (l := l) hx h)
          have HGD := Lib.hid (fun h => stN_good (l := l) hx h)
          have hszw := BW.out.size
          obtain ⟨wa, hwa⟩ : ∃ wa, wa = wr.alloc (.cells #[.string x.se, .int .i64 x.pl, .string x.ad, .int .i64 x.ki] 37) := ⟨_, rfl⟩
          have HKA : Hid (wa.heap[wr.heap.size]? = some (.cells #[.string x.se, .int .i64 x.pl, .string x.ad, .int .i64 x.ki] 37 (0, 0))) := Lib.hid (by rw [hwa]; exact block_new wr _)
          have HBA : Hid (Below w.heap.size w wa) := Lib.hid (by rw [hwa]; exact BW.out.alloc hszw _)
          have HOI : Hid (Own wa w.heap.size 3 1 encI (.slice ia iL ic) (stN l es kk).2) := Lib.hid (by rw [hwa]; exact OI.out.al _)
          have HOG : Hid (Own wa w.heap.size 37 4 encE (.slice ga gL gc) (stN l es kk).1) := Lib.hid (by rw [hwa]; exact OG.out.al _)
          have HWA := Lib.hid hwa
          clear hwa hx hc OI OG
          obtain ⟨G, hG⟩ : ∃ G, G = (stN l es kk).1 := ⟨_, rfl⟩
          obtain ⟨I, hI⟩ : ∃ I, I = (stN l es kk).2 := ⟨_, rfl⟩
          rw [← hG] at HOG HID HGD HLN
          rw [← hI] at HOI HID HGD HLN
          clear hG hI
          have HCC := Lib.hid (conc_any wa l _ x (HL.out.below HBA.out (Nat.le_refl _)))
          have HTC := Lib.hid (fun W (h : Below wa.heap.size wa W) => told_any W G _ x.se x.pl x.ki ((HOG.out.below h (Nat.le_refl _)).sl encE_len))
          go_upto_region 19 with (fail)
          rw [← HWA.out]
          have a0 := (cell_of_block (i := 0) HKA.out).trans rfl
          have a1 := (cell_of_block (i := 1) HKA.out).trans rfl
          have a2 := (cell_of_block (i := 2) HKA.out).trans rfl
          have a3 := (cell_of_block (i := 3) HKA.out).trans rfl
          have hal := lt_of_block HKA.out
          clear c0 c1 c2 c3
          go_cut [80] (fun s80 w2 => s80 = .bool (!conc l x || toldL G x.se x.pl x.ki) ∧ Aside (Below wa.heap.size wa w2))
          case first =>
            cases hcn : conc l x
            case false =>
              rw [hcn] at HCC
              go_wp2_with (go_at_call 24; refine HCC.out.mono ?_; rintro e w2 ⟨rfl, hb2⟩; have HB2 := Lib.hid hb2; clear hb2)
              go_meet
              exact ⟨by simp [*], HB2.out⟩
            rw [hcn] at HCC
            go_wp2_with fail
            refine HCC.out.mono ?_
            rintro e w2 ⟨rfl, hb2⟩
            have HB2 := Lib.hid hb2
            have HTC2 := Lib.hid (HTC.out w2 hb2)
            have hk2 := (hb2.block _ hal).trans HKA.out
            have b0 := (cell_of_block (i := 0) hk2).trans rfl
            have b1 := (cell_of_block (i := 1) hk2).trans rfl
            have b2 := (cell_of_block (i := 2) hk2).trans rfl
            have b3 := (cell_of_block (i := 3) hk2).trans rfl
            have hbl := lt_of_block hk2
            clear hb2 hk2 a0 a1 a2 a3
            go_wp2_with fail
            refine HTC2.out.mono ?_
            rintro e w3 ⟨rfl, hb3⟩
            have HB3 := Lib.hid (HB2.out.thru hb3)
            clear hb3
            go_wp2
            go_meet
            exact ⟨by simp [*], HB3.out⟩
          obtain ⟨rfl, HB2⟩ := hcut
          have HOI2 := Lib.hid (HOI.out.below HB2.out (Nat.le_refl _))
          have HOG2 := Lib.hid (HOG.out.below HB2.out (Nat.le_refl _))
          have HBC := Lib.hid (HBA.out.thru HB2.out)
          have hbc := HBC.out.size
          have hk2 := (HB2.out.block _ hal).trans HKA.out
          have b0 := (cell_of_block (i := 0) hk2).trans rfl
          have b1 := (cell_of_block (i := 1) hk2).trans rfl
          have b2 := (cell_of_block (i := 2) hk2).trans rfl
          have b3 := (cell_of_block (i := 3) hk2).trans rfl
          have hbl := lt_of_block hk2
          have HLI : Hid ((I.length + 1) * 8 ≤ 140737488355328) := Lib.hid (by have := HLN.out; omega)
          have HLG : Hid ((G.length + 1) * 48 ≤ 140737488355328) := Lib.hid (by have := HLN.out; omega)
          clear hk2 a0 a1 a2 a3
          obtain ⟨T, hT⟩ : ∃ T, T = (!conc l x || toldL G x.se x.pl x.ki) := ⟨_, rfl⟩
          rw [← hT] at HID HGD ⊢
          clear hT HB2 HTC HCC HOI HOG HBA
          cases T
          case true =>
            have HNX := Lib.hid (HID.out rfl)
            go_wp2_with (at_builtin; refine wpList_pushK rfl _ _ 25 rfl slI rfl rfl (kk : Int) rfl rfl rfl HOI2.out rfl HLI.out hbc ?_; intro v5 w5 ho5 hb5 hk5; have HO5 := Lib.hid ho5; have HG5 := Lib.hid (HOG2.out.keepT hk5 (by decide)); have HB5 := Lib.hid (HBC.out.trans hb5); clear ho5 hb5 hk5)
            go_roundg (es.length - (kk + 1))
            case measure => omega
            case rel => exact ⟨kk + 1, by omega, by omega, by go_num, HB5.out, (show Own _ _ _ _ _ _ _ from by rw [HNX.out]; exact HO5.out), (show Own _ _ _ _ _ _ _ from by rw [HNX.out]; exact HG5.out)⟩
          case false =>
            have HNX := Lib.hid (HGD.out rfl)
            go_wp2_with (at_builtin; refine wpList_pushK rfl _ _ 23 rfl slE rfl rfl x rfl rfl rfl HOG2.out rfl HLG.out hbc ?_; intro v5 w5 ho5 hb5 hk5; have HO5 := Lib.hid ho5; have HI5 := Lib.hid (HOI2.out.keepT hk5 (by decide)); have HB5 := Lib.hid (HBC.out.trans hb5); clear ho5 hb5 hk5)
            go_roundg (es.length - (kk + 1))
            case measure => omega
            case rel => exact ⟨kk + 1, by omega, by omega, by go_num, HB5.out, (show Own _ _ _ _ _ _ _ from by rw [HNX.out]; exact HI5.out), (show Own _ _ _ _ _ _ _ from by rw [HNX.out]; exact HO5.out)⟩
        · have hltz : ¬ (kk : Int) < (es.length : Int) := by omega
          obtain rfl : kk = es.length := by omega
          have hwb := BW.out.size
          have HB0 := Lib.hid BW.out
          have HIE := Lib.hid OI.out
          have HGE := Lib.hid (OG.out.sl encE_len)
          have HNA := Lib.hid (names_any wr l _ (HL.out.below BW.out (Nat.le_refl _)) hl1000)
          have HNL := Lib.hid (nmN_len l l.length)
          have HCL : Hid (cntL l (stN l es es.length).1 = (nmN l l.length).map fun ad => cntS (stN l es es.length).1 ad (stN l es es.length).1) := Lib.hid rfl
          have hGL : (stN l es es.length).1.length ≤ 5000 := by have := HLN.out; omega
          have HPM := Lib.hid (fun (W : World) (v1 v2 : Value) h1 h2 h3 => CntPost.mk (w := w) (w' := W) (l := l) (es := es) (v1 := v1) (v2 := v2) HZ.out h1 h2 h3)
          obtain ⟨I, hI⟩ : ∃ I, I = (stN l es es.length).2 := ⟨_, rfl⟩
          obtain ⟨G, hG⟩ : ∃ G, G = (stN l es es.length).1 := ⟨_, rfl⟩
          obtain ⟨N, hN⟩ : ∃ N, N = nmN l l.length := ⟨_, rfl⟩
          rw [← hI] at HIE HPM
          rw [← hG] at HGE HPM HCL hGL
          rw [← hN] at HNA HNL HCL
          clear hI hG hN BW OI OG HLN hltz hg hkk HEEL HZA HEB HB1
          go_upto_region 23 with (fail)
          go_wp2_with fail
          refine HNA.out.mono ?_
          rintro e w3 ⟨nv, rfl, hns, hnb⟩
          have HNS := Lib.hid hns
          have HB3 := Lib.hid (HB0.out.thru hnb)
          have HI3 := Lib.hid (HIE.out.below hnb (Nat.le_refl _))
          have HG3 := Lib.hid (HGE.out.below hnb (Nat.le_refl _))
          obtain ⟨no, ncap, rfl, hn1, hn2, hn3, hnel⟩ := hns
          obtain ⟨go, gcap, hgv, hgc1, hgc2, hgc3, hgel⟩ := HG3.out
          simp only [Value.slice.injEq] at hgv
          obtain ⟨rfl, rfl, rfl⟩ := hgv
          unfold maxLen at hgc2
          have HGEL := Lib.hid hgel
          clear hgel hgc3
          unfold maxLen at hn2
          have HNEL := Lib.hid hnel
          have hN1000 : N.length ≤ 1000 := by have := HNL.out; omega
          have hw3 := HB3.out.size
          clear hnel hnb hn3 HNA HNL
          go_wp2
          go_loopg [13, 92] N.length (fun gg s13 s92 wq => ∃ jj : Nat, jj ≤ N.length ∧ N.length - jj ≤ gg ∧ s92 = .int .i64 jj ∧ Aside (Below w3.heap.size w3 wq) ∧ Aside (Own wq w3.heap.size 32 6 encK s13 ((N.take jj).map fun ad => cntS G ad G)))
          case atStart => exact ⟨0, Nat.zero_le _, by omega, rfl, Below.refl _ w3, (show Own _ _ _ _ _ _ _ from Own.nil)⟩
          case round =>
            obtain ⟨jj, hjj, hg3, rfl, BQ, OQ⟩ := hrel
            obtain ⟨qa, qL, qc, rfl⟩ := Own.slv encK_len OQ.out
            by_cases hlt : jj < N.length
            · have hltz : (jj : Int) < (N.length : Int) := by omega
              obtain ⟨ad, hx⟩ : ∃ x, N[jj]? = some x := ⟨N[jj], by simp [hlt]⟩
              obtain ⟨nb, noff, rfl, hc⟩ := HNEL.out jj ad hx
              have hlt0 := World.block_lt_of_cell? w3 _ (hc 0 _ rfl)
              have c0 : wr.cell? ⟨nb, noff + jj, none⟩ = some (.string ad) := by have h := (BQ.out.cell (p := ⟨nb, noff + jj * 1 + 0, none⟩) hlt0).trans (hc 0 _ rfl); simpa using h
              have HNX := Lib.hid (take_next hx)
              have hqs := BQ.out.size
              obtain ⟨wj, rfl⟩ : ∃ wj, wj = wr := ⟨_, rfl⟩
              clear hx hc
              go_upto_region 27 with (fail)
              obtain ⟨wa, hwa⟩ : ∃ wa, wa = wj.alloc (.cells #[.string ad, .int .i64 0, .int .i64 0, .int .i64 0, .int .i64 0, .int .i64 0] 32) := ⟨_, rfl⟩
              have HKP : Hid (wa.heap[wj.heap.size]? = some (.cells #[.string ad, .int .i64 0, .int .i64 0, .int .i64 0, .int .i64 0, .int .i64 0] 32 (0, 0))) := Lib.hid (by rw [hwa]; exact block_new wj _)
              have HBA : Hid (Below wj.heap.size wj wa) := Lib.hid (by rw [hwa]; exact (Below.refl _ _).alloc (Nat.le_refl _) _)
              have HPL := Lib.hid (lt_of_block HKP.out)
              rw [← hwa]
              clear hwa
              have HPZ := Lib.hid (Nat.le_refl wj.heap.size)
              obtain ⟨P, hP⟩ : ∃ P, P = wj.heap.size := ⟨_, rfl⟩
              rw [← hP] at HKP HBA HPL ⊢
              have HPE := Lib.hid hP
              clear hP
              go_wp2
              go_loopg [17] G.length (fun gg s17 wz => ∃ (i : Nat) (x0 x1 x2 x3 x4 : Int), i ≤ G.length ∧ G.length - i ≤ gg ∧ s17 = .int .i64 i ∧ Aside (Below P wj wz) ∧ Aside (wz.heap[P]? = some (.cells #[.string ad, .int .i64 x0, .int .i64 x1, .int .i64 x2, .int .i64 x3, .int .i64 x4] 32 (0, 0))) ∧
                Aside (x0 = cK G ad 0 (G.take i) ∧ x1 = cK G ad 1 (G.take i) ∧ x2 = cK G ad 2 (G.take i) ∧ x3 = cK G ad 3 (G.take i) ∧ x4 = cK G ad 4 (G.take i)))
              case atStart => exact ⟨0, 0, 0, 0, 0, 0, Nat.zero_le _, by omega, rfl, HBA.out, HKP.out, (show Aside _ from ⟨rfl, rfl, rfl, rfl, rfl⟩)⟩
              case round =>
                obtain ⟨i, x0, x1, x2, x3, x4, hi, hg4, rfl, BZ, KZ, XZ⟩ := hrel
                by_cases hlt4 : i < G.length
                · have hltz4 : (i : Int) < (G.length : Int) := by omega
                  obtain ⟨x, hx⟩ : ∃ x, G[i]? = some x := ⟨G[i], by simp [hlt4]⟩
                  obtain ⟨b, off, rfl, hc⟩ := HGEL.out i x hx
                  have hlt3 : b < w3.heap.size := World.block_lt_of_cell? w3 _ (hc 0 _ rfl)
                  have hlt3P : b < P := by have h1 := HPE.out; have h2 := BQ.out.size; omega
                  have hmv : ∀ (j : Nat) z, w3.cell? ⟨b, off + i * 4 + j, none⟩ = some z → wr.cell? ⟨b, off + i * 4 + j, none⟩ = some z := fun j z h => (BZ.out.cell (p := ⟨b, off + i * 4 + j, none⟩) hlt3P).trans ((BQ.out.cell (p := ⟨b, off + i * 4 + j, none⟩) hlt3).trans h)
                  have c0 : wr.cell? ⟨b, off + i * 4, none⟩ = some (.string x.se) := hmv 0 _ (hc 0 _ rfl)
                  have c1 := hmv 1 _ (hc 1 _ rfl)
                  have c2 := hmv 2 _ (hc 2 _ rfl)
                  have c3 := hmv 3 _ (hc 3 _ rfl)
                  have HN0 := Lib.hid (fun n => cK_next (ad := ad) (n := n) hx)
                  have hPw := lt_of_block KZ.out
                  obtain ⟨wy, rfl⟩ : ∃ wy, wy = wr := ⟨_, rfl⟩
                  clear hx hc hmv
                  go_upto_region 31 with (fail)
                  obtain ⟨wb, hwb2⟩ : ∃ wb, wb = wy.alloc (.cells #[.string x.se, .int .i64 x.pl, .string x.ad, .int .i64 x.ki] 37) := ⟨_, rfl⟩
                  have HKQ : Hid (wb.heap[wy.heap.size]? = some (.cells #[.string x.se, .int .i64 x.pl, .string x.ad, .int .i64 x.ki] 37 (0, 0))) := Lib.hid (by rw [hwb2]; exact block_new wy _)
                  have HKZ : Hid (wb.heap[P]? = some (.cells #[.string ad, .int .i64 x0, .int .i64 x1, .int .i64 x2, .int .i64 x3, .int .i64 x4] 32 (0, 0))) := Lib.hid (by rw [hwb2]; exact (heap_alloc_old wy _ hPw).trans KZ.out)
                  have HBB : Hid (Below P wj wb) := Lib.hid (by rw [hwb2]; exact BZ.out.alloc (Nat.le_of_lt hPw) _)
                  rw [← hwb2]
                  clear hwb2 c0 c1 c2 c3
                  obtain ⟨Q, hQ⟩ : ∃ Q, Q = wy.heap.size := ⟨_, rfl⟩
                  rw [← hQ] at HKQ ⊢
                  have HQP : Hid (Q ≠ P) := Lib.hid (by omega)
                  clear hQ hPw BZ KZ
                  have q0 := (cell_of_block (i := 0) HKQ.out).trans rfl
                  have q1 := (cell_of_block (i := 1) HKQ.out).trans rfl
                  have q2 := (cell_of_block (i := 2) HKQ.out).trans rfl
                  have q3 := (cell_of_block (i := 3) HKQ.out).trans rfl
                  have hql := lt_of_block HKQ.out
                  go_cut [116] (fun s116 w2 => s116 = .bool (!(x.ad.toList == ad.toList) || (x.ki != 1)) ∧ w2 = wb)
                  case first =>
                    cases h1 : x.ad.toList == ad.toList
                    all_goals
                      go_wp2
                      go_meet
                      exact ⟨by simp [*], rfl⟩
                  obtain ⟨rfl, rfl⟩ := hcut
                  have HIS : Hid (∀ n, isK G ad n x = (!(!(x.ad.toList == ad.toList) || (x.ki != 1)) && upTo G (keyE x) n)) := Lib.hid (fun n => by
                    unfold isK bne
                    cases (x.ad.toList == ad.toList) <;> cases (x.ki == 1) <;> rfl)
                  generalize (!(x.ad.toList == ad.toList) || (x.ki != 1)) = T at HIS ⊢
                  cases T
                  case true =>
                    have HZ0 : Hid (∀ n, (cK G ad n (G.take (i + 1)) : Int) = cK G ad n (G.take i)) := Lib.hid (fun n => by rw [HN0.out n, HIS.out n]; simp)
                    go_wp2
                    go_roundg (G.length - (i + 1))
                    case measure => omega
                    case rel => exact ⟨i + 1, x0, x1, x2, x3, x4, by omega, by omega, by go_num, HBB.out, HKZ.out, (show Aside _ from by rw [HZ0.out, HZ0.out, HZ0.out, HZ0.out, HZ0.out]; exact XZ.out)⟩
                  have HUP : Hid (∀ n, (cK G ad n (G.take (i + 1)) : Int) = cK G ad n (G.take i) + if upTo G (keyE x) n = true then 1 else 0) := Lib.hid (fun n => by rw [HN0.out n, HIS.out n]; rfl)
                  have hbx : ∀ n, (cK G ad n (G.take i) : Int) ≤ 5000 := fun n => by have := cK_le G ad n (G.take i); have h2 : (G.take i).length ≤ i := by simp; omega
                                                                                     omega
                  have HXB : Hid ((0 ≤ x0 ∧ x0 ≤ 5000) ∧ (0 ≤ x1 ∧ x1 ≤ 5000) ∧ (0 ≤ x2 ∧ x2 ≤ 5000) ∧ (0 ≤ x3 ∧ x3 ≤ 5000) ∧ (0 ≤ x4 ∧ x4 ≤ 5000)) := Lib.hid (by
                    obtain ⟨h0, h1, h2, h3, h4⟩ := XZ.out
                    have := hbx 0; have := hbx 1; have := hbx 2; have := hbx 3; have := hbx 4
                    omega)
                  clear hbx HIS HN0 q0 q1 q2 q3
                  go_wp2
                  go_loopg [19] 6 (fun gg5 s19 wv => ∃ (k y0 y1 y2 y3 y4 : Int), 1 ≤ k ∧ k ≤ 6 ∧ (6 - k).toNat ≤ gg5 ∧ s19 = .int .i64 k ∧ Aside (Below P wj wv) ∧ Aside (wv.heap[P]? = some (.cells #[.string ad, .int .i64 y0, .int .i64 y1, .int .i64 y2, .int .i64 y3, .int .i64 y4] 32 (0, 0))) ∧ Aside (wv.heap[Q]? = some (.cells #[.string x.se, .int .i64 x.pl, .string x.ad, .int .i64 x.ki] 37 (0, 0))) ∧
                    Aside (y0 = x0 + dK k 0 ∧ y1 = x1 + dK k 1 ∧ y2 = x2 + dK k 2 ∧ y3 = x3 + dK k 3 ∧ y4 = x4 + dK k 4) ∧ Aside (∀ m : Nat, (m : Int) + 1 < k → upTo G (keyE x) m = true))
                  case atStart => exact ⟨1, x0, x1, x2, x3, x4, by omega, by omega, by omega, rfl, HBB.out, HKZ.out, HKQ.out, (show Aside _ from by unfold dK; refine ⟨?_, ?_, ?_, ?_, ?_⟩ <;> omega), (show Aside _ from fun m hm => by omega)⟩
                  case round =>
                    obtain ⟨k, y0, y1, y2, y3, y4, hk1, hk6, hg5, rfl, BY, KP, KQ, YE, UP⟩ := hrel
                    have q0 := (cell_of_block (i := 0) KQ.out).trans rfl
                    have q1 := (cell_of_block (i := 1) KQ.out).trans rfl
                    have hql := lt_of_block KQ.out
                    have hpl := lt_of_block KP.out
                    have HTC := Lib.hid (told_any wr G _ x.se x.pl k (HG3.out.below (BQ.out.trans (BY.out.mono (by have h1 := HPE.out; have h2 := BQ.out.size; omega))) (Nat.le_refl _)))
                    go_upto_region 33 with (fail)
                    go_cut [127] (fun s127 w2 => s127 = .bool (decide (k ≤ 5) && toldL G x.se x.pl k) ∧ Aside (Below wr.heap.size wr w2))
                    case first =>
                      by_cases h5 : k ≤ 5
                      · have h5d : decide (k ≤ 5) = true := decide_eq_true h5
                        go_wp2_with (go_at_call 25; refine HTC.out.mono ?_; rintro e w2 ⟨rfl, hb2⟩; have HB2 := Lib.hid hb2; clear hb2)
                        go_meet
                        exact ⟨by simp [*], HB2.out⟩
                      · have h5d : decide (k ≤ 5) = false := decide_eq_false h5
                        go_wp2
                        go_meet
                        exact ⟨by simp [*], Below.refl _ _⟩
                    obtain ⟨rfl, HB2⟩ := hcut
                    have BY2 := Lib.hid (BY.out.trans (HB2.out.mono (Nat.le_of_lt hpl)))
                    have KP2 := Lib.hid ((HB2.out.block _ hpl).trans KP.out)
                    have KQ2 := Lib.hid ((HB2.out.block _ hql).trans KQ.out)
                    have p1 := (cell_of_block (i := 1) KP2.out).trans rfl
                    have p2 := (cell_of_block (i := 2) KP2.out).trans rfl
                    have p3 := (cell_of_block (i := 3) KP2.out).trans rfl
                    have p4 := (cell_of_block (i := 4) KP2.out).trans rfl
                    have p5 := (cell_of_block (i := 5) KP2.out).trans rfl
                    have z1 := frz_of (i := 1) KP2.out
                    have z2 := frz_of (i := 2) KP2.out
                    have z3 := frz_of (i := 3) KP2.out
                    have z4 := frz_of (i := 4) KP2.out
                    have z5 := frz_of (i := 5) KP2.out
                    have hpl2 := lt_of_block KP2.out
                    clear q0 q1 hql hpl HTC
                    cases hT2 : (decide (k ≤ 5) && toldL G x.se x.pl k)
                    case false =>
                      have HEND : Hid (k ≤ 5 → toldL G (keyE x).se (keyE x).pl k = false) := Lib.hid (fun h => by rw [decide_eq_true h, Bool.true_and] at hT2; exact hT2)
                      have HDU : Hid (∀ n : Nat, n < 5 → dK k n = if upTo G (keyE x) n = true then 1 else 0) := Lib.hid (fun n hn => dK_up hk1 hk6 hn UP.out HEND.out)
                      clear hT2
                      go_wp2
                      go_roundg (G.length - (i + 1))
                      case measure => omega
                      case rel => exact ⟨i + 1, y0, y1, y2, y3, y4, by omega, by omega, by go_num, BY2.out, KP2.out, (show Aside _ from by
                        obtain ⟨h0, h1, h2, h3, h4⟩ := YE.out
                        obtain ⟨g0, g1, g2, g3, g4⟩ := XZ.out
                        rw [HUP.out, HUP.out, HUP.out, HUP.out, HUP.out, ← HDU.out 0 (by omega), ← HDU.out 1 (by omega), ← HDU.out 2 (by omega), ← HDU.out 3 (by omega), ← HDU.out 4 (by omega), h0, h1, h2, h3, h4, g0, g1, g2, g3, g4]
                        exact ⟨rfl, rfl, rfl, rfl, rfl⟩)⟩
                    case true =>
                      have HTT : Hid (toldL G (keyE x).se (keyE x).pl k = true) := Lib.hid (by rw [Bool.and_eq_true] at hT2; exact hT2.2)
                      have hk5 : k ≤ 5 := by rw [Bool.and_eq_true] at hT2; exact of_decide_eq_true hT2.1
                      clear hT2
                      have HYB : Hid ((0 ≤ y0 ∧ y0 ≤ 5001) ∧ (0 ≤ y1 ∧ y1 ≤ 5001) ∧ (0 ≤ y2 ∧ y2 ≤ 5001) ∧ (0 ≤ y3 ∧ y3 ≤ 5001) ∧ (0 ≤ y4 ∧ y4 ≤ 5001)) := Lib.hid (by
                        obtain ⟨h0, h1, h2, h3, h4⟩ := YE.out
                        obtain ⟨g0, g1, g2, g3, g4⟩ := HXB.out
                        unfold dK at *
                        omega)
                      obtain ⟨⟨v0, u0⟩, ⟨v1, u1⟩, ⟨v2, u2⟩, ⟨v3, u3⟩, ⟨v4, u4⟩⟩ := HYB.out
                      have hkk : k = 1 ∨ k = 2 ∨ k = 3 ∨ k = 4 ∨ k = 5 := by omega
                      rcases hkk with rfl | rfl | rfl | rfl | rfl
                      · have hy : -9223372036854775808 ≤ y0 + 1 ∧ y0 + 1 ≤ 9223372036854775807 := by omega
                        have hwr : IntKind.i64.wrap (y0 + 1) = y0 + 1 := IntWalk.i64_in _ hy
                        have hkz : IntKind.i64.wrap ((1 : Int) - 1) = 0 := rfl
                        go_wp2
                        go_roundg (6 - 2)
                        case measure => omega
                        case rel => exact ⟨2, y0 + 1, y1, y2, y3, y4, by omega, by omega, by omega, by go_num, BY2.out.setCell (Nat.le_refl _) _, (heap_setCell_same _ P _ _ _ _ KP2.out).trans rfl, (Below.heap_setCell _ ⟨P, 1, none⟩ _ _ HQP.out).trans KQ2.out, (show Aside _ from by obtain ⟨h0, h1, h2, h3, h4⟩ := YE.out; unfold dK at *; refine ⟨?_, ?_, ?_, ?_, ?_⟩ <;> omega), (show Aside _ from upTo_next (by omega) UP.out HTT.out)⟩
                      · have hy : -9223372036854775808 ≤ y1 + 1 ∧ y1 + 1 ≤ 9223372036854775807 := by omega
                        have hwr : IntKind.i64.wrap (y1 + 1) = y1 + 1 := IntWalk.i64_in _ hy
                        have hkz : IntKind.i64.wrap ((2 : Int) - 1) = 1 := rfl
                        go_wp2
                        go_roundg (6 - 3)
                        case measure => omega
                        case rel => exact ⟨3, y0, y1 + 1, y2, y3, y4, by omega, by omega, by omega, by go_num, BY2.out.setCell (Nat.le_refl _) _, (heap_setCell_same _ P _ _ _ _ KP2.out).trans rfl, (Below.heap_setCell _ ⟨P, 2, none⟩ _ _ HQP.out).trans KQ2.out, (show Aside _ from by obtain ⟨h0, h1, h2, h3, h4⟩ := YE.out; unfold dK at *; refine ⟨?_, ?_, ?_, ?_, ?_⟩ <;> omega), (show Aside _ from upTo_next (by omega) UP.out HTT.out)⟩
                      · have hy : -9223372036854775808 ≤ y2 + 1 ∧ y2 + 1 ≤ 9223372036854775807 := by omega
                        have hwr : IntKind.i64.wrap (y2 + 1) = y2 + 1 := IntWalk.i64_in _ hy
                        have hkz : IntKind.i64.wrap ((3 : Int) - 1) = 2 := rfl
                        go_wp2
                        go_roundg (6 - 4)
                        case measure => omega
                        case rel => exact ⟨4, y0, y1, y2 + 1, y3, y4, by omega, by omega, by omega, by go_num, BY2.out.setCell (Nat.le_refl _) _, (heap_setCell_same _ P _ _ _ _ KP2.out).trans rfl, (Below.heap_setCell _ ⟨P, 3, none⟩ _ _ HQP.out).trans KQ2.out, (show Aside _ from by obtain ⟨h0, h1, h2, h3, h4⟩ := YE.out; unfold dK at *; refine ⟨?_, ?_, ?_, ?_, ?_⟩ <;> omega), (show Aside _ from upTo_next (by omega) UP.out HTT.out)⟩
                      · have hy : -9223372036854775808 ≤ y3 + 1 ∧ y3 + 1 ≤ 9223372036854775807 := by omega
                        have hwr : IntKind.i64.wrap (y3 + 1) = y3 + 1 := IntWalk.i64_in _ hy
                        have hkz : IntKind.i64.wrap ((4 : Int) - 1) = 3 := rfl
                        go_wp2
                        go_roundg (6 - 5)
                        case measure => omega
                        case rel => exact ⟨5, y0, y1, y2, y3 + 1, y4, by omega, by omega, by omega, by go_num, BY2.out.setCell (Nat.le_refl _) _, (heap_setCell_same _ P _ _ _ _ KP2.out).trans rfl, (Below.heap_setCell _ ⟨P, 4, none⟩ _ _ HQP.out).trans KQ2.out, (show Aside _ from by obtain ⟨h0, h1, h2, h3, h4⟩ := YE.out; unfold dK at *; refine ⟨?_, ?_, ?_, ?_, ?_⟩ <;> omega), (show Aside _ from upTo_next (by omega) UP.out HTT.out)⟩
                      · have hy : -9223372036854775808 ≤ y4 + 1 ∧ y4 + 1 ≤ 9223372036854775807 := by omega
                        have hwr : IntKind.i64.wrap (y4 + 1) = y4 + 1 := IntWalk.i64_in _ hy
                        have hkz : IntKind.i64.wrap ((5 : Int) - 1) = 4 := rfl
                        go_wp2
                        go_roundg (6 - 6)
                        case measure => omega
                        case rel => exact ⟨6, y0, y1, y2, y3, y4 + 1, by omega, by omega, by omega, by go_num, BY2.out.setCell (Nat.le_refl _) _, (heap_setCell_same _ P _ _ _ _ KP2.out).trans rfl, (Below.heap_setCell _ ⟨P, 5, none⟩ _ _ HQP.out).trans KQ2.out, (show Aside _ from by obtain ⟨h0, h1, h2, h3, h4⟩ := YE.out; unfold dK at *; refine ⟨?_, ?_, ?_, ?_, ?_⟩ <;> omega), (show Aside _ from upTo_next (by omega) UP.out HTT.out)⟩
                · have hltz4 : ¬ (i : Int) < (G.length : Int) := by omega
                  obtain rfl : i = G.length := by omega
                  have hyK : Hid ((⟨ad, x0, x1, x2, x3, x4⟩ : Cnt) = cntS G ad G) := Lib.hid (by
                    obtain ⟨h0, h1, h2, h3, h4⟩ := XZ.out
                    rw [List.take_length] at h0 h1 h2 h3 h4
                    unfold cntS
                    rw [h0, h1, h2, h3, h4])
                  have p0 := (cell_of_block (i := 0) KZ.out).trans rfl
                  have p1 := (cell_of_block (i := 1) KZ.out).trans rfl
                  have p2 := (cell_of_block (i := 2) KZ.out).trans rfl
                  have p3 := (cell_of_block (i := 3) KZ.out).trans rfl
                  have p4 := (cell_of_block (i := 4) KZ.out).trans rfl
                  have p5 := (cell_of_block (i := 5) KZ.out).trans rfl
                  have hpl := lt_of_block KZ.out
                  have HBZ := Lib.hid (BQ.out.trans (BZ.out.mono (by have h1 := HPE.out; have h2 := BQ.out.size; omega)))
                  have hbz := HBZ.out.size
                  have HOQ := Lib.hid (OQ.out.below BZ.out (Nat.le_of_eq HPE.out.symm))
                  have HLB : Hid ((((N.take jj).map fun ad => cntS G ad G).length + 1) * 56 ≤ 140737488355328) := Lib.hid (by simp; omega)
                  clear BZ KZ XZ
                  go_wp2_with (at_builtin; refine wpList_push rfl _ _ 24 rfl slK rfl rfl (⟨ad, x0, x1, x2, x3, x4⟩ : Cnt) rfl rfl rfl HOQ.out rfl HLB.out hbz ?_; intro v5 w5 ho5 hb5; have HO5 := Lib.hid ho5; have HB5 := Lib.hid (HBZ.out.trans hb5); clear ho5 hb5)
                  go_roundg (N.length - (jj + 1))
                  case measure => omega
                  case rel => exact ⟨jj + 1, by omega, by omega, by go_num, HB5.out, (show Own _ _ _ _ _ _ _ from by rw [HNX.out, List.map_append, List.map_singleton, ← hyK.out]; exact HO5.out)⟩
            · have hltz : ¬ (jj : Int) < (N.length : Int) := by omega
              obtain rfl : jj = N.length := by omega
              have HO6 : Hid (Sl wr 6 encK (.slice qa qL qc) (cntL l G)) := Lib.hid (by
                have h := OQ.out.sl encK_len
                rw [List.take_length] at h
                rw [HCL.out]
                exact h)
              have HI6 := Lib.hid ((HI3.out.below BQ.out (Nat.le_refl _)).sl encI_len)
              have HB6 := Lib.hid (HB3.out.trans (BQ.out.mono hw3))
              go_wp2
              go_ret3
              exact HPM.out _ _ _ HO6.out HI6.out HB6.out
end Go.Proofs.Ytaoamechajffbaa

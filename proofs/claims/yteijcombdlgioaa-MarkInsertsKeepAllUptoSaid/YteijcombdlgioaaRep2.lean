/- Replaced of the reference. -/
import Derived.Test.YteijcombdlgioaaRep1
import Derived.Test.YteijcombdlgioaaIns2
import Derived.Test.YteijcombdlgioaaRcb
namespace Go.Proofs.Yteijcombdlgioaa
open Go.RowKit

theorem sumA_le {l : List Adv} (h : ∀ a, a ∈ l → 1 ≤ a.ln ∧ a.ln ≤ 1000000000000000) (m : Nat) : sumA (l.take m) ≤ sumA l := by
  conv => rhs; rw [← List.take_append_drop m l, sumA_append]
  have := sumA_nn (l := l.drop m) fun a ha => h a (List.mem_of_mem_drop ha)
  omega

set_option maxRecDepth 100000 in
set_option maxHeartbeats 4000000 in
theorem replacedR_any (w : World) (P : Int) (bl : List Brk) (u : Value) (ads : List AdS) (v : Value) (hs : Sl w 3 encB u bl) (hl : Sl w 1 encS v ads) (hw : ∀ y, y ∈ ads → WfS w y) (hcnt : cntS ads ≤ 1000000000) :
    Calls Try.prog 29 #[.int .i64 P, u, v] w (SlPost w 3 encP (repRL P bl ads) (repRF P bl ads)) := by
  have hcb := checkBreaksR_any w bl u hs
  have hce := @checkB_each bl
  obtain ⟨ao, cap, rfl, hcap, hmax, hnil, hel⟩ := hl
  obtain ⟨bo, cbp, rfl, hcbp, hmbx, hnbl, hem⟩ := hs
  unfold maxLen at hmax hmbx
  have hF0 : repF0 P bl ads = if outB P 0 1000000000000000 = true then 1 else if bl.length ≠ ads.length then 3 else if checkB bl ≠ 0 then checkB bl else FF (repF1 P bl ads) bl.length := rfl
  have hRF : repRF P bl ads = if repF0 P bl ads ≠ 0 then repF0 P bl ads else checkP (repZ P bl ads) := rfl
  have hRL : repRL P bl ads = if repF0 P bl ads ≠ 0 then [] else rightL (repZ P bl ads) := rfl
  generalize repF0 P bl ads = F0 at hF0 hRF hRL
  generalize repRF P bl ads = RF at hRF ⊢
  generalize repRL P bl ads = RL at hRL ⊢
  have HBAD : Hid (∀ z, z = F0 → z ≠ 0 → z = RF ∧ RL = []) := Lib.hid (fun z h hz => by subst h; exact ⟨by rw [hRF, if_pos hz], by rw [hRL, if_pos hz]⟩)
  have HGOOD : Hid (0 = F0 → RF = checkP (repZ P bl ads) ∧ RL = rightL (repZ P bl ads)) := Lib.hid (fun h => by subst h; exact ⟨by rw [hRF, if_neg (by simp)], by rw [hRL, if_neg (by simp)]⟩)
  have HCH : Hid (checkB bl = checkB bl) := Lib.hid rfl
  have hcs := fun h => @repS_bd P bl ads h
  have hcl := fun h h0 => @repL_PB P bl ads h h0
  generalize checkB bl = C at hcb hce hF0 hcs hcl
  have HF0 := Lib.hid hF0
  have HEL := Lib.hid hel
  have HEM := Lib.hid hem
  have HW := Lib.hid hw
  have HCN := Lib.hid hcnt
  have HCE := Lib.hid hce
  have HCS := Lib.hid hcs
  have HCL := Lib.hid hcl
  clear hF0 hRF hRL hel hem hw hcnt hce HCH hcs hcl
  cases o1 : outB P 0 1000000000000000
  case true =>
    have hv := Lib.hid (HBAD.out 1 (by rw [HF0.out, o1]; rfl) (by decide))
    go_enter Try.func29, Try.ntmps29
    go_wp2_with (go_at_call 35; refine (within_any _ _ _ _).mono ?_; rintro e w' ⟨rfl, rfl⟩)
    go_ret2
    exact SlPost.mk hv.out.1 (by rw [hv.out.2]; exact Sl.nil) (Below.refl _ _)
  have hP := outB_no o1
  obtain ⟨hP0, hP1⟩ := hP
  cases e1 : ((bl.length : Int) != (ads.length : Int))
  case true =>
    have e1' : (bl.length != ads.length) = true := by simp at e1 ⊢; omega
    have hv := Lib.hid (HBAD.out 3 (by rw [HF0.out, o1, if_neg (by simp), if_pos (by simpa using e1')]) (by decide))
    go_enter Try.func29, Try.ntmps29
    go_wp2_with (go_at_call 35; refine (within_any _ _ _ _).mono ?_; rintro e w' ⟨rfl, rfl⟩)
    go_ret2
    exact SlPost.mk hv.out.1 (by rw [hv.out.2]; exact Sl.nil) (Below.refl _ _)
  have hlen : bl.length = ads.length := by simp at e1; omega
  have e1' : (bl.length != ads.length) = false := by simp [hlen]
  have hF1 : Hid (F0 = if C ≠ 0 then C else FF (repF1 P bl ads) bl.length) := Lib.hid (by rw [HF0.out, o1, if_neg (by simp), if_neg (by simp [hlen])])
  have HLEN := Lib.hid hlen
  clear HF0
  cases e2 : (C != 0)
  case true =>
    have hne : C ≠ 0 := by simpa using e2
    have hv := Lib.hid (HBAD.out C (by rw [hF1.out, if_pos hne]) hne)
    clear hlen hne
    go_enter Try.func29, Try.ntmps29
    go_wp2_with (first | (go_at_call 35; refine (within_any _ _ _ _).mono ?_; rintro e w' ⟨rfl, rfl⟩) | (go_at_call 55; refine hcb.mono ?_; rintro e w' ⟨rfl, hb'⟩))
    go_ret2
    exact SlPost.mk hv.out.1 (by rw [hv.out.2]; exact Sl.nil) hb'
  obtain rfl : C = 0 := by simpa using e2
  clear e2
  have hF2 : Hid (F0 = FF (repF1 P bl ads) bl.length) := Lib.hid (by rw [hF1.out]; rfl)
  have hb200 := (HCE.out rfl).1
  have HCE2 := Lib.hid (HCE.out rfl).2
  have HCS2 := Lib.hid (fun k h1 h2 => HCS.out hP0 rfl k h1 h2)
  have HCL2 := Lib.hid (fun k h1 h2 => HCL.out hP1 hP0 rfl k h1 h2)
  clear HCE HCS HCL
  have hll : (bl.length : Int) ≤ (ads.length : Int) := by omega
  have hll2 : (ads.length : Int) ≤ (bl.length : Int) := by omega
  clear hlen hF1
  go_enter Try.func29, Try.ntmps29
  go_wp2_with (first | (go_at_call 35; refine (within_any _ _ _ _).mono ?_; rintro e w' ⟨rfl, rfl⟩) | (go_at_call 55; refine hcb.mono ?_; rintro e w1 ⟨rfl, hb1⟩))
  have HB1 := Lib.hid hb1
  have HEL1 := Lib.hid (el_below HEL.out hb1 (Nat.le_refl _))
  have HEM1 := Lib.hid (el_below HEM.out hb1 (Nat.le_refl _))
  have HW1 : Hid (∀ y, y ∈ ads → WfS w1 y) := Lib.hid fun y hy => ⟨(HW.out y hy).1.below hb1 (Nat.le_refl _), (HW.out y hy).2⟩
  clear hb1 hcb HEL HEM HW
  go_loopg [9, 10, 11, 12, 13, 14, 15, 16] bl.length (fun gg s9 s10 s11 _ _ _ _ _ wr => ∃ (kk : Nat) (la : Int), kk ≤ bl.length ∧ bl.length - kk ≤ gg ∧ s11 = .int .i64 kk ∧ s10 = .int .i64 la ∧ Aside (la = repS P bl ads kk) ∧ Aside (Below w1.heap.size w1 wr) ∧ Aside (Own wr w1.heap.size 34 3 encP s9 (repL P bl ads kk)) ∧ Aside (∀ j, j < kk → repF1 P bl ads j = 0))
  case atStart => exact ⟨0, 0, Nat.zero_le _, by omega, rfl, rfl, (show Aside _ from rfl), Below.refl _ _, (show Own _ _ _ _ _ _ _ from Own.nil), fun j hj => absurd hj (Nat.not_lt_zero _)⟩
  case round =>
    obtain ⟨kk, la, hkk, hg, rfl, rfl, LA, BW, OW, A⟩ := hrel
    have hla := HCS2.out kk hkk A.out
    rw [← LA.out] at hla
    obtain ⟨hla0, hla1⟩ := hla
    have hpb := HCL2.out kk hkk A.out
    have hlk := repL_len P bl ads kk (by omega)
    have hck := cntS_le ads kk
    have HPB := Lib.hid hpb
    have hlk2 : Hid ((repL P bl ads kk).length ≤ 1000000200) := Lib.hid (by have := HCN.out; omega)
    clear hpb hlk hck
    by_cases hlt : kk < bl.length
    · have hltz : (kk : Int) < (bl.length : Int) := by omega
      have hltz2 : (kk : Int) < (ads.length : Int) := by omega
      obtain ⟨x, hx⟩ : ∃ x, bl[kk]? = some x := ⟨bl[kk], by simp [hlt]⟩
      obtain ⟨b, off, hao, hc⟩ := HEM1.out kk x hx
      subst hao
      have hlt0 := World.block_lt_of_cell? w1 ⟨b, off + kk * 3 + 0, none⟩ (hc 0 _ rfl)
      have c0 : wr.cell? ⟨b, off + kk * 3, none⟩ = some (.int .i64 x.ev) := (BW.out.cell (p := ⟨b, off + kk * 3 + 0, none⟩) hlt0).trans (hc 0 _ rfl)
      have c1 := (BW.out.cell (p := ⟨b, off + kk * 3 + 1, none⟩) hlt0).trans (hc 1 _ rfl)
      have c2 := (BW.out.cell (p := ⟨b, off + kk * 3 + 2, none⟩) hlt0).trans (hc 2 _ rfl)
      obtain ⟨y, hy⟩ : ∃ x, ads[kk]? = some x := ⟨ads[kk]'(by omega), by simp⟩
      obtain ⟨b2, off2, hao2, hd⟩ := HEL1.out kk y hy
      subst hao2
      have hlt2 := World.block_lt_of_cell? w1 ⟨b2, off2 + kk * 1 + 0, none⟩ (hd 0 _ rfl)
      have d0 : wr.cell? ⟨b2, off2 + kk, none⟩ = some y.v := by have h := (BW.out.cell (p := ⟨b2, off2 + kk * 1 + 0, none⟩) hlt2).trans (hd 0 _ rfl); simpa using h
      have hwf := HW1.out y (List.mem_of_getElem? hy)
      have HWF := Lib.hid hwf
      have hgx : Hid (bl.getD kk default = x) := Lib.hid (getD_of hx)
      have hgy : Hid (ads.getD kk default = y) := Lib.hid (getD_of hy)
      have hxe := HCE2.out kk hlt
      rw [hgx.out] at hxe
      obtain ⟨hx0, hx1, hx2, hx3, hx4⟩ := hxe
      have hcy : Hid (y.l.length ≤ 1000000000) := Lib.hid (by
        have h1 := cntS_take hy
        have h2 := cntS_le ads (kk + 1)
        have := HCN.out
        omega)
      have hI1 : Hid (repF1 P bl ads kk = if P < x.be then 1 else adsF y.l) := Lib.hid (by rw [repF1, hgx.out, hgy.out])
      have hS : Hid (∀ z, repF1 P bl ads kk = z → z ≠ 0 → z = RF ∧ RL = []) := Lib.hid (fun z h hz => HBAD.out z (by rw [hF2.out, FF_hit hlt A.out (by rw [h]; exact hz), h]) hz)
      have hnx : Hid (repL P bl ads (kk + 1) = prg (repL P bl ads kk) la x.be ++ y.l.map adP) := Lib.hid (by rw [repL, ← LA.out, hgx.out, hgy.out])
      have hns : Hid (repS P bl ads (kk + 1) = min (x.be + sumA y.l) (repE P x)) := Lib.hid (by rw [repS, hgx.out, hgy.out])
      have hszw := BW.out.size
      have HX4 := Lib.hid hx4
      have hb2w : b2 < wr.heap.size := Nat.lt_of_lt_of_le hlt2 hszw
      clear hx hy hc hd hwf hx4
      by_cases hbe : P < x.be
      · have hv := Lib.hid (hS.out 1 (by rw [hI1.out, if_pos hbe]) (by decide))
        go_wp2
        go_ret2
        exact SlPost.mk hv.out.1 (by rw [hv.out.2]; exact Sl.nil) (HB1.out.thru BW.out)
      have hI2 : Hid (repF1 P bl ads kk = adsF y.l) := Lib.hid (by rw [hI1.out, if_neg hbe])
      have c1' := rprog_any wr w1.heap.size _ _ la x.be OW.out hszw HPB.out (by have := hlk2.out; omega) hla0 (by omega) hx0 hx1
      have c2' := fun (W : World) (v : Value) (hv : Own W w1.heap.size 34 3 encP v (prg (repL P bl ads kk) la x.be)) (hb : Below w1.heap.size w1 W) => played_any W w1.heap.size _ v y.l y.v hv hb.size (HWF.out.1.below hb (Nat.le_refl _)) (HWF.out.1.lt (fun _ => by rw [encA_len]; decide) (Nat.le_refl _)) HWF.out.2 (by have h1 := prg_len (repL P bl ads kk) la x.be; have h2 := hlk2.out; have h3 := hcy.out; omega)
      have hPL : Hid (playL (prg (repL P bl ads kk) la x.be) y.l = if adsF y.l = 0 then prg (repL P bl ads kk) la x.be ++ y.l.map adP else []) := Lib.hid rfl
      obtain ⟨z, hz⟩ : ∃ z, z = adsF y.l := ⟨_, rfl⟩
      obtain ⟨PL, hPL'⟩ : ∃ PL, PL = playL (prg (repL P bl ads kk) la x.be) y.l := ⟨_, rfl⟩
      rw [← hz, ← hPL'] at c2'
      rw [← hz, ← hPL'] at hPL
      rw [← hz] at hI2
      have HZ := Lib.hid hz
      have C2 := Lib.hid c2'
      clear hz c2' hPL'
      cases e3 : (z != 0)
      case true =>
        have hv := Lib.hid (hS.out z hI2.out (by simpa using e3))
        go_wp2_with (first | (go_at_call 52; refine c1'.mono ?_; rintro e w3 ⟨v3, rfl, ho3, hb3⟩; have HB3 := Lib.hid (BW.out.trans hb3); have f1 := (hb3.cell (p := ⟨b2, off2 + kk, none⟩) hlt2).trans d0; have c2'' := C2.out w3 v3 ho3 HB3.out; clear ho3 hb3 c1') | (go_at_call 53; refine c2''.mono ?_; rintro e w4 ⟨v4, rfl, ho4, hb4⟩))
        go_ret2
        exact SlPost.mk hv.out.1 (by rw [hv.out.2]; exact Sl.nil) (HB1.out.thru (HB3.out.trans hb4))
      obtain rfl : z = 0 := by simpa using e3
      clear e3
      have hzA := fun a ha => (adsF_zero HZ.out.symm a ha).2
      have HZA := Lib.hid hzA
      have hsa := sumA_nn hzA
      obtain ⟨S, hSS⟩ : ∃ S, S = sumA y.l := ⟨_, rfl⟩
      rw [← hSS] at hsa hns
      have HSS := Lib.hid hSS
      clear hSS hzA
      have hrE : Hid (repE P x = if x.en = -1 ∨ P < x.en then P else x.en) := Lib.hid rfl
      have hE0 : 0 ≤ repE P x ∧ repE P x ≤ P := by
        rw [hrE.out]
        by_cases h4 : x.en = -1 ∨ P < x.en
        · rw [if_pos h4]; omega
        · rw [if_neg h4]
          rw [not_or] at h4
          have := HX4.out h4.1
          omega
      obtain ⟨E, hE⟩ : ∃ E, E = repE P x := ⟨_, rfl⟩
      rw [← hE] at hrE hE0 hns
      obtain ⟨hE0, hE1⟩ := hE0
      have hnx2 : Hid (repL P bl ads (kk + 1) = PL) := Lib.hid (by rw [hnx.out, hPL.out, if_pos rfl])
      clear hE
      go_upto_region 21 with (first | (go_at_call 52; refine c1'.mono ?_; rintro e w3 ⟨v3, rfl, ho3, hb3⟩; have HB3 := Lib.hid (BW.out.trans hb3); have f1 := (hb3.cell (p := ⟨b2, off2 + kk, none⟩) hlt2).trans d0; have g1 := (hb3.cell (p := ⟨b, off + kk * 3 + 1, none⟩) hlt0).trans c1; have g2 := (hb3.cell (p := ⟨b, off + kk * 3 + 2, none⟩) hlt0).trans c2; have c2'' := C2.out w3 v3 ho3 HB3.out; clear ho3 hb3 c1') | (go_at_call 53; refine c2''.mono ?_; rintro e w4 ⟨v4, rfl, ho4, hb4⟩; have HB4 := Lib.hid (HB3.out.trans hb4); have HO4 := Lib.hid ho4; have f2 := (hb4.cell (p := ⟨b2, off2 + kk, none⟩) hlt2).trans f1; have k1 := (hb4.cell (p := ⟨b, off + kk * 3 + 1, none⟩) hlt0).trans g1; have k2 := (hb4.cell (p := ⟨b, off + kk * 3 + 2, none⟩) hlt0).trans g2; clear ho4 hb4 f1 g1 g2 c0 c1 c2 d0))
      go_cut [75] (fun s75 w5 => s75 = .bool (decide (x.en = -1) || decide (P < x.en)) ∧ w4 = w5)
      case first =>
        cases e6 : (x.en == -1)
        · have e7 : decide (x.en = -1) = false := decide_eq_false (by simpa using e6)
          have e8 : ¬ x.en = -1 := by simpa using e6
          go_wp2
          go_meet
          exact ⟨by rw [e7]; rfl, rfl⟩
        · have e7 : decide (x.en = -1) = true := decide_eq_true (by simpa using e6)
          go_wp2
          go_meet
          exact ⟨by rw [e7]; rfl, rfl⟩
      obtain ⟨rfl, rfl⟩ := hcut
      have hEO : Hid (E = if (decide (x.en = -1) || decide (P < x.en)) = true then P else x.en) := Lib.hid (by
        rw [hrE.out]
        by_cases h4 : x.en = -1 ∨ P < x.en
        · rw [if_pos h4, if_pos (by simpa using h4)]
        · rw [if_neg h4, if_neg (by simpa using h4)])
      generalize hO : (decide (x.en = -1) || decide (P < x.en)) = O at hEO
      clear hO
      go_upto_if 75 with (fail)
      go_cut [14] (fun s14 w5 => s14 = .int .i64 E ∧ w4 = w5)
      case first =>
        cases O
        · have hEE : Hid (x.en = E) := Lib.hid (by rw [hEO.out]; rfl)
          go_wp2
          go_meet
          exact ⟨by rw [hEE.out], rfl⟩
        · have hEE : Hid (P = E) := Lib.hid (by rw [hEO.out]; rfl)
          go_wp2
          go_meet
          exact ⟨by rw [hEE.out], rfl⟩
      obtain ⟨rfl, rfl⟩ := hcut
      have hsl := HWF.out.1.below HB4.out (Nat.le_refl _)
      obtain ⟨ya, yc, hyv, hyc, hym, hyn, hyel⟩ := hsl
      rw [hyv] at f2
      have HYE := Lib.hid hyel
      unfold maxLen at hym
      clear hyel hyn
      have hy0 : (y.l.length : Int) ≤ 9223372036854775807 := by omega
      obtain ⟨wo, rfl⟩ : ∃ wo : World, wo = w4 := ⟨_, rfl⟩
      go_wp2
      go_loopg [15, 16] y.l.length (fun gg s15 s16 wr => ∃ (m : Nat) (q : Int), m ≤ y.l.length ∧ y.l.length - m ≤ gg ∧ s16 = .int .i64 m ∧ s15 = .int .i64 q ∧ wo = wr ∧ 0 ≤ q ∧ q ≤ 2000000000000000 ∧ Aside (q = sumA (y.l.take m)))
      case atStart => exact ⟨0, 0, Nat.zero_le _, by omega, rfl, rfl, rfl, by omega, by omega, (show Aside _ from rfl)⟩
      obtain ⟨m, q, hm, hgm, rfl, rfl, rfl, hq0, hq1, Q⟩ := hrel
      have hqS : Hid (q ≤ S) := Lib.hid (by rw [Q.out, HSS.out]; exact sumA_le HZA.out m)
      go_upto_region 25 with (fail)
      go_cut [88] (fun s88 w5 => s88 = .bool (decide (m < y.l.length) && decide (q ≤ E)) ∧ wo = w5)
      case first =>
        by_cases hml : m < y.l.length
        · have e1 : (m : Int) < (y.l.length : Int) := by omega
          have e2 : decide (m < y.l.length) = true := decide_eq_true hml
          clear hml
          go_wp2
          go_meet
          exact ⟨by rw [e2]; rfl, rfl⟩
        · have e1 : ¬ (m : Int) < (y.l.length : Int) := by omega
          have e1' : decide ((m : Int) < (y.l.length : Int)) = false := decide_eq_false e1
          have e2 : decide (m < y.l.length) = false := decide_eq_false hml
          clear hml
          go_wp2
          go_meet
          exact ⟨by rw [e2]; rfl, rfl⟩
      obtain ⟨rfl, rfl⟩ := hcut
      generalize hO : (decide (m < y.l.length) && decide (q ≤ E)) = O
      have HO := Lib.hid hO
      clear hO
      cases O
      case true =>
        have hO2 : m < y.l.length ∧ q ≤ E := by have h := HO.out; simpa using h
        obtain ⟨hml, hqE⟩ := hO2
        have hmz : (m : Int) < (y.l.length : Int) := by omega
        obtain ⟨a, ha⟩ : ∃ x, y.l[m]? = some x := ⟨y.l[m], by simp [hml]⟩
        obtain ⟨b5, off5, rfl, hc5⟩ := HYE.out m a ha
        have c5 := hc5 1 _ rfl
        obtain ⟨ha0, ha1⟩ := HZA.out a (List.mem_of_getElem? ha)
        have hnq : Hid (q + a.ln = sumA (y.l.take (m + 1))) := Lib.hid (by rw [sumA_take ha, ← Q.out])
        clear ha hc5
        go_wp2
        go_roundg (y.l.length - (m + 1))
        case measure => omega
        case rel => exact ⟨m + 1, q + a.ln, by omega, by omega, by go_num, rfl, rfl, by omega, by omega, (show Aside _ from hnq.out)⟩
      case false =>
        have hO2 : Hid (q = S ∨ E < q) := Lib.hid (by
          have h := HO.out
          simp only [Bool.and_eq_false_iff, decide_eq_false_iff_not] at h
          rcases h with h | h
          · left
            obtain rfl : m = y.l.length := by omega
            rw [Q.out, HSS.out, List.take_length]
          · right; omega)
        go_wp2
        all_goals
          go_roundg (bl.length - (kk + 1))
          case measure => omega
          case rel =>
            refine ⟨kk + 1, _, by omega, by omega, by go_num, rfl, (show Aside _ from by have := hO2.out; have := hqS.out; show _ = _; rw [hns.out]; omega), HB4.out, (show Own _ _ _ _ _ _ _ from by rw [hnx2.out]; exact HO4.out), (show Aside _ from fun j hj => ?_)⟩
            by_cases e : j = kk
            · rw [e, hI2.out]
            · exact A.out j (by omega)
    · obtain rfl : kk = bl.length := by omega
      have hf : Hid (0 = F0) := Lib.hid (by rw [hF2.out, FF_zero A.out])
      have hv := Lib.hid (HGOOD.out hf.out)
      have hbd1 := rprog_any wr w1.heap.size _ _ la P OW.out BW.out.size HPB.out (by have := hlk2.out; omega) hla0 (by omega) hP0 hP1
      have hzz : Hid (prg (repL P bl ads bl.length) la P = repZ P bl ads) := Lib.hid (by rw [repZ, LA.out])
      have HPZ := Lib.hid (PB_wf (prg_PB (b := P) HPB.out hla0 hP1))
      rw [hzz.out] at hbd1
      go_wp2_with (first | (go_at_call 52; refine hbd1.mono ?_; rintro e w2 ⟨v2, rfl, ho2, hb2⟩; have HBW2 := Lib.hid (BW.out.trans hb2); have hbd2 := right_any w2 _ v2 (ho2.sl encP_len) (by rw [← hzz.out]; exact HPZ.out); clear ho2 hb2 hbd1) | (go_at_call 54; refine hbd2.mono ?_; rintro e w3 ⟨v3, rfl, hs3, hb3⟩))
      go_ret2
      exact SlPost.mk hv.out.1.symm (by rw [hv.out.2]; exact hs3) (HB1.out.thru (HBW2.out.thru hb3))
end Go.Proofs.Yteijcombdlgioaa

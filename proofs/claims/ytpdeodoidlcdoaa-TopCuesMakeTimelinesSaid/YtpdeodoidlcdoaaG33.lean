/- Inserted of the program. -/
import Derived.Test.YtpdeodoidlcdoaaG21
import Derived.Test.YtpdeodoidlcdoaaG05
namespace Go.Proofs.Ytpdeodoidlcdoaa
open Go.RowKit

theorem Bld.below {w w' : World} {B : Nat} {l : List Prt} (h : Bld w B l) (hb : Below w.heap.size w w') : Bld w' B l := by
  obtain ⟨v, h1, h2⟩ := h
  exact ⟨v, (hb.block B (lt_of_block h1)).trans h1, h2.below hb (Nat.le_refl _)⟩
theorem Bld.start (w : World) : Bld (w.alloc (.cells #[.slice none 0 0] 90)) w.heap.size [] := ⟨_, block_new w _, Own.nil⟩

theorem SlPost.thru {α : Type} {w w1 : World} {k : Nat} {enc : α → List Value} {l : List α} {f : Int} {e : Ending} {w' : World} (h : SlPost w1 k enc l f e w') (hb : Below w.heap.size w w1) : SlPost w k enc l f e w' := by
  obtain ⟨v, h1, h2, h3⟩ := h
  exact ⟨v, h1, h2, hb.thru h3⟩

end Go.Proofs.Ytpdeodoidlcdoaa

/- Replaced of the program. -/
namespace Go.Proofs.Ytpdeodoidlcdoaa
open Go.RowKit

/-- What is left behind the advertisements of a round: the tick, the builder. -/
def RepCut (B : Nat) (w4 wr : World) (l : List Prt) (z : Int) (v : Value) : Prop := v = .int .i64 z ∧ Bld w4 B l ∧ Below B wr w4

theorem RepCut.mk {B : Nat} {w4 wr : World} {l : List Prt} {a z : Int} (h1 : a = z) (h2 : Bld w4 B l) (h3 : Below B wr w4) : RepCut B w4 wr l z (.int .i64 a) := ⟨by rw [h1], h2, h3⟩

set_option maxRecDepth 100000 in
set_option maxHeartbeats 4000000 in
theorem replaced_any (w : World) (P : Int) (bl : List Brk) (u : Value) (ads : List AdS) (v : Value) (hs : Sl w 3 encB u bl) (hl : Sl w 1 encS v ads) (hw : ∀ y, y ∈ ads → WfS w y) (hcnt : cntS ads ≤ 1000000000) :
    Calls Try.prog 10 #[.int .i64 P, u, v] w (SlPost w 3 encP (repRL P bl ads) (repRF P bl ads)) := by
  have hcb := checkBreaks_any w bl u hs
  have hce := @checkB_each bl
  obtain ⟨ao, cap, rfl, hcap, hmax, hnil, hel⟩ := hl
  obtain ⟨bo, cbp, rfl, hcbp, hmbx, hnbl, hem⟩ := hs
  unfold maxLen at hmax hmbx
  have hF0 : repF0 P bl ads = if outB P 0 1000000000000000 = true then 1 else if bl.length ≠ ads.length then 3 else if checkB bl ≠ 0 then checkB bl else FF (repF1 P bl ads) bl.length := rfl
  have hRF : repRF P bl ads = if repF0 P bl ads ≠ 0 then repF0 P bl ads else checkP (repZ P bl ads) := rfl
  have hRL : repRL P bl ads = if repF0 P bl ads ≠ 0 then [] else rightL (repZ P bl ads) := rfl
  generalize repF0 P bl ads = F0 at hF0 hRF hRL
  generalize repRF P bl ads = RF at hRF ⊢
  generalize repRL P bl ads = RL at hRL ⊢
  have HBAD : Hid (∀ z, z = F0 → z ≠ 0 → z = RF ∧ RL = []) := Lib.hid (fun z h hz => by subst h; exact ⟨by rw [hRF, if_pos hz], by rw [hRL, if_pos hz]⟩)
  have HGOOD : Hid (0 = F0 → RF = checkP (repZ P bl ads) ∧ RL = rightL (repZ P bl ads)) := Lib.hid (fun h => by subst h; exact ⟨by rw [hRF, if_neg (by simp)], by rw [hRL, if_neg (by simp)]⟩)
  have HCH : Hid (checkB bl = checkB bl) := Lib.hid rfl
  have hcs := fun h => @repS_bd P bl ads h
  have hcl := fun h h0 => @repL_PB P bl ads h h0
  generalize checkB bl = C at hcb hce hF0 hcs hcl
  have HF0 := Lib.hid hF0
  have HEL := Lib.hid hel
  have HEM := Lib.hid hem
  have HW := Lib.hid hw
  have HCN := Lib.hid hcnt
  have HCE := Lib.hid hce
  have HCS := Lib.hid hcs
  have HCL := Lib.hid hcl
  clear hF0 hRF hRL hel hem hw hcnt hce HCH hcs hcl
  cases o1 : outB P 0 1000000000000000
  case true =>
    have hv := Lib.hid (HBAD.out 1 (by rw [HF0.out, o1]; rfl) (by decide))
    go_enter Try.func10, Try.ntmps10
    go_wp2_with (go_at_call 21; refine (out_any _ _ _ _).mono ?_; rintro e w' ⟨rfl, rfl⟩)
    go_ret2
    exact SlPost.mk hv.out.1 (by rw [hv.out.2]; exact Sl.nil) (Below.refl _ _)
  have hP := outB_no o1
  obtain ⟨hP0, hP1⟩ := hP
  cases e1 : ((bl.length : Int) != (ads.length : Int))
  case true =>
    have e1' : (bl.length != ads.length) = true := by simp at e1 ⊢; omega
    have hv := Lib.hid (HBAD.out 3 (by rw [HF0.out, o1, if_neg (by simp), if_pos (by simpa using e1')]) (by decide))
    go_enter Try.func10, Try.ntmps10
    go_wp2_with (go_at_call 21; refine (out_any _ _ _ _).mono ?_; rintro e w' ⟨rfl, rfl⟩)
    go_ret2
    exact SlPost.mk hv.out.1 (by rw [hv.out.2]; exact Sl.nil) (Below.refl _ _)
  have hlen : bl.length = ads.length := by simp at e1; omega
  have e1' : (bl.length != ads.length) = false := by simp [hlen]
  have hF1 : Hid (F0 = if C ≠ 0 then C else FF (repF1 P bl ads) bl.length) := Lib.hid (by rw [HF0.out, o1, if_neg (by simp), if_neg (by simp [hlen])])
  have HLEN := Lib.hid hlen
  clear HF0
  cases e2 : (C != 0)
  case true =>
    have hne : C ≠ 0 := by simpa using e2
    have hv := Lib.hid (HBAD.out C (by rw [hF1.out, if_pos hne]) hne)
    clear hlen hne
    go_enter Try.func10, Try.ntmps10
    go_wp2_with (first | (go_at_call 21; refine (out_any _ _ _ _).mono ?_; rintro e w' ⟨rfl, rfl⟩) | (go_at_call 22; refine hcb.mono ?_; rintro e w' ⟨rfl, hb'⟩))
    go_ret2
    exact SlPost.mk hv.out.1 (by rw [hv.out.2]; exact Sl.nil) hb'
  obtain rfl : C = 0 := by simpa using e2
  clear e2
  have hF2 : Hid (F0 = FF (repF1 P bl ads) bl.length) := Lib.hid (by rw [hF1.out]; rfl)
  have hb200 := (HCE.out rfl).1
  have HCE2 := Lib.hid (HCE.out rfl).2
  have HCS2 := Lib.hid (fun k h1 h2 => HCS.out hP0 rfl k h1 h2)
  have HCL2 := Lib.hid (fun k h1 h2 => HCL.out hP1 hP0 rfl k h1 h2)
  clear HCE HCS HCL
  have hll : (bl.length : Int) ≤ (ads.length : Int) := by omega
  have hll2 : (ads.length : Int) ≤ (bl.length : Int) := by omega
  clear hlen hF1
  go_enter Try.func10, Try.ntmps10
  go_wp2_with (first | (go_at_call 21; refine (out_any _ _ _ _).mono ?_; rintro e w' ⟨rfl, rfl⟩) | (go_at_call 22; refine hcb.mono ?_; rintro e w1 ⟨rfl, hb1⟩))
  have HST := Lib.hid (Bld.start w1)
  have HB1 := Lib.hid hb1
  have HEL1 := Lib.hid (el_below HEL.out hb1 (Nat.le_refl _))
  have HEM1 := Lib.hid (el_below HEM.out hb1 (Nat.le_refl _))
  have HW1 : Hid (∀ y, y ∈ ads → WfS w1 y) := Lib.hid fun y hy => ⟨(HW.out y hy).1.below hb1 (Nat.le_refl _), (HW.out y hy).2⟩
  clear hb1 hcb HEL HEM HW
  go_loopg [10, 11, 12, 13, 14, 33] bl.length (fun gg s10 _ _ _ _ s33 wr => ∃ (kk : Nat) (la : Int), kk ≤ bl.length ∧ bl.length - kk ≤ gg ∧ s33 = .int .i64 kk ∧ s10 = .int .i64 la ∧ Aside (la = repS P bl ads kk) ∧ Aside (Below w1.heap.size w1 wr) ∧ Aside (Bld wr w1.heap.size (repL P bl ads kk)) ∧ Aside (∀ j, j < kk → repF1 P bl ads j = 0))
  case atStart => exact ⟨0, 0, Nat.zero_le _, by omega, rfl, rfl, (show Aside _ from rfl), (Below.refl _ _).alloc (Nat.le_refl _) _, HST.out, fun j hj => absurd hj (Nat.not_lt_zero _)⟩
  case round =>
    obtain ⟨kk, la, hkk, hg, rfl, rfl, LA, BW, BD, A⟩ := hrel
    have hla := HCS2.out kk hkk A.out
    rw [← LA.out] at hla
    obtain ⟨hla0, hla1⟩ := hla
    have hpb := HCL2.out kk hkk A.out
    have hlk := repL_len P bl ads kk (by omega)
    have hck := cntS_le ads kk
    have hBD := BD.out
    obtain ⟨vb, hblk, hown⟩ := hBD
    have hBw := lt_of_block hblk
    have HPB := Lib.hid hpb
    have hlk2 : Hid ((repL P bl ads kk).length ≤ 1000000200) := Lib.hid (by have := HCN.out; omega)
    clear hpb hlk hck hblk hown
    by_cases hlt : kk < bl.length
    · have hltz : (kk : Int) < (bl.length : Int) := by omega
      have hltz2 : (kk : Int) < (ads.length : Int) := by omega
      obtain ⟨x, hx⟩ : ∃ x, bl[kk]? = some x := ⟨bl[kk], by simp [hlt]⟩
      obtain ⟨b, off, hao, hc⟩ := HEM1.out kk x hx
      subst hao
      have hlt0 := World.block_lt_of_cell? w1 ⟨b, off + kk * 3 + 0, none⟩ (hc 0 _ rfl)
      have c0 : wr.cell? ⟨b, off + kk * 3, none⟩ = some (.int .i64 x.ev) := (BW.out.cell (p := ⟨b, off + kk * 3 + 0, none⟩) hlt0).trans (hc 0 _ rfl)
      have c1 := (BW.out.cell (p := ⟨b, off + kk * 3 + 1, none⟩) hlt0).trans (hc 1 _ rfl)
      have c2 := (BW.out.cell (p := ⟨b, off + kk * 3 + 2, none⟩) hlt0).trans (hc 2 _ rfl)
      obtain ⟨y, hy⟩ : ∃ x, ads[kk]? = some x := ⟨ads[kk]'(by omega), by simp⟩
      obtain ⟨b2, off2, hao2, hd⟩ := HEL1.out kk y hy
      subst hao2
      have hlt2 := World.block_lt_of_cell? w1 ⟨b2, off2 + kk * 1 + 0, none⟩ (hd 0 _ rfl)
      have d0 : wr.cell? ⟨b2, off2 + kk, none⟩ = some y.v := by have h := (BW.out.cell (p := ⟨b2, off2 + kk * 1 + 0, none⟩) hlt2).trans (hd 0 _ rfl); simpa using h
      have hwf := HW1.out y (List.mem_of_getElem? hy)
      have HWF := Lib.hid hwf
      have hgx : Hid (bl.getD kk default = x) := Lib.hid (getD_of hx)
      have hgy : Hid (ads.getD kk default = y) := Lib.hid (getD_of hy)
      have hxe := HCE2.out kk hlt
      rw [hgx.out] at hxe
      obtain ⟨hx0, hx1, hx2, hx3, hx4⟩ := hxe
      have hcy : Hid (y.l.length ≤ 1000000000) := Lib.hid (by
        have h1 := cntS_take hy
        have h2 := cntS_le ads (kk + 1)
        have := HCN.out
        omega)
      have hI1 : Hid (repF1 P bl ads kk = if P < x.be then 1 else adsF y.l) := Lib.hid (by rw [repF1, hgx.out, hgy.out])
      have hS : Hid (∀ z, repF1 P bl ads kk = z → z ≠ 0 → z = RF ∧ RL = []) := Lib.hid (fun z h hz => HBAD.out z (by rw [hF2.out, FF_hit hlt A.out (by rw [h]; exact hz), h]) hz)
      have hnx : Hid (repL P bl ads (kk + 1) = prg (repL P bl ads kk) la x.be ++ y.l.map adP) := Lib.hid (by rw [repL, ← LA.out, hgx.out, hgy.out])
      have hns : Hid (repS P bl ads (kk + 1) = min (x.be + sumA y.l) (repE P x)) := Lib.hid (by rw [repS, hgx.out, hgy.out])
      have hszw := BW.out.size
      have HX4 := Lib.hid hx4
      have hb2w : b2 < wr.heap.size := Nat.lt_of_lt_of_le hlt2 hszw
      clear hx hy hc hd hwf hx4
      by_cases hbe : P < x.be
      · have hv := Lib.hid (hS.out 1 (by rw [hI1.out, if_pos hbe]) (by decide))
        go_wp2
        go_ret2
        exact SlPost.mk hv.out.1 (by rw [hv.out.2]; exact Sl.nil) (HB1.out.thru (BW.out.alloc hszw _))
      have hI2 : Hid (repF1 P bl ads kk = adsF y.l) := Lib.hid (by rw [hI1.out, if_neg hbe])
      have hpf := fun (W : World) (hb : Below w1.heap.size w1 W) => playedFault_any W y.l y.v (HWF.out.1.below hb (Nat.le_refl _)) HWF.out.2
      obtain ⟨z, hz⟩ : ∃ z, z = adsF y.l := ⟨_, rfl⟩
      rw [← hz] at hpf hI2
      have HZ := Lib.hid hz
      have hpf' := hpf _ (BW.out.alloc hszw (.cells #[.int .i64 x.ev, .int .i64 x.be, .int .i64 x.en] 45))
      clear hz hpf
      cases e3 : (z != 0)
      case true =>
        have hv := Lib.hid (hS.out z hI2.out (by simpa using e3))
        go_wp2_with (go_at_call 25; go_loud (refine hpf'.mono ?_; rintro e w' ⟨rfl, hb'⟩))
        go_ret2
        exact SlPost.mk hv.out.1 (by rw [hv.out.2]; exact Sl.nil) (HB1.out.thru ((BW.out.alloc hszw _).trans (hb'.mono (by simp; omega))))
      obtain rfl : z = 0 := by simpa using e3
      clear e3
      have hzA := fun a ha => (adsF_zero HZ.out.symm a ha).2
      have hca := capA_eq hzA (n := 0) (Int.le_refl _) (by omega)
      have hcb2 := capA_bd hzA
      have hsa := sumA_nn hzA
      obtain ⟨S, hSS⟩ : ∃ S, S = sumA y.l := ⟨_, rfl⟩
      obtain ⟨CA, hCA⟩ : ∃ S, S = capA 0 y.l := ⟨_, rfl⟩
      rw [← hSS, ← hCA] at hca
      rw [← hCA] at hcb2
      rw [← hSS] at hsa hns
      have HCA := Lib.hid hCA
      obtain ⟨hcb3, hcb4⟩ := hcb2
      clear hSS hCA hzA
      have hrE : Hid (repE P x = if x.en = -1 ∨ P < x.en then P else x.en) := Lib.hid rfl
      have hE0 : 0 ≤ repE P x ∧ repE P x ≤ P := by
        rw [hrE.out]
        by_cases h4 : x.en = -1 ∨ P < x.en
        · rw [if_pos h4]; omega
        · rw [if_neg h4]
          rw [not_or] at h4
          have := HX4.out h4.1
          omega
      obtain ⟨E, hE⟩ : ∃ E, E = repE P x := ⟨_, rfl⟩
      rw [← hE] at hrE hE0 hns
      obtain ⟨hE0, hE1⟩ := hE0
      have hca' : CA = S ∨ (CA = 1000000000000000 ∧ 1000000000000000 ≤ S) := by omega
      have HCA2 := Lib.hid hca'
      have HOW := Lib.hid (block_new wr (.cells #[.int .i64 x.ev, .int .i64 x.be, .int .i64 x.en] 45))
      have hBDa : Hid (Bld (wr.alloc (.cells #[.int .i64 x.ev, .int .i64 x.be, .int .i64 x.en] 45)) w1.heap.size (repL P bl ads kk)) := Lib.hid (BD.out.below ((Below.refl _ _).alloc (Nat.le_refl _) _))
      clear hE hca hca'
      go_upto_region 19 with (go_at_call 25; go_loud (refine hpf'.mono ?_; rintro e w2 ⟨rfl, hb2⟩; have hx2' := (hb2.block wr.heap.size (by simp)).trans HOW.out; have HX2 := Lib.hid hx2'; have e0 := (cell_of_block (i := 1) hx2').trans rfl; have e1 := (cell_of_block (i := 2) hx2').trans rfl; have hBD2 := Lib.hid (hBDa.out.below hb2); have HB2 := Lib.hid ((BW.out.alloc hszw _).trans (hb2.mono (by simp; omega))); have d1 := (hb2.cell (p := ⟨b2, off2 + kk, none⟩) (by simp; omega)).trans ((World.cell?_alloc_lt wr _ _ hb2w).trans d0); have hBw2 : wr.heap.size < w2.heap.size := by have := hb2.size; simp at this; omega))
      go_cut [58] (fun s58 w4 => s58 = .bool (decide (x.en = -1) || decide (P < x.en)) ∧ w2 = w4)
      case first =>
        cases e6 : (x.en == -1)
        · have e7 : decide (x.en = -1) = false := decide_eq_false (by simpa using e6)
          have e8 : ¬ x.en = -1 := by simpa using e6
          go_wp2
          go_meet
          exact ⟨by rw [e7]; rfl, rfl⟩
        · have e7 : decide (x.en = -1) = true := decide_eq_true (by simpa using e6)
          go_wp2
          go_meet
          exact ⟨by rw [e7]; rfl, rfl⟩
      obtain ⟨rfl, rfl⟩ := hcut
      have hEO : Hid (E = if (decide (x.en = -1) || decide (P < x.en)) = true then P else x.en) := Lib.hid (by
        rw [hrE.out]
        by_cases h4 : x.en = -1 ∨ P < x.en
        · rw [if_pos h4, if_pos (by simpa using h4)]
        · rw [if_neg h4, if_neg (by simpa using h4)])
      generalize hO : (decide (x.en = -1) || decide (P < x.en)) = O at hEO
      clear hO
      go_upto_if 58 with (fail)
      go_cut [14] (fun s14 w4 => s14 = .int .i64 E ∧ w2 = w4)
      case first =>
        cases O
        · have hEE : Hid (x.en = E) := Lib.hid (by rw [hEO.out]; rfl)
          go_wp2
          go_meet
          exact ⟨by rw [hEE.out], rfl⟩
        · have hEE : Hid (P = E) := Lib.hid (by rw [hEO.out]; rfl)
          go_wp2
          go_meet
          exact ⟨by rw [hEE.out], rfl⟩
      obtain ⟨rfl, rfl⟩ := hcut
      have hbp := bprog_any w2 w1.heap.size _ la x.be hBD2.out (by omega) HPB.out (by have := hlk2.out; omega) hla0 (by omega) hx0 hx1
      have hne1 : wr.heap.size ≠ w1.heap.size := by omega
      have HNE := Lib.hid hne1
      clear hne1
      go_upto_region 22 with (go_at_call 26; go_loud (refine hbp.mono ?_; rintro e w3 ⟨rfl, hB3, hb3, hk3⟩; have hx3 := hk3 _ _ _ _ HX2.out (by decide) HNE.out; have g1 := (cell_of_block (i := 1) hx3).trans rfl; have HX3 := Lib.hid hx3; have HB3 := Lib.hid hB3; have HBW3 := Lib.hid (HB2.out.trans hb3); have d2 := (hb3.cell (p := ⟨b2, off2 + kk, none⟩) hlt2).trans d1; clear hx3 hB3 hk3 hbp e0 e1 d1))
      have hads := fun (W : World) (h : Bld W w1.heap.size (prg (repL P bl ads kk) la x.be)) (hb : Below w1.heap.size w1 W) => bads_any W w1.heap.size _ y.l y.v h (HWF.out.1.below hb (Nat.le_refl _)) (HWF.out.1.lt (fun _ => by rw [encA_len]; decide) (Nat.le_refl _)) HZ.out.symm (by have h1 := prg_len (repL P bl ads kk) la x.be; have h2 := hlk2.out; have h3 := hcy.out; omega)
      rw [← HCA.out, ← hnx.out] at hads
      have HADS := Lib.hid (hads w3.drew HB3.out HBW3.out.drew)
      clear hads
      go_region_with (go_at_call 27; go_loud (refine HADS.out.mono ?_; rintro e w5 ⟨rfl, hB5, hb5, hk5⟩; have hx5 := hk5 _ _ _ _ HX3.out (by decide) HNE.out; have g5 := (cell_of_block (i := 1) hx5).trans rfl; have HB5 := Lib.hid hB5; have hbw5 := Lib.hid hb5; clear hx5 hB5 hk5 hb5))
      all_goals go_wp2
      all_goals
        go_roundg (bl.length - (kk + 1))
        case measure => omega
        case rel =>
          refine ⟨kk + 1, _, by omega, by omega, by go_num, rfl, (show Aside _ from by have := HCA2.out; show _ = _; rw [hns.out]; omega), (show Below _ _ _ from HBW3.out.drew.trans hbw5.out), (show Bld _ _ _ from HB5.out), (show Aside _ from fun j hj => ?_)⟩
          by_cases e : j = kk
          · rw [e, hI2.out]
          · exact A.out j (by omega)
    · obtain rfl : kk = bl.length := by omega
      have hf : Hid (0 = F0) := Lib.hid (by rw [hF2.out, FF_zero A.out])
      have hv := Lib.hid (HGOOD.out hf.out)
      have hbd1 := bprog_any wr w1.heap.size _ la P BD.out hBw HPB.out (by have := hlk2.out; omega) hla0 (by omega) hP0 hP1
      have hzz : Hid (prg (repL P bl ads bl.length) la P = repZ P bl ads) := Lib.hid (by rw [repZ, LA.out])
      have HPZ := Lib.hid (PB_wf (prg_PB (b := P) HPB.out hla0 hP1))
      rw [hzz.out] at hbd1
      go_wp2_with (first | (go_at_call 26; refine hbd1.mono ?_; rintro e w2 ⟨rfl, hB2, hb2, _⟩; have HBW2 := Lib.hid (BW.out.trans hb2); have hbd2 := bdone_any w2 w1.heap.size _ hB2 (by rw [← hzz.out]; exact HPZ.out); clear hB2 hb2 hbd1) | (go_at_call 28; refine hbd2.mono ?_; rintro e w3 ⟨v3, rfl, hs3, hb3⟩))
      go_ret2
      exact SlPost.mk hv.out.1.symm (by rw [hv.out.2]; exact hs3) (HB1.out.thru (HBW2.out.thru hb3))
end Go.Proofs.Ytpdeodoidlcdoaa

/- comes, of the statements through the layers. -/
namespace Go.Proofs.Ytpdeodoidlcdoaa
open Go.RowKit

structure Flw where
  ti : Int
  ra : Int
def encFl (x : Flw) : List Value := [.int .i64 x.ti, .int .i64 x.ra]
theorem encFl_len (x : Flw) : (encFl x).length = 2 := rfl
def oneFl (w : World) (b : Nat) : Prop := w.heap[b]? = some (.cells #[.int .i64 0, .int .i64 2] 65 (0, 0))
theorem oneFl.below {w W : World} {b : Nat} (h : oneFl w b) (hb : Below w.heap.size w W) : oneFl W b := (hb.block _ (Array.getElem?_eq_some_iff.1 h).1).trans h

set_option maxHeartbeats 1000000 in
theorem endOf1 (w : World) (b : Nat) : Calls Try.prog 48 #[.slice (some ⟨b, 0, none⟩) 1 1, .int .i64 0] w fun e w' => e = .returned (.int .i64 1152921504606846976) ∧ w = w' := by
  go_enter Try.func48, Try.ntmps48
  go_wp2
  go_ret
  exact ⟨rfl, rfl⟩
set_option maxHeartbeats 1000000 in
theorem checkTr1 (w : World) (b : Nat) (h : oneFl w b) : Calls Try.prog 30 #[.slice (some ⟨b, 0, none⟩) 1 1] w fun e w' => e = .returned (.int .i64 0) ∧ Below w.heap.size w w' := by
  have H := Lib.hid h
  clear h
  go_enter Try.func30, Try.ntmps30
  go_wp2
  go_loopg [15] 1 (fun gg s15 wr => ∃ kk : Nat, kk ≤ 1 ∧ 1 - kk ≤ gg ∧ s15 = .int .i64 kk ∧ Aside (Below w.heap.size w wr))
  case atStart => exact ⟨0, by omega, by omega, rfl, Below.refl _ w⟩
  case round =>
    obtain ⟨kk, hkk, hg, rfl, BW⟩ := hrel
    have hB := H.out.below BW.out
    have c0 := (cell_of_block (i := 0) hB).trans rfl
    have c1 := (cell_of_block (i := 1) hB).trans rfl
    clear hB
    by_cases hlt : kk = 0
    · subst hlt
      obtain ⟨w2, hw2⟩ : ∃ w2, w2 = wr.alloc (.cells #[.int .i64 0, .int .i64 2] 65) := ⟨_, rfl⟩
      have hB2 : Below w.heap.size w w2 := by rw [hw2]; exact BW.out.alloc BW.out.size _
      have hK2 := by have := block_new wr (.cells #[.int .i64 0, .int .i64 2] 65); rw [← hw2] at this; exact this
      have HB2 := Lib.hid hB2
      have HK2 := Lib.hid hK2
      clear hB2 hK2
      go_wp2_with (go_at_call 21; refine (out_any _ _ _ _).mono ?_; rintro e w' ⟨rfl, rfl⟩)
      rw [← hw2]
      have d0 := (cell_of_block (i := 0) HK2.out).trans rfl
      have d1 := (cell_of_block (i := 1) HK2.out).trans rfl
      clear hw2
      have hund : undef = Value.tuple #[] := rfl
      go_quiet (fail)
      clear hund
      have e0 := (cell_of_block (w := w2.drewN nq) (i := 0) HK2.out).trans rfl
      have e1 := (cell_of_block (w := w2.drewN nq) (i := 1) HK2.out).trans rfl
      have HB3 : Hid (Below w.heap.size w (w2.drewN nq)) := Lib.hid (below_drewN HB2.out _)
      clear d0 d1
      go_wp2_with (go_at_call 21; refine (out_any _ _ _ _).mono ?_; rintro e w' ⟨rfl, rfl⟩)
      go_roundg 0
      case measure => omega
      case rel => exact ⟨1, by omega, by omega, by go_num, HB3.out⟩
    · obtain rfl : kk = 1 := by omega
      go_wp2
      go_ret
      exact ⟨rfl, BW.out⟩
set_option maxHeartbeats 1000000 in
theorem came1 (w : World) (b : Nat) (h : oneFl w b) : Calls Try.prog 31 #[.slice (some ⟨b, 0, none⟩) 1 1, .int .i64 0, .int .i64 3] w fun e w' => e = .returned (.int .i64 6) ∧ Below w.heap.size w w' := by
  have H := Lib.hid h
  clear h
  go_enter Try.func31, Try.ntmps31
  go_wp2
  go_loopg [7, 12] 1 (fun gg s7 s12 wr => ∃ kk : Nat, kk ≤ 1 ∧ 1 - kk ≤ gg ∧ s12 = .int .i64 kk ∧ s7 = .int .i64 (6 * kk) ∧ Aside (Below w.heap.size w wr))
  case atStart => exact ⟨0, by omega, by omega, rfl, rfl, Below.refl _ w⟩
  case round =>
    obtain ⟨kk, hkk, hg, rfl, rfl, BW⟩ := hrel
    have hB := H.out.below BW.out
    have c0 := (cell_of_block (i := 0) hB).trans rfl
    have c1 := (cell_of_block (i := 1) hB).trans rfl
    clear hB
    by_cases hlt : kk = 0
    · subst hlt
      obtain ⟨w2, hw2⟩ : ∃ w2, w2 = wr.alloc (.cells #[.int .i64 0, .int .i64 2] 65) := ⟨_, rfl⟩
      have hB2 : Below w.heap.size w w2 := by rw [hw2]; exact BW.out.alloc BW.out.size _
      have hK2 := by have := block_new wr (.cells #[.int .i64 0, .int .i64 2] 65); rw [← hw2] at this; exact this
      have HB2 := Lib.hid hB2
      have HK2 := Lib.hid hK2
      have HE := Lib.hid (fun W => endOf1 W b)
      clear hB2 hK2
      go_wp2_with fail
      rw [← hw2]
      have d0 := (cell_of_block (i := 0) HK2.out).trans rfl
      have d1 := (cell_of_block (i := 1) HK2.out).trans rfl
      clear hw2
      go_quiet ((go_at_call 48; exact Calls.quiet_of_same ((HE.out _).mono fun _ _ h => ⟨h.1, h.2.symm⟩)))
      have HB3 : Hid (Below w.heap.size w (w2.drewN nq)) := Lib.hid (below_drewN HB2.out _)
      clear d0 d1
      go_wp2
      go_roundg 0
      case measure => omega
      case rel => exact ⟨1, by omega, by omega, by go_num, by first | rfl | go_num, HB3.out⟩
    · obtain rfl : kk = 1 := by omega
      go_wp2
      go_ret
      exact ⟨rfl, BW.out⟩
set_option maxHeartbeats 1000000 in
theorem cameP1 (w : World) (b : Nat) (h : oneFl w b) : Calls Try.prog 15 #[.slice (some ⟨b, 0, none⟩) 1 1, .int .i64 0, .int .i64 3] w fun e w' => e = .returned (.tuple #[.int .i64 6, .int .i64 0]) ∧ Below w.heap.size w w' := by
  have H1 := Lib.hid (checkTr1 w b h)
  have H2 := Lib.hid (fun W (hb : Below w.heap.size w W) => came1 W b (h.below hb))
  clear h
  go_enter Try.func15, Try.ntmps15
  go_wp2_with fail
  refine H1.out.mono ?_
  rintro e w1 ⟨rfl, hb1⟩
  have HB1 := Lib.hid hb1
  clear hb1
  go_wp2_with fail
  refine (H2.out _ HB1.out).mono ?_
  rintro e w2 ⟨rfl, hb2⟩
  have HB2 := Lib.hid (HB1.out.thru hb2)
  clear hb2
  go_wp2
  go_ret2
  exact ⟨rfl, HB2.out⟩
theorem comes_any (w : World) : Calls Try.prog 5 #[] w fun e w' => e = .returned (.bool true) ∧ Below w.heap.size w w' := by
  have H1 := Lib.hid (fun (W : World) (hb : Below w.heap.size w W) => cameP1 (W.alloc (.cells #[.int .i64 0, .int .i64 2] 65)) W.heap.size (block_new W _))
  have HB0 : Hid (Below w.heap.size w (w.alloc (.cells #[.int .i64 0, .int .i64 2] 65))) := Lib.hid ((Below.refl _ w).alloc (Nat.le_refl _) _)
  go_enter Try.func5, Try.ntmps5
  go_wp2_with (go_at_call 15; refine (H1.out w (Below.refl _ _)).mono ?_; rintro e w1 ⟨rfl, hb1⟩; have HB1 := Lib.hid (HB0.out.thru hb1); clear hb1)
  go_ret
  exact ⟨rfl, HB1.out⟩
end Go.Proofs.Ytpdeodoidlcdoaa

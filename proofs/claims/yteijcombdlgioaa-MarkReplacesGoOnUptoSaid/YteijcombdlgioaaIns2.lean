/- Inserted of the reference. -/
import Derived.Test.YteijcombdlgioaaIns1
namespace Go.Proofs.Yteijcombdlgioaa
open Go.RowKit

set_option maxRecDepth 100000 in
set_option maxHeartbeats 4000000 in
theorem insertedR_any (w : World) (P : Int) (at_ : List Int) (u : Value) (ads : List AdS) (v : Value) (hs : Sl w 1 encI u at_) (hl : Sl w 1 encS v ads) (hw : ∀ y, y ∈ ads → WfS w y) (hcnt : cntS ads ≤ 1000000000) :
    Calls Try.prog 28 #[.int .i64 P, u, v] w (SlPost w 3 encP (insRL P at_ ads) (insRF P at_ ads)) := by
  obtain ⟨ao, cap, rfl, hcap, hmax, hnil, hel⟩ := hl
  obtain ⟨bo, cbp, rfl, hcbp, hmbx, hnbl, hem⟩ := hs
  unfold maxLen at hmax hmbx
  have hF0 : insF0 P at_ ads = if outB P 0 1000000000000000 = true then 1 else if at_.length ≠ ads.length then 3 else if 200 < at_.length then 2 else FF (insF1 P at_ ads) at_.length := rfl
  have hRF : insRF P at_ ads = if insF0 P at_ ads ≠ 0 then insF0 P at_ ads else checkP (insZ P at_ ads) := rfl
  have hRL : insRL P at_ ads = if insF0 P at_ ads ≠ 0 then [] else rightL (insZ P at_ ads) := rfl
  generalize insF0 P at_ ads = F0 at hF0 hRF hRL
  generalize insRF P at_ ads = RF at hRF ⊢
  generalize insRL P at_ ads = RL at hRL ⊢
  have HBAD : Hid (∀ z, z = F0 → z ≠ 0 → z = RF ∧ RL = []) := Lib.hid (fun z h hz => by subst h; exact ⟨by rw [hRF, if_pos hz], by rw [hRL, if_pos hz]⟩)
  have HGOOD : Hid (0 = F0 → RF = checkP (insZ P at_ ads) ∧ RL = rightL (insZ P at_ ads)) := Lib.hid (fun h => by subst h; exact ⟨by rw [hRF, if_neg (by simp)], by rw [hRL, if_neg (by simp)]⟩)
  have HF0 := Lib.hid hF0
  have HEL := Lib.hid hel
  have HEM := Lib.hid hem
  have HW := Lib.hid hw
  have HCN := Lib.hid hcnt
  clear hF0 hRF hRL hel hem hw hcnt
  cases o1 : outB P 0 1000000000000000
  case true =>
    have hv := Lib.hid (HBAD.out 1 (by rw [HF0.out, o1]; rfl) (by decide))
    go_enter Try.func28, Try.ntmps28
    go_wp2_with (go_at_call 35; refine (within_any _ _ _ _).mono ?_; rintro e w' ⟨rfl, rfl⟩)
    go_ret2
    exact SlPost.mk hv.out.1 (by rw [hv.out.2]; exact Sl.nil) (Below.refl _ _)
  have hP := outB_no o1
  obtain ⟨hP0, hP1⟩ := hP
  cases e1 : ((at_.length : Int) != (ads.length : Int))
  case true =>
    have e1' : (at_.length != ads.length) = true := by simp at e1 ⊢; omega
    have hv := Lib.hid (HBAD.out 3 (by rw [HF0.out, o1, if_neg (by simp), if_pos (by simpa using e1')]) (by decide))
    go_enter Try.func28, Try.ntmps28
    go_wp2_with (go_at_call 35; refine (within_any _ _ _ _).mono ?_; rintro e w' ⟨rfl, rfl⟩)
    go_ret2
    exact SlPost.mk hv.out.1 (by rw [hv.out.2]; exact Sl.nil) (Below.refl _ _)
  have hlen : at_.length = ads.length := by simp at e1; omega
  have e1' : (at_.length != ads.length) = false := by simp [hlen]
  by_cases hbig : 200 < at_.length
  · have hv := Lib.hid (HBAD.out 2 (by rw [HF0.out, o1, if_neg (by simp), if_neg (by simp [hlen]), if_pos hbig]) (by decide))
    have HLEN := Lib.hid hlen
    clear hlen
    go_enter Try.func28, Try.ntmps28
    go_wp2_with (go_at_call 35; refine (within_any _ _ _ _).mono ?_; rintro e w' ⟨rfl, rfl⟩)
    go_ret2
    exact SlPost.mk hv.out.1 (by rw [hv.out.2]; exact Sl.nil) (Below.refl _ _)
  have hF1 : Hid (F0 = FF (insF1 P at_ ads) at_.length) := Lib.hid (by rw [HF0.out, o1, if_neg (by simp), if_neg (by simp [hlen]), if_neg hbig])
  have HLEN := Lib.hid hlen
  have hb200 : at_.length ≤ 200 := by omega
  have hll : (at_.length : Int) ≤ (ads.length : Int) := by omega
  have hll2 : (ads.length : Int) ≤ (at_.length : Int) := by omega
  clear HF0 hlen hbig
  go_enter Try.func28, Try.ntmps28
  go_wp2_with (go_at_call 35; refine (within_any _ _ _ _).mono ?_; rintro e w' ⟨rfl, rfl⟩)
  go_loopg [8, 9, 10, 11, 12] at_.length (fun gg s8 s9 s10 _ _ wr => ∃ (kk : Nat) (la : Int), kk ≤ at_.length ∧ at_.length - kk ≤ gg ∧ s10 = .int .i64 kk ∧ s9 = .int .i64 la ∧ Aside (la = lastI at_ kk) ∧ Aside (Below w.heap.size w wr) ∧ Aside (Own wr w.heap.size 34 3 encP s8 (insL at_ ads kk)) ∧ Aside (∀ j, j < kk → insF1 P at_ ads j = 0))
  case atStart => exact ⟨0, 0, Nat.zero_le _, by omega, rfl, rfl, (show Aside _ from rfl), Below.refl _ _, (show Own _ _ _ _ _ _ _ from Own.nil), fun j hj => absurd hj (Nat.not_lt_zero _)⟩
  case round =>
    obtain ⟨kk, la, hkk, hg, rfl, rfl, LA, BW, OW, A⟩ := hrel
    have hla := lastI_bd hP0 A.out
    rw [← LA.out] at hla
    obtain ⟨hla0, hla1⟩ := hla
    have hpb := insL_PB hP1 hP0 kk A.out
    have hlk := insL_len at_ ads kk (by omega)
    have hck := cntS_le ads kk
    have hBw := BW.out.size
    have HPB := Lib.hid hpb
    have hlk2 : Hid ((insL at_ ads kk).length ≤ 1000000200) := Lib.hid (by have := HCN.out; omega)
    clear hpb hlk hck
    by_cases hlt : kk < at_.length
    · have hltz : (kk : Int) < (at_.length : Int) := by omega
      have hltz2 : (kk : Int) < (ads.length : Int) := by omega
      obtain ⟨t, hx⟩ : ∃ x, at_[kk]? = some x := ⟨at_[kk], by simp [hlt]⟩
      obtain ⟨b, off, hao, hc⟩ := HEM.out kk t hx
      subst hao
      have hlt0 := World.block_lt_of_cell? w ⟨b, off + kk * 1 + 0, none⟩ (hc 0 _ rfl)
      have c0 : wr.cell? ⟨b, off + kk, none⟩ = some (.int .i64 t) := by have h := (BW.out.cell (p := ⟨b, off + kk * 1 + 0, none⟩) hlt0).trans (hc 0 _ rfl); simpa using h
      obtain ⟨y, hy⟩ : ∃ x, ads[kk]? = some x := ⟨ads[kk]'(by omega), by simp⟩
      obtain ⟨b2, off2, hao2, hd⟩ := HEL.out kk y hy
      subst hao2
      have hlt2 := World.block_lt_of_cell? w ⟨b2, off2 + kk * 1 + 0, none⟩ (hd 0 _ rfl)
      have d0 : wr.cell? ⟨b2, off2 + kk, none⟩ = some y.v := by have h := (BW.out.cell (p := ⟨b2, off2 + kk * 1 + 0, none⟩) hlt2).trans (hd 0 _ rfl); simpa using h
      have hprev : ∀ j, kk = j + 1 → wr.cell? ⟨b, off + j, none⟩ = some (.int .i64 la) := fun j hj => by
        obtain ⟨q, hq⟩ : ∃ x, at_[j]? = some x := ⟨at_[j]'(by omega), by simp⟩
        obtain ⟨b3, off3, hao3, hd3⟩ := HEM.out j q hq
        simp only [Option.some.injEq, Addr.mk.injEq, and_true] at hao3
        obtain ⟨rfl, rfl⟩ := hao3
        have h := (BW.out.cell (p := ⟨b, off + j * 1 + 0, none⟩) hlt0).trans (hd3 0 _ rfl)
        have hla : la = q := by rw [LA.out, hj, lastI, if_neg (by omega), Nat.add_sub_cancel]; exact getD_of hq
        rw [hla]
        simpa using h
      have hwf := HW.out y (List.mem_of_getElem? hy)
      have HWF := Lib.hid hwf
      have hgt : Hid (at_.getD kk 0 = t) := Lib.hid (getD_of hx)
      have hgy : Hid (ads.getD kk default = y) := Lib.hid (getD_of hy)
      have hcy : Hid (y.l.length ≤ 1000000000) := Lib.hid (by
        have h1 := cntS_take hy
        have h2 := cntS_le ads (kk + 1)
        have := HCN.out
        omega)
      have hI1 : Hid (insF1 P at_ ads kk = if outB t 0 P = true then 1 else if (decide (0 < kk) && decide (t ≤ la)) = true then 8 else adsF y.l) := Lib.hid (by
        rw [insF1, hgt.out, hgy.out]
        cases outB t 0 P
        · cases h0 : decide (0 < kk)
          · rfl
          · have : lastI at_ kk = at_.getD (kk - 1) 0 := by rw [lastI, if_neg (by simp at h0; omega)]
            rw [LA.out, this]
        · rfl)
      have hS : Hid (∀ z, insF1 P at_ ads kk = z → z ≠ 0 → z = RF ∧ RL = []) := Lib.hid (fun z h hz => HBAD.out z (by rw [hF1.out, FF_hit hlt A.out (by rw [h]; exact hz), h]) hz)
      have hnx : Hid (insL at_ ads (kk + 1) = prg (insL at_ ads kk) la t ++ y.l.map adP) := Lib.hid (by rw [insL, ← LA.out, hgt.out, hgy.out])
      have hnl : Hid (lastI at_ (kk + 1) = t) := Lib.hid (by rw [lastI, if_neg (by omega), Nat.add_sub_cancel, hgt.out])
      clear hx hy hc hd hwf
      cases o2 : outB t 0 P
      case true =>
        have hv := Lib.hid (hS.out 1 (by rw [hI1.out, o2]; rfl) (by decide))
        go_wp2_with (go_at_call 35; refine (within_any _ _ _ _).mono ?_; rintro e w' ⟨rfl, rfl⟩)
        go_ret2
        exact SlPost.mk hv.out.1 (by rw [hv.out.2]; exact Sl.nil) BW.out
      obtain ⟨ht0, ht1⟩ := outB_no o2
      have HPV := Lib.hid hprev
      clear hprev
      go_upto_region 14 with (go_at_call 35; refine (within_any _ _ _ _).mono ?_; rintro e w' ⟨rfl, rfl⟩)
      go_cut [50] (fun s50 w4 => s50 = .bool (decide (0 < kk) && decide (t ≤ la)) ∧ ∃ n, w4 = wr.drewN n)
      case first =>
        by_cases hk0 : kk = 0
        · have hz : ¬ (0 : Int) < (kk : Int) := by omega
          have hz' : decide ((0 : Int) < (kk : Int)) = false := decide_eq_false (by omega)
          have hz2 : decide (0 < kk) = false := decide_eq_false (by omega)
          clear hk0
          go_quiet (fail)
          go_wp2
          go_meet
          exact ⟨by rw [hz2]; rfl, _, rfl⟩
        · have hz : (0 : Int) < (kk : Int) := by omega
          have hz' : decide ((0 : Int) < (kk : Int)) = true := decide_eq_true (by omega)
          have hz2 : decide (0 < kk) = true := decide_eq_true (by omega)
          have hp0 := HPV.out (kk - 1) (by omega)
          have ez2 : ((kk : Int) - 1).toNat = kk - 1 := by omega
          have hm1 : (kk : Int) - 1 < (at_.length : Int) := by omega
          have hm2 : (0 : Int) ≤ (kk : Int) - 1 := by omega
          have hm3 : (1 : Int) ≤ (kk : Int) := by omega
          have hwk : IntKind.i64.wrap ((kk : Int) - 1) = (kk : Int) - 1 := IntWalk.i64_in _ (by omega)
          clear hk0
          go_quiet (fail)
          go_wp2
          go_meet
          exact ⟨by rw [hz2]; rfl, _, rfl⟩
      obtain ⟨rfl, nq, rfl⟩ := hcut
      obtain ⟨w2, hw2⟩ : ∃ w2, w2 = wr.drewN nq := ⟨_, rfl⟩
      have HB2 : Hid (Below w.heap.size w w2) := Lib.hid (by rw [hw2]; exact below_drewN BW.out _)
      have ho2 := OW.out.drewN nq
      rw [← hw2] at ho2
      have HO2 := Lib.hid ho2
      have e0 : w2.cell? ⟨b, off + kk, none⟩ = some (.int .i64 t) := by rw [hw2]; exact c0
      have f0 : w2.cell? ⟨b2, off2 + kk, none⟩ = some y.v := by rw [hw2]; exact d0
      have hB2s : w.heap.size ≤ w2.heap.size := HB2.out.size
      rw [← hw2]
      clear hw2 c0 d0 hBw HPV ho2
      generalize hO : (decide (0 < kk) && decide (t ≤ la)) = O at hI1
      cases O
      case true =>
        have hv := Lib.hid (hS.out 8 (by rw [hI1.out, o2]; rfl) (by decide))
        clear hO
        go_wp2
        go_ret2
        exact SlPost.mk hv.out.1 (by rw [hv.out.2]; exact Sl.nil) HB2.out
      clear hO
      have hI2 : Hid (insF1 P at_ ads kk = adsF y.l) := Lib.hid (by rw [hI1.out, o2]; rfl)
      have c1 := rprog_any w2 w.heap.size _ _ la t HO2.out hB2s HPB.out (by have := hlk2.out; omega) hla0 (by omega) ht0 (by omega)
      have c2 := fun (W : World) (v : Value) (hv : Own W w.heap.size 34 3 encP v (prg (insL at_ ads kk) la t)) (hb : Below w.heap.size w W) => played_any W w.heap.size _ v y.l y.v hv hb.size (HWF.out.1.below hb (Nat.le_refl _)) (HWF.out.1.lt (fun _ => by rw [encA_len]; decide) (Nat.le_refl _)) HWF.out.2 (by have h1 := prg_len (insL at_ ads kk) la t; have h2 := hlk2.out; have h3 := hcy.out; omega)
      have hPL : Hid (playL (prg (insL at_ ads kk) la t) y.l = if adsF y.l = 0 then prg (insL at_ ads kk) la t ++ y.l.map adP else []) := Lib.hid rfl
      obtain ⟨z, hz⟩ : ∃ z, z = adsF y.l := ⟨_, rfl⟩
      obtain ⟨PL, hPL'⟩ : ∃ PL, PL = playL (prg (insL at_ ads kk) la t) y.l := ⟨_, rfl⟩
      rw [← hz, ← hPL'] at c2
      rw [← hz, ← hPL'] at hPL
      rw [← hz] at hI2
      have C2 := Lib.hid c2
      clear hz c2 hPL'
      cases e3 : (z != 0)
      case true =>
        have hv := Lib.hid (hS.out z hI2.out (by simpa using e3))
        go_wp2_with (first | (go_at_call 52; go_loud (refine c1.mono ?_; rintro e w3 ⟨v3, rfl, ho3, hb3⟩; have HB3 := Lib.hid (HB2.out.trans hb3); have f1 := (hb3.cell (p := ⟨b2, off2 + kk, none⟩) hlt2).trans f0; have e1 := (hb3.cell (p := ⟨b, off + kk, none⟩) hlt0).trans e0; have c2' := C2.out w3 v3 ho3 HB3.out; clear ho3 hb3 c1)) | (go_at_call 53; refine c2'.mono ?_; rintro e w4 ⟨v4, rfl, ho4, hb4⟩))
        go_ret2
        exact SlPost.mk hv.out.1 (by rw [hv.out.2]; exact Sl.nil) (HB3.out.trans hb4)
      obtain rfl : z = 0 := by simpa using e3
      clear e3
      have hnx2 : Hid (insL at_ ads (kk + 1) = PL) := Lib.hid (by rw [hnx.out, hPL.out, if_pos rfl])
      go_wp2_with (first | (go_at_call 52; go_loud (refine c1.mono ?_; rintro e w3 ⟨v3, rfl, ho3, hb3⟩; have HB3 := Lib.hid (HB2.out.trans hb3); have f1 := (hb3.cell (p := ⟨b2, off2 + kk, none⟩) hlt2).trans f0; have e1 := (hb3.cell (p := ⟨b, off + kk, none⟩) hlt0).trans e0; have c2' := C2.out w3 v3 ho3 HB3.out; clear ho3 hb3 c1)) | (go_at_call 53; refine c2'.mono ?_; rintro e w4 ⟨v4, rfl, ho4, hb4⟩; have HB4 := Lib.hid (HB3.out.trans hb4); have HO4 := Lib.hid ho4; clear ho4 hb4))
      go_roundg (at_.length - (kk + 1))
      case measure => omega
      case rel =>
        refine ⟨kk + 1, t, by omega, by omega, by go_num, rfl, (show Aside _ from hnl.out.symm), HB4.out, (show Own _ _ _ _ _ _ _ from by rw [hnx2.out]; exact HO4.out), (show Aside _ from fun j hj => ?_)⟩
        by_cases e : j = kk
        · rw [e, hI2.out]
        · exact A.out j (by omega)
    · obtain rfl : kk = at_.length := by omega
      have hf : Hid (0 = F0) := Lib.hid (by rw [hF1.out, FF_zero A.out])
      have hv := Lib.hid (HGOOD.out hf.out)
      have hbd1 := rprog_any wr w.heap.size _ _ la P OW.out BW.out.size HPB.out (by have := hlk2.out; omega) hla0 (by omega) hP0 hP1
      have hzz : Hid (prg (insL at_ ads at_.length) la P = insZ P at_ ads) := Lib.hid (by rw [insZ, LA.out])
      have HPZ := Lib.hid (PB_wf (prg_PB (b := P) HPB.out hla0 hP1))
      rw [hzz.out] at hbd1
      go_wp2_with (first | (go_at_call 52; refine hbd1.mono ?_; rintro e w2 ⟨v2, rfl, ho2, hb2⟩; have HBW2 := Lib.hid (BW.out.trans hb2); have hbd2 := right_any w2 _ v2 (ho2.sl encP_len) (by rw [← hzz.out]; exact HPZ.out); clear ho2 hb2 hbd1) | (go_at_call 54; refine hbd2.mono ?_; rintro e w3 ⟨v3, rfl, hs3, hb3⟩))
      go_ret2
      exact SlPost.mk hv.out.1.symm (by rw [hv.out.2]; exact hs3) (HBW2.out.thru hb3)
end Go.Proofs.Yteijcombdlgioaa

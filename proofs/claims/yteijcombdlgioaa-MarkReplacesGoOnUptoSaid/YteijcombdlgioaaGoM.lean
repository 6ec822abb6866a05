/- MarkReplacesGoOn: the walk. -/
import Derived.Test.YteijcombdlgioaaKeepM
namespace Go.Proofs.Yteijcombdlgioaa
open Go.RowKit

def inB1 (x : Brk) (t : Int) : Bool := decide (x.be ≤ t) && (decide (t < x.en) || decide (x.en = -1))

theorem check_wf {Z : List Prt} (hch : checkP Z = 0) : ∀ p, p ∈ Z → WfP p := fun p hp => by
  have hZ := checkP_parts hch
  have h4 := pf_zero (hZ.2.1 p hp)
  have h5 := pf_all hch p hp
  refine ⟨?_, by omega, by omega⟩
  rcases h4.1 with h6 | h6
  · unfold noAd at h6
    rw [ByteArray.toList_eq] at h6
    have : p.ad.data.toList.length = 0 := by rw [List.isEmpty_iff.1 h6]; rfl
    have h7 : p.ad.size = 0 := by simpa using this
    omega
  · have := nameB_size h6; omega

set_option maxRecDepth 100000 in
set_option maxHeartbeats 4000000 in
theorem goOn_any (w : World) (P : Int) (bl : List Brk) (u : Value) (ads : List AdS) (v : Value) (t : Int) (hs : Sl w 3 encB u bl) (hl : Sl w 1 encS v ads) (hw : ∀ y, y ∈ ads → WfS w y) (hcnt : cntS ads ≤ 1000000000) :
    Calls Try.prog 7 #[.int .i64 P, u, v, .int .i64 t] w fun e w' => e = .returned (.bool true) ∧ Below w.heap.size w w' := by
  have h1 := replaced_any w P bl u ads v hs hl hw hcnt
  have hka := @goes_on P bl ads
  have hRF : repRF P bl ads ≠ 0 → repRL P bl ads = [] := fun h => by
    unfold repRL
    unfold repRF at h
    by_cases h0 : repF0 P bl ads = 0
    · rw [if_neg (by simp [h0])] at h ⊢
      rw [rightL, if_neg h]
    · rw [if_pos h0]
  obtain ⟨ao, cap, rfl, hcap, hmax, hnil, hel⟩ := hs
  unfold maxLen at hmax
  have HEL := Lib.hid hel
  clear hel hw hl
  generalize repRF P bl ads = F at h1 hka hRF
  generalize repRL P bl ads = L at h1 hka hRF
  cases e1 : (F != 0)
  case true =>
    obtain rfl := hRF (by simpa using e1)
    clear hka hRF
    go_enter Try.func7, Try.ntmps7
    go_wp2_with (first | (go_at_call 26; refine h1.mono ?_; rintro e w1 ⟨v1, rfl, hs1, hb1⟩; obtain ⟨a1, c1, rfl, _, _, _, _⟩ := hs1) | (go_at_call 13; refine (awake_any _).mono ?_; rintro e w2 ⟨rfl, hb2⟩))
    go_ret
    exact ⟨rfl, hb1.thru hb2⟩
  obtain rfl : F = 0 := by simpa using e1
  clear e1 hRF
  obtain ⟨rfl, hch, hP0, hP1, htk⟩ := hka rfl
  generalize repZ P bl ads = Z at h1 hch htk
  have hwf := check_wf hch
  have hcp := fun (W : World) (v1 : Value) (h : Sl W 3 encP v1 Z) => checkParts_any W Z v1 h hwf
  have hst := fun (W : World) (v1 : Value) (h : Sl W 3 encP v1 Z) => stitched_any W Z v1 t h hwf
  rw [hch] at hcp
  have HCP := Lib.hid hcp
  have HTK := Lib.hid htk
  clear hcp htk hch hwf
  by_cases ht0 : t < 0
  · clear hst
    go_enter Try.func7, Try.ntmps7
    go_wp2_with (first | (go_at_call 26; refine h1.mono ?_; rintro e w1 ⟨v1, rfl, hs1, hb1⟩; have hcp := HCP.out w1 v1 hs1) | (go_at_call 20; refine hcp.mono ?_; rintro e w2 ⟨rfl, hb2⟩) | (go_at_call 13; refine (awake_any _).mono ?_; rintro e w3 ⟨rfl, hb3⟩))
    go_ret
    exact ⟨rfl, hb1.thru (hb2.thru hb3)⟩
  by_cases ht1 : P ≤ t
  · clear hst
    go_enter Try.func7, Try.ntmps7
    go_wp2_with (first | (go_at_call 26; refine h1.mono ?_; rintro e w1 ⟨v1, rfl, hs1, hb1⟩; have hcp := HCP.out w1 v1 hs1) | (go_at_call 20; refine hcp.mono ?_; rintro e w2 ⟨rfl, hb2⟩) | (go_at_call 13; refine (awake_any _).mono ?_; rintro e w3 ⟨rfl, hb3⟩))
    go_ret
    exact ⟨rfl, hb1.thru (hb2.thru hb3)⟩
  obtain ⟨hk1, hk2, hk3⟩ := HTK.out t (by omega) (by omega)
  rw [hk1] at hst
  generalize stitL Z t = SL at hst hk2 hk3
  have HK3 := Lib.hid hk3
  have HST := Lib.hid hst
  have hk2' : (SL.length : Int) ≤ 1 := by omega
  clear hk1 hk3 hst
  go_enter Try.func7, Try.ntmps7
  go_wp2_with (first | (go_at_call 26; refine h1.mono ?_; rintro e w1 ⟨v1, rfl, hs1, hb1⟩; have hst := HST.out w1 v1 hs1) | (go_at_call 16; refine hst.mono ?_; rintro e w2 ⟨v2, rfl, hs2, hb2⟩; obtain ⟨a2, c2, rfl, _, _, _, _⟩ := hs2))
  have HEL2 := Lib.hid (el_below HEL.out (hb1.thru hb2) (Nat.le_refl _))
  have HB2 := Lib.hid (hb1.thru hb2)
  clear h1 HEL hb1 hb2 hs1 hst
  go_loop [12] (fun s12 => ∃ kk : Nat, kk ≤ bl.length ∧ s12 = .int .i64 kk ∧ Aside (∀ j, j < kk → inB1 (bl.getD j default) t = false)) (fun i => bl.length - (intOf i).toNat)
  case atStart => exact ⟨0, Nat.zero_le _, rfl, fun j hj => absurd hj (Nat.not_lt_zero _)⟩
  case round =>
    obtain ⟨kk, hkk, rfl, A⟩ := hrel
    by_cases hlt : kk < bl.length
    · have hltz : (kk : Int) < (bl.length : Int) := by omega
      obtain ⟨x, hx⟩ : ∃ x, bl[kk]? = some x := ⟨bl[kk], by simp [hlt]⟩
      obtain ⟨b, off, rfl, hc⟩ := HEL2.out kk x hx
      have c1 := hc 1 _ rfl
      have c2 := hc 2 _ rfl
      have hgx : Hid (bl.getD kk default = x) := Lib.hid (getD_of hx)
      have hI : Hid (inB1 x t = (decide (x.be ≤ t) && (decide (t < x.en) || decide (x.en = -1)))) := Lib.hid rfl
      clear hx hc
      go_upto_region 12 with (fail)
      go_cut [83] (fun s83 w4 => s83 = .bool (inB1 x t) ∧ w2 = w4)
      case first =>
        by_cases q1 : x.be ≤ t
        · by_cases q2 : t < x.en
          · go_wp2
            go_meet
            exact ⟨by rw [hI.out]; simp [*], rfl⟩
          · have q2' : decide (t < x.en) = false := decide_eq_false q2
            go_wp2
            go_meet
            exact ⟨by rw [hI.out, q2', decide_eq_true q1]; cases e9 : (x.en == -1) <;> simp_all, rfl⟩
        · have q1' : decide (x.be ≤ t) = false := decide_eq_false q1
          go_wp2
          go_meet
          exact ⟨by rw [hI.out, q1']; rfl, rfl⟩
      obtain ⟨rfl, rfl⟩ := hcut
      cases hO : inB1 x t
      case true =>
        clear hO
        go_wp2_with (go_at_call 13; refine (awake_any _).mono ?_; rintro e w3 ⟨rfl, hb3⟩)
        go_ret
        exact ⟨rfl, HB2.out.thru hb3⟩
      case false =>
        have HO := Lib.hid hO
        clear hO
        go_wp2
        go_round
        case rel =>
          refine ⟨kk + 1, by omega, by go_num, (show Aside _ from fun j hj => ?_)⟩
          by_cases e : j = kk
          · rw [e, hgx.out, HO.out]
          · exact A.out j (by omega)
        case measure => simp [intOf]; omega
    · obtain rfl : kk = bl.length := by omega
      have hq : SL.length = 1 := HK3.out (by
        rintro ⟨i, hi, h3, h4⟩
        have h5 := A.out i hi
        unfold inB1 at h5
        simp at h5
        have h6 := h5 (by simpa using h3)
        rcases h4 with h4 | h4
        · simp at h4; omega
        · simp at h4; omega)
      have hq' : ((SL.length : Int) == 1) = true := by simp [hq]
      have hq2 : (SL.length == 1) = true := by simp [hq]
      clear hq
      go_wp2_with (go_at_call 13; refine (awake_any _).mono ?_; rintro e w3 ⟨rfl, hb3⟩)
      go_ret
      exact ⟨rfl, HB2.out.thru hb3⟩
end Go.Proofs.Yteijcombdlgioaa

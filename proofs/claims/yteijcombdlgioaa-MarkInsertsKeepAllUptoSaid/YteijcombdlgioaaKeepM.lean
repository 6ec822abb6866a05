/- MarkInsertsKeepAll and MarkReplacesGoOn: the walks. -/
import Derived.Test.YteijcombdlgioaaCovL
import Derived.Test.YteijcombdlgioaaInsM
namespace Go.Proofs.Yteijcombdlgioaa
open Go.RowKit

theorem sumAS_nn {l : List AdS} (h : ∀ y, y ∈ l → ∀ a, a ∈ y.l → 1 ≤ a.ln ∧ a.ln ≤ 1000000000000000) : 0 ≤ sumAS l := by
  induction l with
  | nil => simp [sumAS]
  | cons p r ih =>
    have h1 := sumA_nn (h p (by simp))
    have h2 := ih (fun q hq => h q (by simp [hq]))
    simp only [sumAS]
    omega
theorem sumAS_le {l : List AdS} (h : ∀ y, y ∈ l → ∀ a, a ∈ y.l → 1 ≤ a.ln ∧ a.ln ≤ 1000000000000000) (m : Nat) : sumAS (l.take m) ≤ sumAS l := by
  conv => rhs; rw [← List.take_append_drop m l, sumAS_append]
  have := sumAS_nn (l := l.drop m) fun a ha => h a (List.mem_of_mem_drop ha)
  omega

set_option maxRecDepth 100000 in
set_option maxHeartbeats 4000000 in
theorem keepAll_any (w : World) (P : Int) (at_ : List Int) (u : Value) (ads : List AdS) (v : Value) (t : Int) (hs : Sl w 1 encI u at_) (hl : Sl w 1 encS v ads) (hw : ∀ y, y ∈ ads → WfS w y) (hcnt : cntS ads ≤ 1000000000) :
    Calls Try.prog 8 #[.int .i64 P, u, v, .int .i64 t] w fun e w' => e = .returned (.bool true) ∧ Below w.heap.size w w' := by
  have h1 := inserted_any w P at_ u ads v hs hl hw hcnt
  have hka := @keeps_all P at_ ads
  have hRF : insRF P at_ ads ≠ 0 → insRL P at_ ads = [] := fun h => by
    unfold insRL
    unfold insRF at h
    by_cases h0 : insF0 P at_ ads = 0
    · rw [if_neg (by simp [h0])] at h ⊢
      rw [rightL, if_neg h]
    · rw [if_pos h0]
  obtain ⟨ao, cap, rfl, hcap, hmax, hnil, hel⟩ := hl
  unfold maxLen at hmax
  have HEL := Lib.hid hel
  have HW := Lib.hid hw
  clear hel hw hs
  generalize insRF P at_ ads = F at h1 hka hRF
  generalize insRL P at_ ads = L at h1 hka hRF
  cases e1 : (F != 0)
  case true =>
    obtain rfl := hRF (by simpa using e1)
    clear hka hRF
    go_enter Try.func8, Try.ntmps8
    go_wp2_with (first | (go_at_call 27; refine h1.mono ?_; rintro e w1 ⟨v1, rfl, hs1, hb1⟩; obtain ⟨a1, c1, rfl, _, _, _, _⟩ := hs1) | (go_at_call 13; refine (awake_any _).mono ?_; rintro e w2 ⟨rfl, hb2⟩))
    go_ret
    exact ⟨rfl, hb1.thru hb2⟩
  obtain rfl : F = 0 := by simpa using e1
  clear e1 hRF
  obtain ⟨rfl, hch, hsm, hP0, hP1, had, htk⟩ := hka rfl
  generalize insZ P at_ ads = Z at h1 hch hsm htk
  have hZ := checkP_parts hch
  have hbd := checkP_bd hch
  have hpf := pf_all hch
  have hZ1 : sumL Z ≤ 1000000000000000 := hZ.2.2.1
  have hZ2 : Z.length ≤ 1000 := hZ.1
  have hwf : ∀ p, p ∈ Z → WfP p := fun p hp => by
    have h4 := pf_zero (hZ.2.1 p hp)
    have h5 := hpf p hp
    refine ⟨?_, by omega, by omega⟩
    rcases h4.1 with h6 | h6
    · unfold noAd at h6
      rw [ByteArray.toList_eq] at h6
      have : p.ad.data.toList.length = 0 := by rw [List.isEmpty_iff.1 h6]; rfl
      have h7 : p.ad.size = 0 := by simpa using this
      omega
    · have := nameB_size h6; omega
  have hcp := fun (W : World) (v1 : Value) (h : Sl W 3 encP v1 Z) => checkParts_any W Z v1 h hwf
  have hst := fun (W : World) (v1 : Value) (h : Sl W 3 encP v1 Z) => stitched_any W Z v1 t h hwf
  have hpg := fun (W : World) (v1 : Value) (s : Int) (h : Sl W 3 encP v1 Z) => programme_any W Z v1 s h hwf
  unfold Pg3 at hpg
  rw [hch] at hcp
  have has := sumAS_nn had
  have HAD := Lib.hid had
  have HSM := Lib.hid hsm
  have HBD := Lib.hid hbd
  have HCP := Lib.hid hcp
  have HST := Lib.hid hst
  have HPG := Lib.hid hpg
  have HTK := Lib.hid htk
  have hall : P + sumAS ads ≤ 1000000000000000 := by omega
  obtain ⟨SA, hSA⟩ : ∃ SA, SA = sumAS ads := ⟨_, rfl⟩
  rw [← hSA] at hall has
  have HSA := Lib.hid hSA
  clear hsm had hbd hcp hst hpg htk hch hpf hwf hZ hSA
  go_enter Try.func8, Try.ntmps8
  go_wp2_with (go_at_call 27; refine h1.mono ?_; rintro e w1 ⟨v1, rfl, hs1, hb1⟩)
  have HB1 := Lib.hid hb1
  have HS1 := Lib.hid hs1
  have HEL1 := Lib.hid (el_below HEL.out hb1 (Nat.le_refl _))
  have HW1 : Hid (∀ y, y ∈ ads → WfS w1 y) := Lib.hid fun y hy => (HW.out y hy).below hb1
  clear hb1 h1 hs1 HEL HW
  go_loop [11, 12, 13] (fun s11 s12 _ => ∃ (kk : Nat) (q : Int), kk ≤ ads.length ∧ s12 = .int .i64 kk ∧ s11 = .int .i64 q ∧ 0 ≤ q ∧ q ≤ 1000000000000000 ∧ Aside (q = P + sumAS (ads.take kk))) (fun _ i _ => ads.length - (intOf i).toNat)
  case atStart => exact ⟨0, P, Nat.zero_le _, rfl, rfl, hP0, hP1, (show Aside _ from by simp [Aside, sumAS])⟩
  case round =>
    obtain ⟨kk, q, hkk, rfl, rfl, hq0, hq1, Q⟩ := hrel
    by_cases hlt : kk < ads.length
    · have hltz : (kk : Int) < (ads.length : Int) := by omega
      obtain ⟨y, hy⟩ : ∃ x, ads[kk]? = some x := ⟨ads[kk], by simp [hlt]⟩
      obtain ⟨b, off, hao, hc⟩ := HEL1.out kk y hy
      subst hao
      have c0 : w1.cell? ⟨b, off + kk, none⟩ = some y.v := by simpa using hc 0 _ rfl
      obtain ⟨ya, yc, hyv, hyc, hym, hyn, hyel⟩ := (HW1.out y (List.mem_of_getElem? hy)).1
      have HAy := Lib.hid (HAD.out y (List.mem_of_getElem? hy))
      have hqn : Hid (P + sumAS (ads.take (kk + 1)) = q + sumA y.l) := Lib.hid (by rw [sumAS_take hy, Q.out]; omega)
      have hqm : q + sumA y.l ≤ 1000000000000000 := by
        have h5 := sumAS_le HAD.out (kk + 1)
        have h6 := hqn.out
        have h7 := HSA.out
        omega
      have HYE := Lib.hid hyel
      rw [hyv] at c0
      unfold maxLen at hym
      clear hy hc hyel hyv hyn
      go_wp2
      go_loop [11, 13] (fun s11 s13 => ∃ (m : Nat) (z : Int), m ≤ y.l.length ∧ s13 = .int .i64 m ∧ s11 = .int .i64 z ∧ 0 ≤ z ∧ z ≤ 1000000000000000 ∧ Aside (z = q + sumA (y.l.take m))) (fun _ i => y.l.length - (intOf i).toNat)
      case atStart => exact ⟨0, q, Nat.zero_le _, rfl, rfl, hq0, hq1, (show Aside _ from by simp [Aside, sumA])⟩
      obtain ⟨m, z, hm, rfl, rfl, hz0, hz1, Zr⟩ := hrel
      by_cases hml : m < y.l.length
      · have hmz : (m : Int) < (y.l.length : Int) := by omega
        obtain ⟨a, ha⟩ : ∃ x, y.l[m]? = some x := ⟨y.l[m], by simp [hml]⟩
        obtain ⟨b5, off5, rfl, hc5⟩ := HYE.out m a ha
        have c5 := hc5 1 _ rfl
        obtain ⟨ha0, ha1⟩ := HAy.out a (List.mem_of_getElem? ha)
        have hnz : Hid (z + a.ln = q + sumA (y.l.take (m + 1))) := Lib.hid (by rw [sumA_take ha, Zr.out]; omega)
        have hnm : z + a.ln ≤ 1000000000000000 := by
          have h5 := sumA_le HAy.out (m + 1)
          have h6 := hnz.out
          omega
        clear ha hc5
        go_wp2
        go_round
        case rel => exact ⟨m + 1, z + a.ln, by omega, by go_num, rfl, by omega, by omega, (show Aside _ from hnz.out)⟩
        case measure => simp [intOf]; omega
      · obtain rfl : m = y.l.length := by omega
        go_wp2
        go_round
        case rel => exact ⟨kk + 1, z, by omega, by go_num, rfl, by omega, by omega, (show Aside _ from by show _ = _; rw [hqn.out, Zr.out, List.take_length])⟩
        case measure => simp [intOf]; omega
    · obtain rfl : kk = ads.length := by omega
      have hq : Hid (q = sumL Z) := Lib.hid (by rw [Q.out, HSM.out, List.take_length])
      obtain ⟨a1, c1, rfl, hc1, hm1, hn1, hel1⟩ := HS1.out
      unfold maxLen at hm1
      have HE1 := Lib.hid hel1
      clear hel1
      go_wp2
      go_loop [14, 15] (fun s14 s15 => ∃ (m : Nat) (z : Int), m ≤ Z.length ∧ s15 = .int .i64 m ∧ s14 = .int .i64 z ∧ 0 ≤ z ∧ z ≤ 1000000000000000 ∧ Aside (z = sumL (Z.take m))) (fun _ i => Z.length - (intOf i).toNat)
      case atStart => exact ⟨0, 0, Nat.zero_le _, rfl, rfl, by omega, by omega, (show Aside _ from rfl)⟩
      obtain ⟨m, z, hm, rfl, rfl, hz0, hz1, Zr⟩ := hrel
      by_cases hml : m < Z.length
      · have hmz : (m : Int) < (Z.length : Int) := by omega
        obtain ⟨p, hp⟩ : ∃ x, Z[m]? = some x := ⟨Z[m], by simp [hml]⟩
        obtain ⟨b5, off5, rfl, hc5⟩ := HE1.out m p hp
        have c5 := hc5 2 _ rfl
        obtain ⟨hp0, hp1⟩ := HBD.out p (List.mem_of_getElem? hp)
        have hnz : Hid (z + p.ln = sumL (Z.take (m + 1))) := Lib.hid (by rw [sumL_take hp, Zr.out])
        have hnm : z + p.ln ≤ 1000000000000000 := by
          have h5 := sumL_mono HBD.out (a := m + 1) (b := Z.length) (by omega)
          rw [List.take_length] at h5
          have h6 := hnz.out
          omega
        clear hp hc5
        go_wp2
        go_round
        case rel => exact ⟨m + 1, z + p.ln, by omega, by go_num, rfl, by omega, by omega, (show Aside _ from hnz.out)⟩
        case measure => simp [intOf]; omega
      · obtain rfl : m = Z.length := by omega
        obtain rfl : z = q := by rw [hq.out, Zr.out, List.take_length]
        have hcp := HCP.out w1 _ HS1.out
        by_cases ht0 : t < 0
        · go_wp2_with (first | (go_at_call 20; refine hcp.mono ?_; rintro e w2 ⟨rfl, hb2⟩) | (go_at_call 13; refine (awake_any _).mono ?_; rintro e w3 ⟨rfl, hb3⟩))
          go_ret
          exact ⟨rfl, HB1.out.thru (hb2.thru hb3)⟩
        by_cases ht1 : P ≤ t
        · go_wp2_with (first | (go_at_call 20; refine hcp.mono ?_; rintro e w2 ⟨rfl, hb2⟩) | (go_at_call 13; refine (awake_any _).mono ?_; rintro e w3 ⟨rfl, hb3⟩))
          go_ret
          exact ⟨rfl, HB1.out.thru (hb2.thru hb3)⟩
        obtain ⟨s, hk1, hk2, hk3, hk4, hk5⟩ := HTK.out t (by omega) (by omega)
        have hst := fun (W : World) (h : Below w1.heap.size w1 W) => HST.out W _ (HS1.out.below h (Nat.le_refl _))
        rw [hk1, hk2] at hst
        have hpg := fun (W : World) (h : Below w1.heap.size w1 W) => HPG.out W _ s (HS1.out.below h (Nat.le_refl _))
        rw [hk3, hk4, hk5] at hpg
        have HST' := Lib.hid hst
        have HPG' := Lib.hid hpg
        clear hk1 hk2 hk3 hk4 hk5 hst hpg
        go_wp2_with (first | (go_at_call 20; refine hcp.mono ?_; rintro e w2 ⟨rfl, hb2⟩; have hst2 := HST'.out w2 hb2) | (go_at_call 16; refine hst2.mono ?_; rintro e w3 ⟨v3, rfl, hs3, hb3⟩; obtain ⟨b3, o3, k3, rfl, hk2, hk3, hc3⟩ := Sl.one hs3; have HB3 := Lib.hid (hb2.thru hb3); have hpg3 := HPG'.out w3 HB3.out; clear hs3 hb2 hb3 hst2) | (go_at_call 15; refine hpg3.mono ?_; rintro e w4 ⟨rfl, hb4⟩; have HB4 := Lib.hid (HB3.out.thru hb4); clear hb4) | (go_at_call 13; refine (awake_any _).mono ?_; rintro e w5 ⟨rfl, hb5⟩))
        go_ret
        exact ⟨rfl, HB1.out.thru (HB4.out.thru hb5)⟩
end Go.Proofs.Yteijcombdlgioaa

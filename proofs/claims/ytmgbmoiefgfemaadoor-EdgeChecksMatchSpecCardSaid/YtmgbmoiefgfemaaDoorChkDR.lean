/- CheckDelivery of the reference. -/
import Derived.Test.YtmgbmoiefgfemaaDoorChkCR
import Derived.Test.YtmgbmoiefgfemaaDoorChkUR
import Derived.Test.YtmgbmoiefgfemaaDoorChkLR
namespace Go.Proofs.YtmgbmoiefgfemaaDoor
open Go.RowKit

set_option maxRecDepth 100000 in
set_option maxHeartbeats 8000000 in
theorem checkDR_any (w : World) (c : List Cch) (r : List Crl) (e : List Rel) (l : List Pur) (vc vr ve vp : Value) (hc : Sl w 4 encC vc c) (hr : Sl w 4 encU vr r) (he : Sl w 4 encL ve e) (hl : Sl w 2 encG vp l) (hwc : ∀ x, x ∈ c → WfC x) (hwr : ∀ x, x ∈ r → WfU x) (hwe : ∀ x, x ∈ e → WfL x) (hw : ∀ x, x ∈ l → WfG x) :
    Calls Tryd.prog 22 #[.agg #[vc, vr, ve, vp]] w fun e' w' => e' = .returned (.int .i64 (checkD c r e l)) ∧ Below w.heap.size w w' := by
  have H1 := Lib.hid (fun (W : World) (h : Below w.heap.size w W) => checkCR_any W c vc (hc.below h (Nat.le_refl _)) hwc)
  have H2 := Lib.hid (fun (W : World) (h : Below w.heap.size w W) => checkUR_any W r vr (hr.below h (Nat.le_refl _)) hwr)
  have H3 := Lib.hid (fun (W : World) (h : Below w.heap.size w W) => checkLR_any W e ve (he.below h (Nat.le_refl _)) hwe)
  obtain ⟨ao, cap, rfl, hcap, hmax, hnil, hel⟩ := hl
  obtain ⟨co, cp, rfl, _⟩ := hc
  obtain ⟨ro, rp, rfl, _⟩ := hr
  obtain ⟨eo, ep, rfl, _⟩ := he
  unfold maxLen at hmax
  obtain ⟨vc, hvc⟩ : ∃ v, v = Value.slice co c.length cp := ⟨_, rfl⟩
  obtain ⟨vr, hvr⟩ : ∃ v, v = Value.slice ro r.length rp := ⟨_, rfl⟩
  obtain ⟨ve, hve⟩ : ∃ v, v = Value.slice eo e.length ep := ⟨_, rfl⟩
  rw [← hvc] at H1 ⊢
  rw [← hvr] at H2 ⊢
  rw [← hve] at H3 ⊢
  have HVC := Lib.hid hvc
  have HVR := Lib.hid hvr
  have HVE := Lib.hid hve
  have HEL := Lib.hid hel
  have HW := Lib.hid hw
  obtain ⟨CC, hCC⟩ : ∃ x, x = checkC c := ⟨_, rfl⟩
  obtain ⟨CU, hCU⟩ : ∃ x, x = checkU r := ⟨_, rfl⟩
  obtain ⟨CL, hCL⟩ : ∃ x, x = checkL e := ⟨_, rfl⟩
  have HD : Hid (checkD c r e l = if CC ≠ 0 then CC else if CU ≠ 0 then CU else if CL ≠ 0 then CL else checkG l) := Lib.hid (by rw [hCC, hCU, hCL]; rfl)
  rw [← hCC] at H1
  rw [← hCU] at H2
  rw [← hCL] at H3
  obtain ⟨D, hD⟩ : ∃ x, x = checkD c r e l := ⟨_, rfl⟩
  rw [← hD] at HD ⊢
  clear hel hw hCC hCU hCL hD hvc hvr hve hwc hwr hwe
  obtain ⟨w5, hw5⟩ : ∃ w5, w5 = w.alloc (.cells #[vc, vr, ve, .slice ao l.length cap] 40) := ⟨_, rfl⟩
  have hb5 : Below w.heap.size w w5 := by rw [hw5]; exact (Below.refl _ _).alloc (Nat.le_refl _) _
  have hd5 : w5.heap[w.heap.size]? = some (.cells #[vc, vr, ve, .slice ao l.length cap] 40 (0, 0)) := by rw [hw5]; exact block_new w _
  have HW5 := Lib.hid hw5
  have HB5 := Lib.hid hb5
  have HD5 := Lib.hid hd5
  have hg5 : w.heap.size < w5.heap.size := by rw [hw5]; simp
  clear hw5 hb5 hd5
  go_enter Tryd.func22, Tryd.ntmps22
  go_upto_region 1 with (fail)
  rw [← HW5.out]
  obtain ⟨g, hgq⟩ : ∃ g, g = w.heap.size := ⟨_, rfl⟩
  have HGQ := Lib.hid hgq
  have d0 : w5.cell? ⟨g, 0, none⟩ = some vc := by rw [hgq]; exact (cell_of_block (i := 0) HD5.out).trans rfl
  have d1 : w5.cell? ⟨g, 1, none⟩ = some vr := by rw [hgq]; exact (cell_of_block (i := 1) HD5.out).trans rfl
  have d2 : w5.cell? ⟨g, 2, none⟩ = some ve := by rw [hgq]; exact (cell_of_block (i := 2) HD5.out).trans rfl
  have d3 : w5.cell? ⟨g, 3, none⟩ = some (.slice ao l.length cap) := by rw [hgq]; exact (cell_of_block (i := 3) HD5.out).trans rfl
  rw [← hgq] at hg5 ⊢
  clear hgq HW5 HD5
  have k0 := d0
  have k1 := d1
  have k2 := d2
  have k3 := d3
  have hgk := hg5
  clear d0 d1 d2 d3 hg5
  go_wp2_with fail
  refine (H1.out _ HB5.out).mono ?_
  rintro e' w6 ⟨rfl, hb⟩
  have HB6 := Lib.hid (HB5.out.trans (hb.mono HB5.out.size))
  have k0 := (hb.cell (p := ⟨g, 0, none⟩) hgk).trans k0
  have k1 := (hb.cell (p := ⟨g, 1, none⟩) hgk).trans k1
  have k2 := (hb.cell (p := ⟨g, 2, none⟩) hgk).trans k2
  have k3 := (hb.cell (p := ⟨g, 3, none⟩) hgk).trans k3
  have hgk : g < w6.heap.size := Nat.lt_of_lt_of_le hgk hb.size
  clear hb
  by_cases hQ0 : CC = 0
  case neg =>
    have hv : Hid (CC = D) := Lib.hid (by rw [HD.out, if_pos hQ0])
    go_wp2_with fail
    go_ret
    exact ⟨ret_int hv.out, HB6.out⟩
  subst hQ0
  have HD : Hid (D = if CU ≠ 0 then CU else if CL ≠ 0 then CL else checkG l) := Lib.hid (by rw [HD.out]; simp)
  go_wp2_with fail
  refine (H2.out _ HB6.out).mono ?_
  rintro e' w7 ⟨rfl, hb⟩
  have HB7 := Lib.hid (HB6.out.trans (hb.mono HB6.out.size))
  have k0 := (hb.cell (p := ⟨g, 0, none⟩) hgk).trans k0
  have k1 := (hb.cell (p := ⟨g, 1, none⟩) hgk).trans k1
  have k2 := (hb.cell (p := ⟨g, 2, none⟩) hgk).trans k2
  have k3 := (hb.cell (p := ⟨g, 3, none⟩) hgk).trans k3
  have hgk : g < w7.heap.size := Nat.lt_of_lt_of_le hgk hb.size
  clear hb
  by_cases hQ1 : CU = 0
  case neg =>
    have hv : Hid (CU = D) := Lib.hid (by rw [HD.out, if_pos hQ1])
    go_wp2_with fail
    go_ret
    exact ⟨ret_int hv.out, HB7.out⟩
  subst hQ1
  have HD : Hid (D = if CL ≠ 0 then CL else checkG l) := Lib.hid (by rw [HD.out]; simp)
  go_wp2_with fail
  refine (H3.out _ HB7.out).mono ?_
  rintro e' w8 ⟨rfl, hb⟩
  have HB8 := Lib.hid (HB7.out.trans (hb.mono HB7.out.size))
  have k0 := (hb.cell (p := ⟨g, 0, none⟩) hgk).trans k0
  have k1 := (hb.cell (p := ⟨g, 1, none⟩) hgk).trans k1
  have k2 := (hb.cell (p := ⟨g, 2, none⟩) hgk).trans k2
  have k3 := (hb.cell (p := ⟨g, 3, none⟩) hgk).trans k3
  have hgk : g < w8.heap.size := Nat.lt_of_lt_of_le hgk hb.size
  clear hb
  by_cases hQ2 : CL = 0
  case neg =>
    have hv : Hid (CL = D) := Lib.hid (by rw [HD.out, if_pos hQ2])
    go_wp2_with fail
    go_ret
    exact ⟨ret_int hv.out, HB8.out⟩
  subst hQ2
  have HD : Hid (D = checkG l) := Lib.hid (by rw [HD.out]; simp)
  have e3 := k3
  have hg6 := hgk
  have HDG := Lib.hid HD.out
  obtain ⟨w6, rfl⟩ : ∃ w6, w6 = w8 := ⟨w8, rfl⟩
  have HB6 := Lib.hid HB8.out
  clear k0 k1 k2 k3 hgk
  by_cases hbig : 200 < l.length
  · have hv : Hid (2 = D) := Lib.hid (by rw [HDG.out]; simp [checkG, hbig])
    have hbz : (200 : Int) < (l.length : Int) := by omega
    go_wp2_with fail
    go_ret
    exact ⟨ret_int hv.out, HB6.out⟩
  have hbz : ¬ (200 : Int) < (l.length : Int) := by omega
  have HF : Hid (D = FF (cgAt l) l.length) := Lib.hid (by rw [HDG.out]; simp [checkG, hbig])
  clear hbig
  obtain ⟨F, rfl⟩ : ∃ F, F = D := ⟨D, rfl⟩
  go_wp2_with fail
  go_loopg [33] l.length (fun gg s33 wr => ∃ kk : Nat, kk ≤ l.length ∧ l.length - kk ≤ gg ∧ s33 = .int .i64 kk ∧ Aside (Below w.heap.size w wr) ∧ Aside (wr.cell? ⟨g, 3, none⟩ = some (.slice ao l.length cap)) ∧ Aside (∀ j, j < kk → cgAt l j = 0))
  case atStart => exact ⟨0, Nat.zero_le _, by omega, rfl, HB6.out, e3, fun j hj => absurd hj (Nat.not_lt_zero _)⟩
  case round =>
    obtain ⟨kk, hkk, hg, rfl, BW, K3, A⟩ := hrel
    have k3 := K3.out
    have HK3 := Lib.hid K3.out
    have hgr := World.block_lt_of_cell? wr _ k3
    clear e3 hg6 K3
    by_cases hlt : kk < l.length
    · have hltz : (kk : Int) < (l.length : Int) := by omega
      obtain ⟨x, hx⟩ : ∃ x, l[kk]? = some x := ⟨l[kk], by simp [hlt]⟩
      obtain ⟨p, hp⟩ : ∃ x, l[kk - 1]? = some x := ⟨l[kk - 1]'(by omega), by simp⟩
      obtain ⟨b, off, hao, hc⟩ := HEL.out kk x hx
      subst hao
      obtain ⟨b', off', hao', hc'⟩ := HEL.out (kk - 1) p hp
      simp only [Option.some.injEq, Addr.mk.injEq, and_true] at hao'
      obtain ⟨rfl, rfl⟩ := hao'
      have hlt0 := World.block_lt_of_cell? w ⟨b, off + kk * 2 + 0, none⟩ (hc 0 _ rfl)
      have c0 : wr.cell? ⟨b, off + kk * 2, none⟩ = some (.int .i64 x.ti) := (BW.out.cell (p := ⟨b, off + kk * 2 + 0, none⟩) hlt0).trans (hc 0 _ rfl)
      have p0 : wr.cell? ⟨b, off + (kk - 1) * 2, none⟩ = some (.int .i64 p.ti) := (BW.out.cell (p := ⟨b, off + (kk - 1) * 2 + 0, none⟩) hlt0).trans (hc' 0 _ rfl)
      have c1 : wr.cell? ⟨b, off + kk * 2 + 1, none⟩ = some (.string x.ke) := (BW.out.cell (p := ⟨b, off + kk * 2 + 1, none⟩) hlt0).trans (hc 1 _ rfl)
      have p1 : wr.cell? ⟨b, off + (kk - 1) * 2 + 1, none⟩ = some (.string p.ke) := (BW.out.cell (p := ⟨b, off + (kk - 1) * 2 + 1, none⟩) hlt0).trans (hc' 1 _ rfl)
      have hbw : b < wr.heap.size := Nat.lt_of_lt_of_le hlt0 BW.out.size
      have hsz : x.ke.size ≤ 9223372036854775807 := HW.out x (List.mem_of_getElem? hx)
      have hin := isReqR_any x.ke
      have hszw := BW.out.size
      have hat : Hid (cgAt l kk = cgOf x p kk) := Lib.hid (by rw [cgAt, getD_of hx, getD_of hp])
      have hS : Hid (∀ z, cgOf x p kk = z → z ≠ 0 → z = F) := Lib.hid (fun z h hz => by
        rw [HF.out, FF_hit hlt A.out (by rw [hat.out, h]; exact hz), hat.out, h])
      have hC0 : Hid (cgOf x p kk = if (outB x.ti 0 1000000000000) = true then 1 else if (!reqB x.ke) = true then 3 else if (ordG x p kk) = true then 8 else 0) := Lib.hid rfl
      clear hx hp hc hc'
      have HB0 := Lib.hid (BW.out.alloc hszw (.cells #[.int .i64 x.ti, .string x.ke] 80))
      have HKZ := Lib.hid ((((Below.refl wr.heap.size wr).alloc (Nat.le_refl _) (.cells #[.int .i64 x.ti, .string x.ke] 80)).cell (p := ⟨g, 3, none⟩) hgr).trans HK3.out)
      go_upto_region 15 with (fail)
      go_cut [38] (fun s w4 => s = .bool (outB x.ti 0 1000000000000) ∧ w4 = (wr.alloc (.cells #[.int .i64 x.ti, .string x.ke] 80)))
      case first =>
        cases o0 : outB x.ti 0 1000000000000
        all_goals
          go_wp2_with (go_at_call 41; refine (withinE_any _ _ _ _).mono ?_; rintro e w' ⟨rfl, rfl⟩)
          go_meet
          exact ⟨by simp [*], rfl⟩
      obtain ⟨rfl, rfl⟩ := hcut
      generalize hO : (outB x.ti 0 1000000000000) = O at hC0 ⊢
      clear hO
      cases O
      case true =>
        have hv : Hid (1 = F) := Lib.hid (hS.out 1 (by rw [hC0.out]; rfl) (by decide))
        go_wp2
        go_ret
        exact ⟨ret_int hv.out, HB0.out⟩
      have hC1 : Hid (cgOf x p kk = if (!reqB x.ke) = true then 3 else if (ordG x p kk) = true then 8 else 0) := Lib.hid (by rw [hC0.out]; rfl)
      clear hC0
      go_upto_region 17 with (fail)
      go_cut [43] (fun s w4 => s = .bool (!reqB x.ke) ∧ w4 = (wr.alloc (.cells #[.int .i64 x.ti, .string x.ke] 80)))
      case first =>
        go_wp2_with (go_at_call 38; refine (hin _ hsz).mono ?_; rintro e w' ⟨rfl, rfl⟩)
        go_meet
        exact ⟨by simp, rfl⟩
      obtain ⟨rfl, rfl⟩ := hcut
      generalize hO : (!reqB x.ke) = O at hC1 ⊢
      clear hO
      cases O
      case true =>
        have hv : Hid (3 = F) := Lib.hid (hS.out 3 (by rw [hC1.out]; rfl) (by decide))
        go_wp2
        go_ret
        exact ⟨ret_int hv.out, HB0.out⟩
      have hC2 : Hid (cgOf x p kk = if (ordG x p kk) = true then 8 else 0) := Lib.hid (by rw [hC1.out]; rfl)
      clear hC1
      go_upto_region 19 with (fail)
      have hor : Hid ((ordG x p kk) = (decide (0 < kk) && (decide (x.ti < p.ti) || (x.ti == p.ti && (Op.bytesLess x.ke.toList p.ke.toList || x.ke.toList == p.ke.toList))))) := Lib.hid rfl
      generalize hOG : (ordG x p kk) = OG at hor hC2 ⊢
      have HOG := Lib.hid hOG
      clear hOG
      go_cut [48] (fun s w4 => s = .bool OG ∧ ∃ n, w4 = (wr.alloc (.cells #[.int .i64 x.ti, .string x.ke] 80)).drewN n)
      case first =>
        by_cases hk0 : kk = 0
        · have hz : decide ((0 : Int) < (kk : Int)) = false := decide_eq_false (by omega)
          have hz' : ¬ (0 : Int) < (kk : Int) := by omega
          have hz2 : decide (0 < kk) = false := decide_eq_false (by omega)
          have hv : Hid (OG = false) := Lib.hid (by rw [hor.out, hz2]; rfl)
          clear hk0
          go_quiet (fail)
          go_wp2
          go_meet
          exact ⟨by rw [hv.out], _, rfl⟩
        · have hz : decide ((0 : Int) < (kk : Int)) = true := decide_eq_true (by omega)
          have hz2 : decide (0 < kk) = true := decide_eq_true (by omega)
          have ez2 : ((kk : Int) - 1).toNat = kk - 1 := by omega
          have hm1 : (kk : Int) - 1 < (l.length : Int) := by omega
          have hm2 : (0 : Int) ≤ (kk : Int) - 1 := by omega
          have hm3 : (1 : Int) ≤ (kk : Int) := by omega
          have hm4 : 0 < kk := by omega
          have hwk : IntKind.i64.wrap ((kk : Int) - 1) = (kk : Int) - 1 := IntWalk.i64_in _ (by omega)
          clear hk0
          by_cases q1 : x.ti < p.ti
          · have q1' : decide (x.ti < p.ti) = true := decide_eq_true q1
            have hv : Hid (OG = true) := Lib.hid (by rw [hor.out, hz2, q1']; rfl)
            go_quiet (fail)
            go_wp2
            go_meet
            exact ⟨by rw [hv.out], _, rfl⟩
          · have q1' : decide (x.ti < p.ti) = false := decide_eq_false q1
            cases q2 : (x.ti == p.ti)
            · have hv : Hid (OG = false) := Lib.hid (by rw [hor.out, hz2, q1', q2]; rfl)
              have q3 : ¬ x.ti = p.ti := by simpa using q2
              go_quiet (fail)
              go_wp2
              go_meet
              exact ⟨by rw [hv.out], _, rfl⟩
            · have hv : Hid (OG = (Op.bytesLess x.ke.toList p.ke.toList || x.ke.toList == p.ke.toList)) := Lib.hid (by rw [hor.out, hz2, q1', q2]; rfl)
              go_quiet (fail)
              go_wp2
              go_meet
              exact ⟨by rw [hv.out], _, rfl⟩
      obtain ⟨rfl, nq, rfl⟩ := hcut
      rw [HOG.out.symm] at hC2
      have HBn := Lib.hid (below_drewN HB0.out nq)
      rw [HOG.out.symm]
      clear hor HOG
      generalize hO : (ordG x p kk) = O at hC2 ⊢
      clear hO
      cases O
      case true =>
        have hv : Hid (8 = F) := Lib.hid (hS.out 8 (by rw [hC2.out]; rfl) (by decide))
        go_wp2
        go_ret
        exact ⟨ret_int hv.out, HBn.out⟩
      have hC3 : Hid (cgOf x p kk = 0) := Lib.hid (by rw [hC2.out]; rfl)
      clear hC2
      have hz : Hid (cgAt l kk = 0) := Lib.hid (by rw [hat.out, hC3.out])
      go_wp2
      go_roundg (l.length - (kk + 1))
      case measure => omega
      case rel =>
        refine ⟨kk + 1, by omega, by omega, by go_num, HBn.out, HKZ.out, (show Aside _ from fun j hj => ?_)⟩
        by_cases e : j = kk
        · rw [e, hz.out]
        · exact A.out j (by omega)
    · obtain rfl : kk = l.length := by omega
      have hltz : ¬ (l.length : Int) < (l.length : Int) := by omega
      have hz : Hid (0 = F) := Lib.hid (by rw [HF.out, FF_zero A.out])
      go_wp2
      go_ret
      exact ⟨ret_int hz.out, BW.out⟩
end Go.Proofs.YtmgbmoiefgfemaaDoor

/- The reference: checkGets; how a day begins in memory. -/
import Derived.Test.YtgohddfnhofjhaaGreatDoorK04
import Derived.Test.YtgohddfnhofjhaaGreatDoorK03
import Derived.Test.YtgohddfnhofjhaaGreatDoorK27
import Derived.Test.YtgohddfnhofjhaaGreatDoorK28
import Derived.Test.YtgohddfnhofjhaaGreatDoorK21
import Derived.Test.YtgohddfnhofjhaaGreatDoorK01
set_option maxRecDepth 100000
set_option maxHeartbeats 8000000
namespace Go.Proofs.YtgohddfnhofjhaaGreatDoor
open Go.RowKit
theorem vM (w : World) (l : List Rel) (v : Value) (hl : Sl w 4 zn v l) (hw : ∀ x, x ∈ l → WfL x) :
 Calls Tryz.prog 96 #[v] w fun e w' => e = .returned (.int .i64 (dP l)) ∧ Below w.heap.size w w' := by
 obtain ⟨ao, cap, rfl, hcap, hmax, hnil, hel⟩ := hl; unfold maxLen at hmax; by_cases hbig : 1000 < l.length
 ·have hv : Hid (2 = dP l) := Lr (by simp [dP, hbig]); have hbz : (1000 : Int) < (l.length : Int) := by omega
  clear hel
  go_enter Tryz.func96, Tryz.ntmps96
  go_wp2
  go_ret
  exact ⟨ah hv.out, LD _ _⟩
 have hbz : ¬ (1000 : Int) < (l.length : Int) := by omega
 have HF : Hid (dP l = FF (zT l) l.length) := Lr (by simp [dP, hbig]); generalize dP l = F at HF ⊢; have HW := Lr hw; have HEL := Lr hel; clear hw hel
 go_enter Tryz.func96, Tryz.ntmps96
 go_wp2
 go_loopg [3, 4, 10] l.length (fun gg s3 s4 s10 wr => ∃ kk : Nat, kk ≤ l.length ∧ l.length - kk ≤ gg ∧ s10 = .int .i64 kk ∧ Aside (Below w.heap.size w wr) ∧ Aside (∀ j, j < kk → zT l j = 0))
 case atStart => exact ⟨0, Nat.zero_le _, by omega, rfl, LD _ w, fun j hj => absurd hj (Nat.not_lt_zero _)⟩
 case round =>
  obtain ⟨kk, hkk, hg, rfl, BW, A⟩ := hrel; by_cases hlt : kk < l.length
  ·have hltz : (kk : Int) < (l.length : Int) := by omega
   obtain ⟨x, hx⟩ : ∃ x, l[kk]? = some x := ⟨l[kk], by simp [hlt]⟩
   obtain ⟨p, hp⟩ : ∃ x, l[kk - 1]? = some x := ⟨l[kk - 1]'(by omega), by simp⟩
   obtain ⟨b, off, hao, hc⟩ := HEL.out kk x hx; subst hao; obtain ⟨b', off', hao', hc'⟩ := HEL.out (kk - 1) p hp; simp only [Option.some.injEq, Addr.mk.injEq, and_true] at hao'
   obtain ⟨rfl, rfl⟩ := hao'; have hlt0 := LC w ⟨b, off + kk * 4 + 0, none⟩ (hc 0 _ rfl); have c0 : wr.cell? ⟨b, off + kk * 4, none⟩ = some (.string x.ke) := (BW.out.cell (p := ⟨b, off + kk * 4 + 0, none⟩) hlt0).trans (hc 0 _ rfl); have p0 : wr.cell? ⟨b, off + (kk - 1) * 4, none⟩ = some (.string p.ke) := (BW.out.cell (p := ⟨b, off + (kk - 1) * 4 + 0, none⟩) hlt0).trans (hc' 0 _ rfl); have c1 : wr.cell? ⟨b, off + kk * 4 + 1, none⟩ = some (.int .i64 x.ti) := (BW.out.cell (p := ⟨b, off + kk * 4 + 1, none⟩) hlt0).trans (hc 1 _ rfl); have p1 : wr.cell? ⟨b, off + (kk - 1) * 4 + 1, none⟩ = some (.int .i64 p.ti) := (BW.out.cell (p := ⟨b, off + (kk - 1) * 4 + 1, none⟩) hlt0).trans (hc' 1 _ rfl); have c2 : wr.cell? ⟨b, off + kk * 4 + 2, none⟩ = some (.int .i64 x.si) := (BW.out.cell (p := ⟨b, off + kk * 4 + 2, none⟩) hlt0).trans (hc 2 _ rfl); have p2 : wr.cell? ⟨b, off + (kk - 1) * 4 + 2, none⟩ = some (.int .i64 p.si) := (BW.out.cell (p := ⟨b, off + (kk - 1) * 4 + 2, none⟩) hlt0).trans (hc' 2 _ rfl); have c3 : wr.cell? ⟨b, off + kk * 4 + 3, none⟩ = some (.bool x.go) := (BW.out.cell (p := ⟨b, off + kk * 4 + 3, none⟩) hlt0).trans (hc 3 _ rfl); have p3 : wr.cell? ⟨b, off + (kk - 1) * 4 + 3, none⟩ = some (.bool p.go) := (BW.out.cell (p := ⟨b, off + (kk - 1) * 4 + 3, none⟩) hlt0).trans (hc' 3 _ rfl); have hbw : b < wr.heap.size := Nat.lt_of_lt_of_le hlt0 BW.out.size; have hsz : x.ke.size ≤ 9223372036854775807 := HW.out x (List.mem_of_getElem? hx); have hin := iU x.ke; have hszw := BW.out.size
   have hat : Hid (zT l kk = sD x p kk) := Lr (by rw [zT, bi hx, bi hp]); have hS : Hid (∀ z, sD x p kk = z → z ≠ 0 → z = F) := Lr (fun z h hz => by
    rw [HF.out, iM hlt A.out (by rw [hat.out, h]; exact hz), hat.out, h])
   have hC0 : Hid (sD x p kk = if (!dG x.ke) = true then 3 else if (aN x.ti 0 1000000000000) = true then 1 else if (x.go && x.si != 0) = true then 3 else if (!x.go && aN x.si 1 1000000000) = true then 1 else if (rY x p kk) = true then 8 else 0) := Lr rfl; clear hx hp hc hc'; have HB0 := Lr (BW.out.alloc hszw (.cells #[.string x.ke, .int .i64 x.ti, .int .i64 x.si, .bool x.go] 77))
   go_upto_region 6 with (fail)
   go_cut [15] (fun s w4 => s = .bool (!dG x.ke) ∧ w4 = (wr.alloc (.cells #[.string x.ke, .int .i64 x.ti, .int .i64 x.si, .bool x.go] 77)))
   case first =>
    go_wp2_with (go_at_call 97; refine (hin _ hsz).mono ?_; rintro e w' ⟨rfl, rfl⟩)
    go_meet
    exact ⟨by simp, rfl⟩
   obtain ⟨rfl, rfl⟩ := hcut; generalize hO : (!dG x.ke) = O at hC0 ⊢; clear hO; cases O
   case true =>
    have hv : Hid (3 = F) := Lr (hS.out 3 (by rw [hC0.out]; rfl) (by decide))
    go_wp2
    go_ret
    exact ⟨ah hv.out, HB0.out⟩
   have hC1 : Hid (sD x p kk = if (aN x.ti 0 1000000000000) = true then 1 else if (x.go && x.si != 0) = true then 3 else if (!x.go && aN x.si 1 1000000000) = true then 1 else if (rY x p kk) = true then 8 else 0) := Lr (by rw [hC0.out]; rfl); clear hC0
   go_upto_region 8 with (fail)
   go_cut [20] (fun s w4 => s = .bool (aN x.ti 0 1000000000000) ∧ w4 = (wr.alloc (.cells #[.string x.ke, .int .i64 x.ti, .int .i64 x.si, .bool x.go] 77)))
   case first =>
    cases o0 : aN x.ti 0 1000000000000
    all_goals
     go_wp2_with (go_at_call 44; refine (bC _ _ _ _).mono ?_; rintro e w' ⟨rfl, rfl⟩)
     go_meet
     exact ⟨by simp [*], rfl⟩
   obtain ⟨rfl, rfl⟩ := hcut; generalize hO : (aN x.ti 0 1000000000000) = O at hC1 ⊢; clear hO; cases O
   case true =>
    have hv : Hid (1 = F) := Lr (hS.out 1 (by rw [hC1.out]; rfl) (by decide))
    go_wp2
    go_ret
    exact ⟨ah hv.out, HB0.out⟩
   have hC2 : Hid (sD x p kk = if (x.go && x.si != 0) = true then 3 else if (!x.go && aN x.si 1 1000000000) = true then 1 else if (rY x p kk) = true then 8 else 0) := Lr (by rw [hC1.out]; rfl); clear hC1
   go_upto_region 10 with (fail)
   go_cut [25] (fun s w4 => s = .bool (x.go && x.si != 0) ∧ w4 = (wr.alloc (.cells #[.string x.ke, .int .i64 x.ti, .int .i64 x.si, .bool x.go] 77)))
   case first =>
    cases g0 : x.go
    all_goals
     rw [g0] at c3; cases o0 : (x.si != 0)
     all_goals
      go_wp2_with (go_at_call 44; refine (bC _ _ _ _).mono ?_; rintro e w' ⟨rfl, rfl⟩)
      go_meet
      exact ⟨by first | (simp [*]; done) | (rw [g0]; simp [*]), by rw [g0]⟩
   obtain ⟨rfl, rfl⟩ := hcut; generalize hO : (x.go && x.si != 0) = O at hC2 ⊢; clear hO; cases O
   case true =>
    have hv : Hid (3 = F) := Lr (hS.out 3 (by rw [hC2.out]; rfl) (by decide))
    go_wp2
    go_ret
    exact ⟨ah hv.out, HB0.out⟩
   have hC3 : Hid (sD x p kk = if (!x.go && aN x.si 1 1000000000) = true then 1 else if (rY x p kk) = true then 8 else 0) := Lr (by rw [hC2.out]; rfl); clear hC2
   go_upto_region 12 with (fail)
   go_cut [33] (fun s w4 => s = .bool (!x.go && aN x.si 1 1000000000) ∧ w4 = (wr.alloc (.cells #[.string x.ke, .int .i64 x.ti, .int .i64 x.si, .bool x.go] 77)))
   case first =>
    cases g0 : x.go
    all_goals
     rw [g0] at c3; cases o0 : (aN x.si 1 1000000000)
     all_goals
      go_wp2_with (go_at_call 44; refine (bC _ _ _ _).mono ?_; rintro e w' ⟨rfl, rfl⟩)
      go_meet
      exact ⟨by first | (simp [*]; done) | (rw [g0]; simp [*]), by rw [g0]⟩
   obtain ⟨rfl, rfl⟩ := hcut; generalize hO : (!x.go && aN x.si 1 1000000000) = O at hC3 ⊢; clear hO; cases O
   case true =>
    have hv : Hid (1 = F) := Lr (hS.out 1 (by rw [hC3.out]; rfl) (by decide))
    go_wp2
    go_ret
    exact ⟨ah hv.out, HB0.out⟩
   have hC4 : Hid (sD x p kk = if (rY x p kk) = true then 8 else 0) := Lr (by rw [hC3.out]; rfl); clear hC3
   go_upto_region 14 with (fail)
   have hor : Hid ((rY x p kk) = (decide (0 < kk) && (Op.bytesLess x.ke.toList p.ke.toList || ((x.ke.toList == p.ke.toList) && decide (x.ti ≤ p.ti))))) := Lr rfl; generalize hOG : (rY x p kk) = OG at hor hC4 ⊢; have HOG := Lr hOG; clear hOG
   go_cut [43] (fun s w4 => s = .bool OG ∧ ∃ n, w4 = (wr.alloc (.cells #[.string x.ke, .int .i64 x.ti, .int .i64 x.si, .bool x.go] 77)).drewN n)
   case first =>
    by_cases hk0 : kk = 0
    ·have hz : decide ((0 : Int) < (kk : Int)) = false := decide_eq_false (by omega); have hz' : ¬ (0 : Int) < (kk : Int) := by omega
     have hz2 : decide (0 < kk) = false := decide_eq_false (by omega); have hv : Hid (OG = false) := Lr (by rw [hor.out, hz2]; rfl); clear hk0
     go_quiet (fail)
     go_wp2
     go_meet
     exact ⟨by rw [hv.out], _, rfl⟩
    ·have hz : decide ((0 : Int) < (kk : Int)) = true := decide_eq_true (by omega); have hz2 : decide (0 < kk) = true := decide_eq_true (by omega); have ez2 : ((kk : Int) - 1).toNat = kk - 1 := by omega
     have hm1 : (kk : Int) - 1 < (l.length : Int) := by omega
     have hm2 : (0 : Int) ≤ (kk : Int) - 1 := by omega
     have hm3 : (1 : Int) ≤ (kk : Int) := by omega
     have hm4 : 0 < kk := by omega
     have hwk : IntKind.i64.wrap ((kk : Int) - 1) = (kk : Int) - 1 := IntWalk.i64_in _ (by omega); clear hk0; cases q1 : Op.bytesLess x.ke.toList p.ke.toList
     ·cases q2 : (x.ke.toList == p.ke.toList)
      ·have hv : Hid (OG = false) := Lr (by rw [hor.out, hz2, q1, q2]; rfl)
       go_quiet (fail)
       go_wp2
       go_meet
       exact ⟨by rw [hv.out], _, rfl⟩
      ·have hv : Hid (OG = decide (x.ti ≤ p.ti)) := Lr (by rw [hor.out, hz2, q1, q2]; rfl)
       go_quiet (fail)
       go_wp2
       go_meet
       exact ⟨by rw [hv.out], _, rfl⟩
     ·have hv : Hid (OG = true) := Lr (by rw [hor.out, hz2, q1]; rfl)
      go_quiet (fail)
      go_wp2
      go_meet
      exact ⟨by rw [hv.out], _, rfl⟩
   obtain ⟨rfl, nq, rfl⟩ := hcut; rw [HOG.out.symm] at hC4; have HBn := Lr (below_drewN HB0.out nq); rw [HOG.out.symm]; clear hor HOG; generalize hO : (rY x p kk) = O at hC4 ⊢; clear hO; cases O
   case true =>
    have hv : Hid (8 = F) := Lr (hS.out 8 (by rw [hC4.out]; rfl) (by decide))
    go_wp2
    go_ret
    exact ⟨ah hv.out, HBn.out⟩
   have hC5 : Hid (sD x p kk = 0) := Lr (by rw [hC4.out]; rfl); clear hC4; have hz : Hid (zT l kk = 0) := Lr (by rw [hat.out, hC5.out])
   go_wp2
   go_roundg (l.length - (kk + 1))
   case measure => omega
   case rel =>
    refine ⟨kk + 1, by omega, by omega, by go_num, HBn.out, (show Aside _ from fun j hj => ?_)⟩; by_cases e : j = kk
    ·rw [e, hz.out]
    ·exact A.out j (by omega)
  ·obtain rfl : kk = l.length := by omega
   have hltz : ¬ (l.length : Int) < (l.length : Int) := by omega
   have hz : Hid (0 = F) := Lr (by rw [HF.out, eF A.out])
   go_wp2
   go_ret
   exact ⟨ah hz.out, BW.out⟩
theorem vN (w : World) (c : List Cch) (r : List Crl) (e : List Rel) (l : List Pur) (vc vr ve vp : Value) (hc : Sl w 4 su vc c) (hr : Sl w 4 xU vr r) (he : Sl w 4 zn ve e) (hl : Sl w 2 xW vp l) (hwc : ∀ x, x ∈ c → WfC x) (hwr : ∀ x, x ∈ r → WfU x) (hwe : ∀ x, x ∈ e → WfL x) (hw : ∀ x, x ∈ l → WfG x) :
 Calls Tryz.prog 62 #[.agg #[vc, vr, ve, vp]] w fun e' w' => e' = .returned (.int .i64 (eU c r e l)) ∧ Below w.heap.size w w' := by
 have H1 := Lr (fun (W : World) (h : Below w.heap.size w W) => vO W c vc (hc.below h (Ls _)) hwc); have H2 := Lr (fun (W : World) (h : Below w.heap.size w W) => vK W r vr (hr.below h (Ls _)) hwr); have H3 := Lr (fun (W : World) (h : Below w.heap.size w W) => vM W e ve (he.below h (Ls _)) hwe); obtain ⟨ao, cap, rfl, hcap, hmax, hnil, hel⟩ := hl; obtain ⟨co, cp, rfl, _⟩ := hc; obtain ⟨ro, rp, rfl, _⟩ := hr; obtain ⟨eo, ep, rfl, _⟩ := he; unfold maxLen at hmax; obtain ⟨vc, hvc⟩ : ∃ v, v = Value.slice co c.length cp := ⟨_, rfl⟩
 obtain ⟨vr, hvr⟩ : ∃ v, v = Value.slice ro r.length rp := ⟨_, rfl⟩
 obtain ⟨ve, hve⟩ : ∃ v, v = Value.slice eo e.length ep := ⟨_, rfl⟩
 rw [← hvc] at H1 ⊢; rw [← hvr] at H2 ⊢; rw [← hve] at H3 ⊢; have HVC := Lr hvc; have HVR := Lr hvr; have HVE := Lr hve; have HEL := Lr hel; have HW := Lr hw; obtain ⟨CC, hCC⟩ : ∃ x, x = bZ c := ⟨_, rfl⟩
 obtain ⟨CU, hCU⟩ : ∃ x, x = dO r := ⟨_, rfl⟩
 obtain ⟨CL, hCL⟩ : ∃ x, x = dP e := ⟨_, rfl⟩
 have HD : Hid (eU c r e l = if CC ≠ 0 then CC else if CU ≠ 0 then CU else if CL ≠ 0 then CL else gm l) := Lr (by rw [hCC, hCU, hCL]; rfl); rw [← hCC] at H1; rw [← hCU] at H2; rw [← hCL] at H3; obtain ⟨D, hD⟩ : ∃ x, x = eU c r e l := ⟨_, rfl⟩
 rw [← hD] at HD ⊢; clear hel hw hCC hCU hCL hD hvc hvr hve hwc hwr hwe; obtain ⟨w5, hw5⟩ : ∃ w5, w5 = w.alloc (.cells #[vc, vr, ve, .slice ao l.length cap] 27) := ⟨_, rfl⟩
 have hb5 : Below w.heap.size w w5 := by rw [hw5]; exact (LD _ _).alloc (Ls _) _
 have hd5 : w5.heap[w.heap.size]? = some (.cells #[vc, vr, ve, .slice ao l.length cap] 27 (0, 0)) := by rw [hw5]; exact ag w _
 have HW5 := Lr hw5; have HB5 := Lr hb5; have HD5 := Lr hd5; have hg5 : w.heap.size < w5.heap.size := by rw [hw5]; simp
 clear hw5 hb5 hd5
 go_enter Tryz.func62, Tryz.ntmps62
 go_upto_region 1 with (fail)
 rw [← HW5.out]; obtain ⟨g, hgq⟩ : ∃ g, g = w.heap.size := ⟨_, rfl⟩
 have HGQ := Lr hgq; have d0 : w5.cell? ⟨g, 0, none⟩ = some vc := by rw [hgq]; exact (cell_of_block (i := 0) HD5.out).trans rfl
 have d1 : w5.cell? ⟨g, 1, none⟩ = some vr := by rw [hgq]; exact (cell_of_block (i := 1) HD5.out).trans rfl
 have d2 : w5.cell? ⟨g, 2, none⟩ = some ve := by rw [hgq]; exact (cell_of_block (i := 2) HD5.out).trans rfl
 have d3 : w5.cell? ⟨g, 3, none⟩ = some (.slice ao l.length cap) := by rw [hgq]; exact (cell_of_block (i := 3) HD5.out).trans rfl
 rw [← hgq] at hg5 ⊢; clear hgq HW5 HD5; have k0 := d0; have k1 := d1; have k2 := d2; have k3 := d3; have hgk := hg5; clear d0 d1 d2 d3 hg5
 go_wp2_with fail
 refine (H1.out _ HB5.out).mono ?_; rintro e' w6 ⟨rfl, hb⟩; have HB6 := Lr (HB5.out.trans (hb.mono HB5.out.size)); have k0 := (hb.cell (p := ⟨g, 0, none⟩) hgk).trans k0; have k1 := (hb.cell (p := ⟨g, 1, none⟩) hgk).trans k1; have k2 := (hb.cell (p := ⟨g, 2, none⟩) hgk).trans k2; have k3 := (hb.cell (p := ⟨g, 3, none⟩) hgk).trans k3; have hgk : g < w6.heap.size := Nat.lt_of_lt_of_le hgk hb.size; clear hb; by_cases hQ0 : CC = 0
 case neg =>
  have hv : Hid (CC = D) := Lr (by rw [HD.out, if_pos hQ0])
  go_wp2_with fail
  go_ret
  exact ⟨ah hv.out, HB6.out⟩
 subst hQ0; have HD : Hid (D = if CU ≠ 0 then CU else if CL ≠ 0 then CL else gm l) := Lr (by rw [HD.out]; simp)
 go_wp2_with fail
 refine (H2.out _ HB6.out).mono ?_; rintro e' w7 ⟨rfl, hb⟩; have HB7 := Lr (HB6.out.trans (hb.mono HB6.out.size)); have k0 := (hb.cell (p := ⟨g, 0, none⟩) hgk).trans k0; have k1 := (hb.cell (p := ⟨g, 1, none⟩) hgk).trans k1; have k2 := (hb.cell (p := ⟨g, 2, none⟩) hgk).trans k2; have k3 := (hb.cell (p := ⟨g, 3, none⟩) hgk).trans k3; have hgk : g < w7.heap.size := Nat.lt_of_lt_of_le hgk hb.size; clear hb; by_cases hQ1 : CU = 0
 case neg =>
  have hv : Hid (CU = D) := Lr (by rw [HD.out, if_pos hQ1])
  go_wp2_with fail
  go_ret
  exact ⟨ah hv.out, HB7.out⟩
 subst hQ1; have HD : Hid (D = if CL ≠ 0 then CL else gm l) := Lr (by rw [HD.out]; simp)
 go_wp2_with fail
 refine (H3.out _ HB7.out).mono ?_; rintro e' w8 ⟨rfl, hb⟩; have HB8 := Lr (HB7.out.trans (hb.mono HB7.out.size)); have k0 := (hb.cell (p := ⟨g, 0, none⟩) hgk).trans k0; have k1 := (hb.cell (p := ⟨g, 1, none⟩) hgk).trans k1; have k2 := (hb.cell (p := ⟨g, 2, none⟩) hgk).trans k2; have k3 := (hb.cell (p := ⟨g, 3, none⟩) hgk).trans k3; have hgk : g < w8.heap.size := Nat.lt_of_lt_of_le hgk hb.size; clear hb; by_cases hQ2 : CL = 0
 case neg =>
  have hv : Hid (CL = D) := Lr (by rw [HD.out, if_pos hQ2])
  go_wp2_with fail
  go_ret
  exact ⟨ah hv.out, HB8.out⟩
 subst hQ2; have HD : Hid (D = gm l) := Lr (by rw [HD.out]; simp); have e3 := k3; have hg6 := hgk; have HDG := Lr HD.out; obtain ⟨w6, rfl⟩ : ∃ w6, w6 = w8 := ⟨w8, rfl⟩
 have HB6 := Lr HB8.out; clear k0 k1 k2 k3 hgk; by_cases hbig : 200 < l.length
 ·have hv : Hid (2 = D) := Lr (by rw [HDG.out]; simp [gm, hbig]); have hbz : (200 : Int) < (l.length : Int) := by omega
  go_wp2_with fail
  go_ret
  exact ⟨ah hv.out, HB6.out⟩
 have hbz : ¬ (200 : Int) < (l.length : Int) := by omega
 have HF : Hid (D = FF (zU l) l.length) := Lr (by rw [HDG.out]; simp [gm, hbig]); clear hbig; obtain ⟨F, rfl⟩ : ∃ F, F = D := ⟨D, rfl⟩
 go_wp2_with fail
 go_loopg [33] l.length (fun gg s33 wr => ∃ kk : Nat, kk ≤ l.length ∧ l.length - kk ≤ gg ∧ s33 = .int .i64 kk ∧ Aside (Below w.heap.size w wr) ∧ Aside (wr.cell? ⟨g, 3, none⟩ = some (.slice ao l.length cap)) ∧ Aside (∀ j, j < kk → zU l j = 0))
 case atStart => exact ⟨0, Nat.zero_le _, by omega, rfl, HB6.out, e3, fun j hj => absurd hj (Nat.not_lt_zero _)⟩
 case round =>
  obtain ⟨kk, hkk, hg, rfl, BW, K3, A⟩ := hrel; have k3 := K3.out; have HK3 := Lr K3.out; have hgr := LC wr _ k3; clear e3 hg6 K3; by_cases hlt : kk < l.length
  ·have hltz : (kk : Int) < (l.length : Int) := by omega
   obtain ⟨x, hx⟩ : ∃ x, l[kk]? = some x := ⟨l[kk], by simp [hlt]⟩
   obtain ⟨p, hp⟩ : ∃ x, l[kk - 1]? = some x := ⟨l[kk - 1]'(by omega), by simp⟩
   obtain ⟨b, off, hao, hc⟩ := HEL.out kk x hx; subst hao; obtain ⟨b', off', hao', hc'⟩ := HEL.out (kk - 1) p hp; simp only [Option.some.injEq, Addr.mk.injEq, and_true] at hao'
   obtain ⟨rfl, rfl⟩ := hao'; have hlt0 := LC w ⟨b, off + kk * 2 + 0, none⟩ (hc 0 _ rfl); have c0 : wr.cell? ⟨b, off + kk * 2, none⟩ = some (.int .i64 x.ti) := (BW.out.cell (p := ⟨b, off + kk * 2 + 0, none⟩) hlt0).trans (hc 0 _ rfl); have p0 : wr.cell? ⟨b, off + (kk - 1) * 2, none⟩ = some (.int .i64 p.ti) := (BW.out.cell (p := ⟨b, off + (kk - 1) * 2 + 0, none⟩) hlt0).trans (hc' 0 _ rfl); have c1 : wr.cell? ⟨b, off + kk * 2 + 1, none⟩ = some (.string x.ke) := (BW.out.cell (p := ⟨b, off + kk * 2 + 1, none⟩) hlt0).trans (hc 1 _ rfl); have p1 : wr.cell? ⟨b, off + (kk - 1) * 2 + 1, none⟩ = some (.string p.ke) := (BW.out.cell (p := ⟨b, off + (kk - 1) * 2 + 1, none⟩) hlt0).trans (hc' 1 _ rfl); have hbw : b < wr.heap.size := Nat.lt_of_lt_of_le hlt0 BW.out.size; have hsz : x.ke.size ≤ 9223372036854775807 := HW.out x (List.mem_of_getElem? hx); have hin := iU x.ke; have hszw := BW.out.size; have hat : Hid (zU l kk = yg x p kk) := Lr (by rw [zU, bi hx, bi hp]); have hS : Hid (∀ z, yg x p kk = z → z ≠ 0 → z = F) := Lr (fun z h hz => by
    rw [HF.out, iM hlt A.out (by rw [hat.out, h]; exact hz), hat.out, h])
   have hC0 : Hid (yg x p kk = if (aN x.ti 0 1000000000000) = true then 1 else if (!dG x.ke) = true then 3 else if (uO x p kk) = true then 8 else 0) := Lr rfl; clear hx hp hc hc'; have HB0 := Lr (BW.out.alloc hszw (.cells #[.int .i64 x.ti, .string x.ke] 74)); have HKZ := Lr ((((LD wr.heap.size wr).alloc (Ls _) (.cells #[.int .i64 x.ti, .string x.ke] 74)).cell (p := ⟨g, 3, none⟩) hgr).trans HK3.out)
   go_upto_region 15 with (fail)
   go_cut [38] (fun s w4 => s = .bool (aN x.ti 0 1000000000000) ∧ w4 = (wr.alloc (.cells #[.int .i64 x.ti, .string x.ke] 74)))
   case first =>
    cases o0 : aN x.ti 0 1000000000000
    all_goals
     go_wp2_with (go_at_call 44; refine (bC _ _ _ _).mono ?_; rintro e w' ⟨rfl, rfl⟩)
     go_meet
     exact ⟨by simp [*], rfl⟩
   obtain ⟨rfl, rfl⟩ := hcut; generalize hO : (aN x.ti 0 1000000000000) = O at hC0 ⊢; clear hO; cases O
   case true =>
    have hv : Hid (1 = F) := Lr (hS.out 1 (by rw [hC0.out]; rfl) (by decide))
    go_wp2
    go_ret
    exact ⟨ah hv.out, HB0.out⟩
   have hC1 : Hid (yg x p kk = if (!dG x.ke) = true then 3 else if (uO x p kk) = true then 8 else 0) := Lr (by rw [hC0.out]; rfl); clear hC0
   go_upto_region 17 with (fail)
   go_cut [43] (fun s w4 => s = .bool (!dG x.ke) ∧ w4 = (wr.alloc (.cells #[.int .i64 x.ti, .string x.ke] 74)))
   case first =>
    go_wp2_with (go_at_call 97; refine (hin _ hsz).mono ?_; rintro e w' ⟨rfl, rfl⟩)
    go_meet
    exact ⟨by simp, rfl⟩
   obtain ⟨rfl, rfl⟩ := hcut; generalize hO : (!dG x.ke) = O at hC1 ⊢; clear hO; cases O
   case true =>
    have hv : Hid (3 = F) := Lr (hS.out 3 (by rw [hC1.out]; rfl) (by decide))
    go_wp2
    go_ret
    exact ⟨ah hv.out, HB0.out⟩
   have hC2 : Hid (yg x p kk = if (uO x p kk) = true then 8 else 0) := Lr (by rw [hC1.out]; rfl); clear hC1
   go_upto_region 19 with (fail)
   have hor : Hid ((uO x p kk) = (decide (0 < kk) && (decide (x.ti < p.ti) || (x.ti == p.ti && (Op.bytesLess x.ke.toList p.ke.toList || x.ke.toList == p.ke.toList))))) := Lr rfl; generalize hOG : (uO x p kk) = OG at hor hC2 ⊢; have HOG := Lr hOG; clear hOG
   go_cut [48] (fun s w4 => s = .bool OG ∧ ∃ n, w4 = (wr.alloc (.cells #[.int .i64 x.ti, .string x.ke] 74)).drewN n)
   case first =>
    by_cases hk0 : kk = 0
    ·have hz : decide ((0 : Int) < (kk : Int)) = false := decide_eq_false (by omega); have hz' : ¬ (0 : Int) < (kk : Int) := by omega
     have hz2 : decide (0 < kk) = false := decide_eq_false (by omega); have hv : Hid (OG = false) := Lr (by rw [hor.out, hz2]; rfl); clear hk0
     go_quiet (fail)
     go_wp2
     go_meet
     exact ⟨by rw [hv.out], _, rfl⟩
    ·have hz : decide ((0 : Int) < (kk : Int)) = true := decide_eq_true (by omega); have hz2 : decide (0 < kk) = true := decide_eq_true (by omega); have ez2 : ((kk : Int) - 1).toNat = kk - 1 := by omega
     have hm1 : (kk : Int) - 1 < (l.length : Int) := by omega
     have hm2 : (0 : Int) ≤ (kk : Int) - 1 := by omega
     have hm3 : (1 : Int) ≤ (kk : Int) := by omega
     have hm4 : 0 < kk := by omega
     have hwk : IntKind.i64.wrap ((kk : Int) - 1) = (kk : Int) - 1 := IntWalk.i64_in _ (by omega); clear hk0; by_cases q1 : x.ti < p.ti
     ·have q1' : decide (x.ti < p.ti) = true := decide_eq_true q1; have hv : Hid (OG = true) := Lr (by rw [hor.out, hz2, q1']; rfl)
      go_quiet (fail)
      go_wp2
      go_meet
      exact ⟨by rw [hv.out], _, rfl⟩
     ·have q1' : decide (x.ti < p.ti) = false := decide_eq_false q1; cases q2 : (x.ti == p.ti)
      ·have hv : Hid (OG = false) := Lr (by rw [hor.out, hz2, q1', q2]; rfl); have q3 : ¬ x.ti = p.ti := by simpa using q2
       go_quiet (fail)
       go_wp2
       go_meet
       exact ⟨by rw [hv.out], _, rfl⟩
      ·have hv : Hid (OG = (Op.bytesLess x.ke.toList p.ke.toList || x.ke.toList == p.ke.toList)) := Lr (by rw [hor.out, hz2, q1', q2]; rfl)
       go_quiet (fail)
       go_wp2
       go_meet
       exact ⟨by rw [hv.out], _, rfl⟩
   obtain ⟨rfl, nq, rfl⟩ := hcut; rw [HOG.out.symm] at hC2; have HBn := Lr (below_drewN HB0.out nq); rw [HOG.out.symm]; clear hor HOG; generalize hO : (uO x p kk) = O at hC2 ⊢; clear hO; cases O
   case true =>
    have hv : Hid (8 = F) := Lr (hS.out 8 (by rw [hC2.out]; rfl) (by decide))
    go_wp2
    go_ret
    exact ⟨ah hv.out, HBn.out⟩
   have hC3 : Hid (yg x p kk = 0) := Lr (by rw [hC2.out]; rfl); clear hC2; have hz : Hid (zU l kk = 0) := Lr (by rw [hat.out, hC3.out])
   go_wp2
   go_roundg (l.length - (kk + 1))
   case measure => omega
   case rel =>
    refine ⟨kk + 1, by omega, by omega, by go_num, HBn.out, HKZ.out, (show Aside _ from fun j hj => ?_)⟩; by_cases e : j = kk
    ·rw [e, hz.out]
    ·exact A.out j (by omega)
  ·obtain rfl : kk = l.length := by omega
   have hltz : ¬ (l.length : Int) < (l.length : Int) := by omega
   have hz : Hid (0 = F) := Lr (by rw [HF.out, eF A.out])
   go_wp2
   go_ret
   exact ⟨ah hz.out, BW.out⟩
theorem uy (wr : World) (l : List Gt) (v : Value) (kk : Nat) (b : Bool) (x p : Gt) (hl : Sl wr 3 F5 v l) (hw : ∀ y, y ∈ l → WfT y) (hx : l[kk]? = some x) (hp : l[kk - 1]? = some p) :
 Calls Tryz.prog 63 #[v, .int .i64 kk, .bool b] wr fun e w' => e = .returned (.int .i64 (oL x p kk b)) ∧ Below wr.heap.size wr w' := by
 obtain ⟨ao, cap, rfl, hcap, hmax, hnil, hel⟩ := hl; unfold maxLen at hmax; obtain ⟨F, hF⟩ : ∃ F, F = oL x p kk b := ⟨_, rfl⟩
 rw [← hF]; have hS : Hid (∀ z, oL x p kk b = z → z ≠ 0 → z = F) := Lr (fun z h _ => by rw [hF, h]); have HF := Lr hF; clear hF; have hlt : kk < l.length := (List.getElem?_eq_some_iff.1 hx).1; have hltz : (kk : Int) < (l.length : Int) := by omega
 obtain ⟨c, off, hao, hc⟩ := hel kk x hx; subst hao; obtain ⟨c', off', hao', hc'⟩ := hel (kk - 1) p hp; simp only [Option.some.injEq, Addr.mk.injEq, and_true] at hao'
 obtain ⟨rfl, rfl⟩ := hao'; have hlt0 := LC wr ⟨c, off + kk * 3 + 0, none⟩ (hc 0 _ rfl); have c0 : wr.cell? ⟨c, off + kk * 3, none⟩ = some (.int .i64 x.ti) := hc 0 _ rfl; have c1 : wr.cell? ⟨c, off + kk * 3 + 1, none⟩ = some (.string x.ca) := hc 1 _ rfl; have c2 : wr.cell? ⟨c, off + kk * 3 + 2, none⟩ = some (.string x.ke) := hc 2 _ rfl; have p0 : wr.cell? ⟨c, off + (kk - 1) * 3, none⟩ = some (.int .i64 p.ti) := hc' 0 _ rfl; have hsz := (hw x (List.mem_of_getElem? hx)).2; have hin := iU x.ke; have hC0 : Hid (oL x p kk b = if (aN x.ti 0 1000000000000) = true then 1 else if (!b) = true then 5 else if (!dG x.ke) = true then 3 else if (tK x p kk) = true then 8 else 0) := Lr rfl; have HB0 := Lr ((LD wr.heap.size wr).alloc (Ls _) (.cells #[.int .i64 x.ti, .string x.ca, .string x.ke] 37)); clear hel hc hc' hx hp hw
 go_enter Tryz.func63, Tryz.ntmps63
 go_upto_region 2 with (fail)
 go_cut [12] (fun s w4 => s = .bool (aN x.ti 0 1000000000000) ∧ w4 = (wr.alloc (.cells #[.int .i64 x.ti, .string x.ca, .string x.ke] 37)))
 case first =>
  cases o0 : aN x.ti 0 1000000000000
  all_goals
   go_wp2_with (go_at_call 44; refine (bC _ _ _ _).mono ?_; rintro e w' ⟨rfl, rfl⟩)
   go_meet
   exact ⟨by simp [*], rfl⟩
 obtain ⟨rfl, rfl⟩ := hcut; generalize hO : (aN x.ti 0 1000000000000) = O at hC0 ⊢; clear hO; cases O
 case true =>
  have hv : Hid (1 = F) := Lr (hS.out 1 (by rw [hC0.out]; rfl) (by decide))
  go_wp2
  go_ret
  exact ⟨ah hv.out, HB0.out⟩
 have hC1 : Hid (oL x p kk b = if (!b) = true then 5 else if (!dG x.ke) = true then 3 else if (tK x p kk) = true then 8 else 0) := Lr (by rw [hC0.out]; rfl); clear hC0
 go_upto_region 4 with (fail)
 go_cut [17] (fun s w4 => s = .bool (!b) ∧ w4 = (wr.alloc (.cells #[.int .i64 x.ti, .string x.ca, .string x.ke] 37)))
 case first =>
  go_wp2
  go_meet
  exact ⟨by simp, rfl⟩
 obtain ⟨rfl, rfl⟩ := hcut; generalize hO : (!b) = O at hC1 ⊢; clear hO; cases O
 case true =>
  have hv : Hid (5 = F) := Lr (hS.out 5 (by rw [hC1.out]; rfl) (by decide))
  go_wp2
  go_ret
  exact ⟨ah hv.out, HB0.out⟩
 have hC2 : Hid (oL x p kk b = if (!dG x.ke) = true then 3 else if (tK x p kk) = true then 8 else 0) := Lr (by rw [hC1.out]; rfl); clear hC1
 go_upto_region 6 with (fail)
 go_cut [20] (fun s w4 => s = .bool (!dG x.ke) ∧ w4 = (wr.alloc (.cells #[.int .i64 x.ti, .string x.ca, .string x.ke] 37)))
 case first =>
  go_wp2_with (go_at_call 97; refine (hin _ hsz).mono ?_; rintro e w' ⟨rfl, rfl⟩)
  go_meet
  exact ⟨by simp, rfl⟩
 obtain ⟨rfl, rfl⟩ := hcut; generalize hO : (!dG x.ke) = O at hC2 ⊢; clear hO; cases O
 case true =>
  have hv : Hid (3 = F) := Lr (hS.out 3 (by rw [hC2.out]; rfl) (by decide))
  go_wp2
  go_ret
  exact ⟨ah hv.out, HB0.out⟩
 have hC3 : Hid (oL x p kk b = if (tK x p kk) = true then 8 else 0) := Lr (by rw [hC2.out]; rfl); clear hC2
 go_upto_region 8 with (fail)
 have hor : Hid ((tK x p kk) = (decide (0 < kk) && decide (x.ti < p.ti))) := Lr rfl; generalize hOG : (tK x p kk) = OG at hor hC3 ⊢; have HOG := Lr hOG; clear hOG
 go_cut [25] (fun s w4 => s = .bool OG ∧ ∃ n, w4 = (wr.alloc (.cells #[.int .i64 x.ti, .string x.ca, .string x.ke] 37)).drewN n)
 case first =>
  by_cases hk0 : kk = 0
  ·have hz : decide ((0 : Int) < (kk : Int)) = false := decide_eq_false (by omega); have hz' : ¬ (0 : Int) < (kk : Int) := by omega
   have hz2 : decide (0 < kk) = false := decide_eq_false (by omega); have hv : Hid (OG = false) := Lr (by rw [hor.out, hz2]; rfl); clear hk0
   go_quiet (fail)
   go_wp2
   go_meet
   exact ⟨by rw [hv.out], _, rfl⟩
  ·have hz : decide ((0 : Int) < (kk : Int)) = true := decide_eq_true (by omega); have hz2 : decide (0 < kk) = true := decide_eq_true (by omega); have ez2 : ((kk : Int) - 1).toNat = kk - 1 := by omega
   have hm1 : (kk : Int) - 1 < (l.length : Int) := by omega
   have hm2 : (0 : Int) ≤ (kk : Int) - 1 := by omega
   have hm3 : (1 : Int) ≤ (kk : Int) := by omega
   have hm4 : 0 < kk := by omega
   have hwk : IntKind.i64.wrap ((kk : Int) - 1) = (kk : Int) - 1 := IntWalk.i64_in _ (by omega); clear hk0; have hv : Hid (OG = (decide (x.ti < p.ti))) := Lr (by rw [hor.out, hz2]; rfl)
   go_quiet (fail)
   go_wp2
   go_meet
   exact ⟨by rw [hv.out], _, rfl⟩
 obtain ⟨rfl, nq, rfl⟩ := hcut; rw [HOG.out.symm] at hC3; have HBn := Lr (below_drewN HB0.out nq); rw [HOG.out.symm]; clear hor HOG; generalize hO : (tK x p kk) = O at hC3 ⊢; clear hO; cases O
 case true =>
  have hv : Hid (8 = F) := Lr (hS.out 8 (by rw [hC3.out]; rfl) (by decide))
  go_wp2
  go_ret
  exact ⟨ah hv.out, HBn.out⟩
 have hC4 : Hid (oL x p kk b = 0) := Lr (by rw [hC3.out]; rfl); clear hC3; have hz : Hid (0 = F) := Lr (by rw [HF.out, hC4.out])
 go_wp2
 go_ret
 exact ⟨ah hz.out, HBn.out⟩
theorem pz (w : World) (C : List Cch) (R : List Crl) (E : List Rel) (P : List Pur) (L : List Gt) (vc vr ve vp vl : Value) (h : InS w C R E P L vc vr ve vp vl) (hw : WfS C R E P L) :
 Calls Tryz.prog 35 #[.agg #[vc, vr, ve, vp], vl] w fun e w' => e = .returned (.int .i64 (bY C R E P L)) ∧ Below w.heap.size w w' := by
 obtain ⟨w2, hw2⟩ : ∃ w2, w2 = w.alloc (.cells #[vc, vr, ve, vp] 27) := ⟨_, rfl⟩
 have hb2 : Below w.heap.size w w2 := by rw [hw2]; exact (LD _ w).alloc (Ls _) _
 have hnb : w2.heap[w.heap.size]? = some (.cells #[vc, vr, ve, vp] 27 (0, 0)) := by rw [hw2]; exact ag w _
 have hnl := (Array.getElem?_eq_some_iff.1 hnb).1; have h2 := h.below hb2; have HCD := Lr (vN w2 C R E P vc vr ve vp h2.c h2.r h2.e h2.p hw.c hw.r hw.e hw.p); obtain ⟨D, hD⟩ : ∃ D, D = eU C R E P := ⟨_, rfl⟩
 rw [← hD] at HCD; have HS : Hid (bY C R E P L = if D ≠ 0 then D else checkN C L) := Lr (by rw [hD]; rfl); generalize bY C R E P L = S at HS ⊢; have HQ : Hid (∀ W : World, Below w2.heap.size w2 W → W.cell? ⟨w.heap.size, 0, none⟩ = some vc ∧ W.cell? ⟨w.heap.size, 1, none⟩ = some vr ∧ W.cell? ⟨w.heap.size, 2, none⟩ = some ve ∧ W.cell? ⟨w.heap.size, 3, none⟩ = some vp) := Lr fun W hW => by
  have h1 := (hW.block _ hnl).trans hnb; exact ⟨af h1 0 rfl, af h1 1 rfl, af h1 2 rfl, af h1 3 rfl⟩
 have HCO : Hid (∀ (W : World) (n : ByteArray), Below w2.heap.size w2 W → Calls Tryz.prog 43 #[vc, .string n] W fun e w' => e = .returned (.int .i64 (Dq C n)) ∧ Below W.heap.size W w') := Lr fun W n hW => fP W C vc n (h2.c.below hW (Ls _))
 have hll := h2.l; obtain ⟨lo, lc, rfl, hlcap, hlmax, -, lel⟩ := hll; have HCG : Hid (∀ (W : World) (kk : Nat) (b : Bool) (x p : Gt), Below w2.heap.size w2 W → L[kk]? = some x → L[kk - 1]? = some p → Calls Tryz.prog 63 #[.slice lo L.length lc, .int .i64 kk, .bool b] W fun e w' => e = .returned (.int .i64 (oL x p kk b)) ∧ Below W.heap.size W w') := Lr fun W kk b x p hW hx hp => uy W L _ kk b x p (h2.l.below hW (Ls _)) hw.l hx hp
 have HEL := Lr lel; have HW2 := Lr hw2; have HB2 := Lr hb2; obtain ⟨q0, q1, q2, q3⟩ := HQ.out w2 (LD _ _); unfold maxLen at hlmax; clear h hw hw2 hb2 hnb hnl h2 hD lel
 go_enter Tryz.func35, Tryz.ntmps35
 go_upto_region 1 with (fail)
 rw [← HW2.out]; by_cases hD0 : D = 0
 ·subst hD0; rw [if_neg (by simp)] at HS
  go_upto_region 4 with (first | (go_at_call 62; (with_reducible refine HCD.out.mono ?_); rintro e w3 ⟨rfl, hb3⟩; have HB3 := Lr hb3; clear hb3 q0 q1 q2 q3) | fail)
  have HBW3 : Hid (Below w.heap.size w w3) := Lr (HB2.out.bf HB3.out); by_cases hbig : 1000 < L.length
  ·have hv : Hid (2 = S) := Lr (by rw [HS.out]; simp [checkN, hbig]); have hbz : (1000 : Int) < (L.length : Int) := by omega
   go_wp2_with fail
   go_ret
   exact ⟨ah hv.out, HBW3.out⟩
  have hbz : ¬ (1000 : Int) < (L.length : Int) := by omega
  have HF : Hid (S = FF (zN C L) L.length) := Lr (by rw [HS.out]; simp [checkN, hbig])
  go_wp2_with fail
  go_loopg [6, 7, 8, 19] L.length (fun gg s6 s7 s8 s19 wr => ∃ kk : Nat, kk ≤ L.length ∧ L.length - kk ≤ gg ∧ s19 = .int .i64 kk ∧ Aside (Below w3.heap.size w3 wr) ∧ Aside (∀ j, j < kk → zN C L j = 0))
  case atStart => exact ⟨0, Nat.zero_le _, by omega, rfl, (show Aside _ from LD _ _), (show Aside _ from fun j hj => absurd hj (Nat.not_lt_zero _))⟩
  case round =>
   obtain ⟨wz, rfl⟩ : ∃ wz, wz = wr := ⟨_, rfl⟩
   obtain ⟨kk, hkk, hg, rfl, BW, AL⟩ := hrel; by_cases hlt : kk < L.length
   ·have hltz : (kk : Int) < (L.length : Int) := by omega
    obtain ⟨x, hx⟩ : ∃ x, L[kk]? = some x := ⟨_, Lu hlt⟩
    obtain ⟨p, hp⟩ : ∃ x, L[kk - 1]? = some x := ⟨L[kk - 1]'(by omega), by simp⟩
    obtain ⟨b, off, rfl, hc⟩ := HEL.out kk x hx; have hB2 : Below w2.heap.size w2 wz := HB3.out.bf BW.out; have hl0 := LC w2 ⟨b, off + kk * 3 + 0, none⟩ (hc 0 _ rfl); have c0 : wz.cell? ⟨b, off + kk * 3, none⟩ = some (.int .i64 x.ti) := (hB2.cell (p := ⟨b, off + kk * 3 + 0, none⟩) hl0).trans (hc 0 _ rfl); have c1 : wz.cell? ⟨b, off + kk * 3 + 1, none⟩ = some (.string x.ca) := (hB2.cell (p := ⟨b, off + kk * 3 + 1, none⟩) hl0).trans (hc 1 _ rfl); have c2 : wz.cell? ⟨b, off + kk * 3 + 2, none⟩ = some (.string x.ke) := (hB2.cell (p := ⟨b, off + kk * 3 + 2, none⟩) hl0).trans (hc 2 _ rfl); obtain ⟨wb, hwb⟩ : ∃ wb, wb = wz.alloc (.cells #[.int .i64 x.ti, .string x.ca, .string x.ke] 37) := ⟨_, rfl⟩
    obtain ⟨N, hN⟩ : ∃ N, N = wz.heap.size := ⟨_, rfl⟩
    have hnn : wb.heap[N]? = some (.cells #[.int .i64 x.ti, .string x.ca, .string x.ke] 37 (0, 0)) := by rw [hN, hwb]; exact ag _ _
    have n1 : wb.cell? ⟨N, 1, none⟩ = some (.string x.ca) := af hnn 1 rfl; have HBB : Hid (Below w3.heap.size w3 wb) := Lr (by rw [hwb]; exact BW.out.alloc BW.out.size _); obtain ⟨q0, -, -, -⟩ := HQ.out wb (HB3.out.bf HBB.out); obtain ⟨I, hI⟩ : ∃ I, I = Dq C x.ca := ⟨_, rfl⟩
    have HC1 : Hid (Calls Tryz.prog 43 #[vc, .string x.ca] wb fun e w' => e = .returned (.int .i64 I) ∧ Below wb.heap.size wb w') := Lr (by rw [hI]; exact HCO.out wb x.ca (HB3.out.bf HBB.out)); have HIB : Hid (decide (0 ≤ I) = iw C x.ca) := Lr (by rw [hI]; exact rJ C x.ca); have HGC : Hid (∀ (W : World), Below w3.heap.size w3 W → ∀ b : Bool, Calls Tryz.prog 63 #[.slice (some ⟨_, _, none⟩) L.length lc, .int .i64 kk, .bool b] W fun e w' => e = .returned (.int .i64 (oL x p kk b)) ∧ Below W.heap.size W w') := Lr fun W hW b => HCG.out W kk b x p (HB3.out.bf hW) hx hp
    have HAT : Hid (zN C L kk = oL x p kk (iw C x.ca)) := Lr (by rw [zN, bi hx, bi hp]); have HAL := Lr AL.out; have HWB' := Lr hwb; have HN := Lr hN; clear hx hp hc hB2 hl0 hwb hN hnn hI BW AL; have fin : ∀ bb : Bool, bb = iw C x.ca → Hid (zN C L kk = oL x p kk bb) := fun bb h => Lr (by rw [h]; exact HAT.out)
    have HZ := fin (decide (0 ≤ I)) HIB.out; have HGT := Lr (fun W hW => HGC.out W hW (decide (0 ≤ I))); obtain ⟨z, hz⟩ : ∃ z, z = oL x p kk (decide (0 ≤ I)) := ⟨_, rfl⟩
    rw [← hz] at HZ HGT; clear fin hz HGC
    go_upto_region 9 with (fail)
    rw [← HWB'.out, ← HN.out]; clear c0 c1 c2; by_cases hz0 : z = 0
    ·subst hz0
     go_wp2_with (first
      | (go_at_call 43; (with_reducible refine HC1.out.mono ?_); rintro e w5 ⟨rfl, hb5⟩; have HB5 := Lr (HBB.out.bf hb5); clear hb5)
      | (go_at_call 63; (with_reducible refine (HGT.out _ HB5.out).mono ?_); rintro e w6 ⟨rfl, hb6⟩; have HB6 := Lr (HB5.out.bf hb6); clear hb6)
      | fail)
     go_roundg (L.length - (kk + 1))
     case measure => omega
     case rel =>
      refine ⟨kk + 1, by omega, by omega, by go_num, (show Aside _ from HB6.out), (show Aside _ from fun j hj => ?_)⟩; by_cases e : j = kk
      ·rw [e, HZ.out]
      ·exact HAL.out j (by omega)
    ·have hv : Hid (z = S) := Lr (by rw [HF.out, iM hlt HAL.out (by rw [HZ.out]; exact hz0), HZ.out])
     go_wp2_with (first
      | (go_at_call 43; (with_reducible refine HC1.out.mono ?_); rintro e w5 ⟨rfl, hb5⟩; have HB5 := Lr (HBB.out.bf hb5); clear hb5)
      | (go_at_call 63; (with_reducible refine (HGT.out _ HB5.out).mono ?_); rintro e w6 ⟨rfl, hb6⟩; have HB6 := Lr (HB5.out.bf hb6); clear hb6)
      | fail)
     go_ret
     exact ⟨ah hv.out, HBW3.out.bf HB6.out⟩
   ·obtain rfl : kk = L.length := by omega
    have hltz : ¬ (L.length : Int) < (L.length : Int) := by omega
    have hz : Hid (0 = S) := Lr (by rw [HF.out, eF AL.out]); have HBZ := Lr (HBW3.out.bf BW.out); clear BW AL
    go_wp2_with fail
    go_ret
    exact ⟨ah hz.out, HBZ.out⟩
 ·have hv : Hid (D = S) := Lr (by rw [HS.out, if_pos hD0])
  go_wp2_with (go_at_call 62; (with_reducible refine HCD.out.mono ?_); rintro e w3 ⟨rfl, hb3⟩; have HB3 := Lr hb3; clear hb3 q0 q1 q2 q3)
  go_ret
  exact ⟨ah hv.out, HB2.out.bf HB3.out⟩
theorem G5 : (Tryz.prog.info? 103).map (fun i => (i.zero, i.size, i.bytes)) = some (some (.slice none 0 0), 1, 24) := by kernel_rfl
theorem BQ (n : Nat) : madeCells #[Value.slice none 0 0] (n * 1) = ((List.replicate n (Value.slice none 0 0)).flatMap zO).toArray := by
 apply Array.toList_inj.1; have e : ∀ m, (madeCells #[Value.slice none 0 0] m).toList = (List.range m).map fun j => #[Value.slice none 0 0][j % 1]! := fun m => by
  unfold madeCells; simp
 rw [e]; show _ = (List.replicate n _).flatMap zO
 induction n with
 | zero => rfl
 | succ n ih =>
  rw [List.replicate_succ', List.flatMap_append, ← ih, show (n + 1) * 1 = n * 1 + 1 by omega]; simp only [List.range_succ, List.map_append, List.map_cons, List.map_nil]
  rw [show (n * 1) % 1 = 0 by omega]
  rfl
theorem BP (n : Nat) (hn : n ≤ 1000) (w : World) : (Instr.makeSlice 86 (.int .i64 (n : Int)) (.int .i64 (n : Int))).run Tryz.prog w = .ok (.slice (some ⟨w.heap.size, 0, none⟩) n n) (w.alloc (.cells ((List.replicate n (Value.slice none 0 0)).flatMap zO).toArray 103)) := by
 obtain ⟨i0, hi0, hz0, hz1, hz2⟩ := info_parts G5; have hr := run_make (P := Tryz.prog) w 86 103 i0 _ Tryz.underlying86 hi0 hz0 .i64 .i64 n n (by omega) (Int.le_refl _) (by rw [hz2]; omega) (by omega); rw [hr, hz1]; simp only [Int.toNat_natCast]
 rw [← BQ]
 rfl
theorem EE (n : Nat) : madeCells #[Value.int .i64 0, .int .i64 0, .int .i64 0, .int .i64 0, .int .i64 0, .int .i64 0] (n * 6) = ((List.replicate n (default : Ldd)).flatMap lL).toArray := by
 apply Array.toList_inj.1; have e : ∀ m, (madeCells #[Value.int .i64 0, .int .i64 0, .int .i64 0, .int .i64 0, .int .i64 0, .int .i64 0] m).toList = (List.range m).map fun j => #[Value.int .i64 0, .int .i64 0, .int .i64 0, .int .i64 0, .int .i64 0, .int .i64 0][j % 6]! := fun m => by
  unfold madeCells; simp
 rw [e]; show _ = (List.replicate n _).flatMap lL
 induction n with
 | zero => rfl
 | succ n ih =>
  rw [List.replicate_succ', List.flatMap_append, ← ih, show (n + 1) * 6 = n * 6 + 1 + 1 + 1 + 1 + 1 + 1 by omega]; simp only [List.range_succ, List.map_append, List.append_assoc, List.map_cons, List.map_nil]
  rw [show (n * 6) % 6 = 0 by omega, show (n * 6 + 1) % 6 = 1 by omega, show (n * 6 + 1 + 1) % 6 = 2 by omega, show (n * 6 + 1 + 1 + 1) % 6 = 3 by omega, show (n * 6 + 1 + 1 + 1 + 1) % 6 = 4 by omega, show (n * 6 + 1 + 1 + 1 + 1 + 1) % 6 = 5 by omega]
  rfl
theorem ED (n : Nat) (hn : n ≤ 1000) (w : World) : (Instr.makeSlice 43 (.int .i64 (n : Int)) (.int .i64 (n : Int))).run Tryz.prog w = .ok (.slice (some ⟨w.heap.size, 0, none⟩) n n) (w.alloc (.cells ((List.replicate n (default : Ldd)).flatMap lL).toArray 50)) := by
 obtain ⟨i0, hi0, hz0, hz1, hz2⟩ := info_parts IV; have hr := run_make (P := Tryz.prog) w 43 50 i0 _ Tryz.underlying43 hi0 hz0 .i64 .i64 n n (by omega) (Int.le_refl _) (by rw [hz2]; omega) (by omega); rw [hr, hz1]; simp only [Int.toNat_natCast]
 rw [← EE]
 rfl
structure Kw (w W : World) (d0 d1 d2 d3 lv : Value) (nc ng q hb gb lb : Nat) : Prop where
 bel : Below w.heap.size w W
 dis : (w.heap.size ≤ q ∧ w.heap.size ≤ hb ∧ w.heap.size ≤ gb ∧ w.heap.size ≤ lb) ∧ (q ≠ hb ∧ q ≠ gb ∧ q ≠ lb) ∧ hb ≠ gb ∧ hb ≠ lb ∧ gb ≠ lb
 hr : W.heap[hb]? = some (.cells ((List.replicate nc (Value.slice none 0 0)).flatMap zO).toArray 103 (0, 0))
 gr : W.heap[gb]? = some (.cells ((List.replicate ng (⟨0, 0, 0, ⟨#[]⟩, 0⟩ : Gtn)).flatMap jF).toArray 35 (0, 0))
 lr : W.heap[lb]? = some (.cells ((List.replicate nc (default : Ldd)).flatMap lL).toArray 50 (0, 0))
 dy : W.heap[q]? = some (.cells #[d0, d1, d2, d3, lv, .int .i64 0, .int .i64 0, .slice none 0 0, .slice (some ⟨hb, 0, none⟩) nc nc, .slice (some ⟨gb, 0, none⟩) ng ng, .slice (some ⟨lb, 0, none⟩) nc nc, .int .i64 0] 88 (0, 0))
theorem qL {α : Type} {E : TypeId} {k : Nat} {enc : α → List Value} (hk : ∀ x, (enc x).length = k) (n b : Nat) (x : α) (hn : n ≤ 1000) : bV (some (b, .cells ((List.replicate n x).flatMap enc).toArray E (0, 0))) E k enc (.slice (some ⟨b, 0, none⟩) n n) (List.replicate n x) := by
 have hl : ((List.replicate n x).flatMap enc).length = n * k := by rw [ay hk, List.length_replicate]
 refine .inr ⟨b, n, _, by rw [List.length_replicate], rfl, by rw [List.length_replicate]; exact Ls _, by unfold maxLen; omega, by simpa using hl, ?_⟩; rw [List.length_replicate, ← hl]; exact List.take_length
theorem qQ {α β : Type} (l : List α) (b : β) : (l.map fun _ => b) = List.replicate l.length b := by
 induction l with
 | nil => rfl
 | cons a l ih => rw [List.map_cons, ih]; rfl
theorem Kw.rd {w W : World} {d0 d1 d2 d3 lv : Value} {ng q hb gb lb : Nat} {C : List Cch} (h : Kw w W d0 d1 d2 d3 lv C.length ng q hb gb lb) (hc : C.length ≤ 30) (hg : ng ≤ 1000) :
 RD W w.heap.size ⟨q, d0, d1, d2, d3, lv, .slice none 0 0, .slice (some ⟨hb, 0, none⟩) C.length C.length, .slice (some ⟨gb, 0, none⟩) ng ng, .slice (some ⟨lb, 0, none⟩) C.length C.length, [], List.replicate C.length (.slice none 0 0), []⟩ (xd0 C ng) := by
 obtain ⟨⟨a1, a2, a3, a4⟩, ⟨b1, b2, b3⟩, b4, b5, b6⟩ := h.dis; refine ⟨fun r => if r = 0 then some (q, .cells #[d0, d1, d2, d3, lv, .int .i64 0, .int .i64 0, .slice none 0 0, .slice (some ⟨hb, 0, none⟩) C.length C.length, .slice (some ⟨gb, 0, none⟩) ng ng, .slice (some ⟨lb, 0, none⟩) C.length C.length, .int .i64 0] 88 (0, 0)) else if r = 2 then some (hb, .cells ((List.replicate C.length (Value.slice none 0 0)).flatMap zO).toArray 103 (0, 0)) else if r = 3 then some (gb, .cells ((List.replicate ng (⟨0, 0, 0, ⟨#[]⟩, 0⟩ : Gtn)).flatMap jF).toArray 35 (0, 0)) else if r = 4 then some (lb, .cells ((List.replicate C.length (default : Ldd)).flatMap lL).toArray 50 (0, 0)) else none, ⟨?_, ?_, h.bel.size⟩, ?_⟩
 ·intro r b o hr; split at hr
  ·cases hr; exact ⟨a1, h.dy⟩
  ·split at hr
   ·cases hr; exact ⟨a2, h.hr⟩
   ·split at hr
    ·cases hr; exact ⟨a3, h.gr⟩
    ·split at hr
     ·cases hr; exact ⟨a4, h.lr⟩
     ·cases hr
 ·intro r p b o o' hr hp; split at hr <;> split at hp <;> (try cases hr) <;> (try cases hp) <;> (try omega) <;> (repeat' split at hr) <;> (repeat' split at hp) <;> (try cases hr) <;> (try cases hp) <;> (try omega)
 ·exact {
   wl := rfl
   ak := .inl ⟨rfl, rfl, rfl⟩
   hs := qL dV _ _ _ (by omega)
   go := qL dH _ _ _ hg
   ld := by
    show bV _ _ _ _ _ (C.map fun _ => (default : Ldd))
    rw [qQ]; exact qL fZ _ _ _ (by omega)
   he := fun i v hv => by
    have hv' : (List.replicate C.length (Value.slice none 0 0))[i]? = some v := hv; rw [List.getElem?_replicate] at hv'; split at hv'
    ·cases hv'
     refine .inl ⟨rfl, ?_, ?_⟩
     ·show (C.map fun _ => ([] : List Xh)).getD i [] = []
      rw [Lt, List.getElem?_map]; cases C[i]? <;> rfl
     ·rw [if_neg (by omega), if_neg (by omega), if_neg (by omega), if_neg (by omega)]
    ·cases hv'
   wa := fun j p hp => by cases hp
   fx := fun k b o hx => by cases hx
   ka := rfl
   hl := by show (List.replicate _ _).length = (C.map _).length; rw [List.length_replicate, List.length_map] }
end Go.Proofs.YtgohddfnhofjhaaGreatDoor

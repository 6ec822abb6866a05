/- newWorld: the walk. -/
import Derived.Test.YtgohddfnhofjhaaGreatDoorK02
import Derived.Test.YtgohddfnhofjhaaGreatDoorK17
import Derived.Deep.RegionHeld3
import Derived.Test.YtgohddfnhofjhaaGreatDoorK16
import Derived.Test.YtgohddfnhofjhaaGreatDoorK13
import Derived.Test.YtgohddfnhofjhaaGreatDoorK11
import Derived.Test.YtgohddfnhofjhaaGreatDoorK01
set_option maxRecDepth 100000
set_option maxHeartbeats 8000000
namespace Go.Proofs.YtgohddfnhofjhaaGreatDoor
open Go.RowKit
def dh : List Int → Int
 | [] => 0
 | a :: r => if a ≠ 0 then a else dh r
theorem CX {l : List Int} : ∀ {k : Nat} {a : Int}, l[k]? = some a → a ≠ 0 → (∀ j x, l[j]? = some x → j < k → x = 0) → dh l = a := by
 induction l with
 | nil => intro k a h; simp at h
 | cons b r ih =>
  intro k a h ha hz; cases k with
  | zero => simp at h; subst h; rw [dh, if_pos ha]
  | succ k =>
   have h0 := hz 0 b rfl (by omega); rw [dh, if_neg (by simp [h0])]; exact ih (by simpa using h) ha fun j x hx hj => hz (j + 1) x (by simpa using hx) (by omega)
theorem vz {l : List Int} (hz : ∀ (j : Nat) x, l[j]? = some x → x = 0) : dh l = 0 := by
 induction l with
 | nil => rfl
 | cons b r ih =>
  have h0 := hz 0 b rfl; rw [dh, if_neg (by simp [h0])]; exact ih fun j x hx => hz (j + 1) x (by simpa using hx)
theorem first_any (w : World) (l : List Int) (v : Value) (hl : Sl w 1 encI v l) :
 Calls Tryz.prog 79 #[v] w fun e w' => e = .returned (.int .i64 (dh l)) ∧ w = w' := by
 obtain ⟨ao, cap, rfl, hcap, hmax, hnil, hel⟩ := hl; unfold maxLen at hmax
 go_enter Tryz.func79, Tryz.ntmps79
 go_wp2
 go_loop [4, 7] (fun _ s7 => ∃ kk : Nat, kk ≤ l.length ∧ s7 = .int .i64 kk ∧ Aside (∀ j x, l[j]? = some x → j < kk → x = 0)) (fun _ i => l.length - (intOf i).toNat)
 case atStart => exact ⟨0, Nat.zero_le _, rfl, fun j x _ hj => absurd hj (Nat.not_lt_zero _)⟩
 case round =>
  obtain ⟨kk, hkk, rfl, A⟩ := hrel; by_cases hlt : kk < l.length
  ·have hltz : (kk : Int) < (l.length : Int) := by omega
   obtain ⟨x, hx⟩ : ∃ x, l[kk]? = some x := ⟨l[kk], by simp [hlt]⟩
   obtain ⟨b, off, rfl, hc⟩ := hel kk x hx; have c0 : w.cell? ⟨b, off + kk, none⟩ = some (.int .i64 x) := by simpa using hc 0 _ rfl
   have HX := Lr hx; clear hx hc hel; cases e1 : (x != 0)
   case true =>
    have hv : Hid (x = dh l) := Lr (CX HX.out (by simpa using e1) A.out).symm
    go_wp2
    go_ret
    exact ⟨ah hv.out, rfl⟩
   case false =>
    have hz : Hid (x = 0) := Lr (by simpa using e1)
    go_wp2
    go_round
    case rel =>
     refine ⟨kk + 1, by omega, by go_num, (show Aside (∀ j x, l[j]? = some x → j < kk + 1 → x = 0) from fun j y hy hj => ?_)⟩; by_cases e : j = kk
     ·subst e; have := HX.out.symm.trans hy; simp only [Option.some.injEq] at this
      rw [← this]; exact hz.out
     ·exact A.out j y hy (by omega)
    case measure => simp [intOf]; omega
  ·obtain rfl : kk = l.length := by omega
   have hv : Hid (0 = dh l) := Lr (vz fun j x hx => A.out j x hx (List.getElem?_eq_some_iff.1 hx).1).symm; clear hel
   go_wp2
   go_ret
   exact ⟨ah hv.out, rfl⟩
theorem zy (w : World) (c : List Cch) (r : List Crl) (e : List Rel) (l : List Pur) (vc vr ve vp : Value) (hc : Sl w 4 su vc c) (hr : Sl w 4 xU vr r) (he : Sl w 4 zn ve e) (hl : Sl w 2 xW vp l) (hwc : ∀ x, x ∈ c → WfC x) (hwr : ∀ x, x ∈ r → WfU x) (hwe : ∀ x, x ∈ e → WfL x) (hw : ∀ x, x ∈ l → WfG x) :
 Calls Tryz.prog 46 #[.agg #[vc, vr, ve, vp]] w fun e' w' => e' = .returned (.int .i64 (eU c r e l)) ∧ Below w.heap.size w w' := by
 have H1 := Lr (fun (W : World) (h : Below w.heap.size w W) => zA W c vc (hc.below h (Ls _)) hwc); have H2 := Lr (fun (W : World) (h : Below w.heap.size w W) => zu W r vr (hr.below h (Ls _)) hwr); have H3 := Lr (fun (W : World) (h : Below w.heap.size w W) => zx W e ve (he.below h (Ls _)) hwe); obtain ⟨ao, cap, rfl, hcap, hmax, hnil, hel⟩ := hl; obtain ⟨co, cp, rfl, _⟩ := hc; obtain ⟨ro, rp, rfl, _⟩ := hr; obtain ⟨eo, ep, rfl, _⟩ := he; unfold maxLen at hmax; obtain ⟨vc, hvc⟩ : ∃ v, v = Value.slice co c.length cp := ⟨_, rfl⟩
 obtain ⟨vr, hvr⟩ : ∃ v, v = Value.slice ro r.length rp := ⟨_, rfl⟩
 obtain ⟨ve, hve⟩ : ∃ v, v = Value.slice eo e.length ep := ⟨_, rfl⟩
 rw [← hvc] at H1 ⊢; rw [← hvr] at H2 ⊢; rw [← hve] at H3 ⊢; have HVC := Lr hvc; have HVR := Lr hvr; have HVE := Lr hve; have HEL := Lr hel; have HW := Lr hw; obtain ⟨CC, hCC⟩ : ∃ x, x = bZ c := ⟨_, rfl⟩
 obtain ⟨CU, hCU⟩ : ∃ x, x = dO r := ⟨_, rfl⟩
 obtain ⟨CL, hCL⟩ : ∃ x, x = dP e := ⟨_, rfl⟩
 have HD : Hid (eU c r e l = if CC ≠ 0 then CC else if CU ≠ 0 then CU else if CL ≠ 0 then CL else gm l) := Lr (by rw [hCC, hCU, hCL]; rfl); rw [← hCC] at H1; rw [← hCU] at H2; rw [← hCL] at H3; obtain ⟨D, hD⟩ : ∃ x, x = eU c r e l := ⟨_, rfl⟩
 rw [← hD] at HD ⊢; clear hel hw hCC hCU hCL hD hvc hvr hve hwc hwr hwe; obtain ⟨w5, hw5⟩ : ∃ w5, w5 = w.alloc (.cells #[vc, vr, ve, .slice ao l.length cap] 27) := ⟨_, rfl⟩
 have hb5 : Below w.heap.size w w5 := by rw [hw5]; exact (LD _ _).alloc (Ls _) _
 have hd5 : w5.heap[w.heap.size]? = some (.cells #[vc, vr, ve, .slice ao l.length cap] 27 (0, 0)) := by rw [hw5]; exact ag w _
 have HW5 := Lr hw5; have HB5 := Lr hb5; have HD5 := Lr hd5; have hg5 : w.heap.size < w5.heap.size := by rw [hw5]; simp
 clear hw5 hb5 hd5
 go_enter Tryz.func46, Tryz.ntmps46
 go_upto_region 1 with (fail)
 rw [← HW5.out]; obtain ⟨g, hgq⟩ : ∃ g, g = w.heap.size := ⟨_, rfl⟩
 have HGQ := Lr hgq; have d0 : w5.cell? ⟨g, 0, none⟩ = some vc := by rw [hgq]; exact (cell_of_block (i := 0) HD5.out).trans rfl
 have d1 : w5.cell? ⟨g, 1, none⟩ = some vr := by rw [hgq]; exact (cell_of_block (i := 1) HD5.out).trans rfl
 have d2 : w5.cell? ⟨g, 2, none⟩ = some ve := by rw [hgq]; exact (cell_of_block (i := 2) HD5.out).trans rfl
 have d3 : w5.cell? ⟨g, 3, none⟩ = some (.slice ao l.length cap) := by rw [hgq]; exact (cell_of_block (i := 3) HD5.out).trans rfl
 rw [← hgq] at hg5 ⊢; clear hgq HW5 HD5; have H1' := Lr (fun (W : World) (h : Below w5.heap.size w5 W) => H1.out W (HB5.out.trans (h.mono HB5.out.size))); have H2' := Lr (fun (W : World) (h : Below w5.heap.size w5 W) => H2.out W (HB5.out.trans (h.mono HB5.out.size))); have H3' := Lr (fun (W : World) (h : Below w5.heap.size w5 W) => H3.out W (HB5.out.trans (h.mono HB5.out.size))); have HFI : Hid (∀ W : World, Calls Tryz.prog 79 #[.slice (some ⟨W.heap.size, 0, none⟩) 3 3] (W.alloc (.cells #[.int .i64 CC, .int .i64 CU, .int .i64 CL] 30)) fun e w' => e = .returned (.int .i64 (dh [CC, CU, CL])) ∧ (W.alloc (.cells #[.int .i64 CC, .int .i64 CU, .int .i64 CL] 30)) = w') := Lr (fun W => first_any _ [CC, CU, CL] _ (Sl.fresh jc W 30 (0, 0) [CC, CU, CL] (by simp [maxLen]))); have HQ : Below w5.heap.size w5 (w5.drewN 1) := below_drewN (LD _ w5) 1; clear H1 H2 H3
 go_cut [3] (fun s3 w6 => s3 = .int .i64 (dh [CC, CU, CL]) ∧ Aside (Below w5.heap.size w5 w6))
 case first =>
  go_region_held3 (fun w' => w'.cell? ⟨g, 0, none⟩ = some vc ∧ w'.cell? ⟨g, 1, none⟩ = some vr ∧ w'.cell? ⟨g, 2, none⟩ = some ve)
   (first | exact ⟨(HQ.cell (p := ⟨g, 0, none⟩) hg5).trans d0, (HQ.cell (p := ⟨g, 1, none⟩) hg5).trans d1, (HQ.cell (p := ⟨g, 2, none⟩) hg5).trans d2⟩ | exact ⟨((HQ.alloc HQ.size _).cell (p := ⟨g, 0, none⟩) hg5).trans d0, ((HQ.alloc HQ.size _).cell (p := ⟨g, 1, none⟩) hg5).trans d1, ((HQ.alloc HQ.size _).cell (p := ⟨g, 2, none⟩) hg5).trans d2⟩ | fail)
   (first | (go_at_call 80; refine (H1'.out _ HQ).mono ?_; rintro e w' ⟨rfl, hb⟩; have HQ := HQ.trans (hb.mono HQ.size)) | (go_at_call 81; refine (H2'.out _ HQ).mono ?_; rintro e w' ⟨rfl, hb⟩; have HQ := HQ.trans (hb.mono HQ.size)) | (go_at_call 82; refine (H3'.out _ HQ).mono ?_; rintro e w' ⟨rfl, hb⟩; have HQ := HQ.trans (hb.mono HQ.size)) | (go_at_call 79; refine (HFI.out _).mono ?_; rintro e w' ⟨rfl, rfl⟩) | fail)
  go_wp2_with fail
  go_meet
  exact ⟨rfl, HQ.alloc HQ.size _⟩
 obtain ⟨rfl, B6⟩ := hcut; obtain ⟨w6, rfl⟩ : ∃ w6, w6 = wc := ⟨_, rfl⟩
 have HB6 := Lr (HB5.out.trans (B6.out.mono HB5.out.size)); have e3 := (B6.out.cell (p := ⟨g, 3, none⟩) hg5).trans d3; have hg6 : g < w6.heap.size := Nat.lt_of_lt_of_le hg5 B6.out.size; clear HQ d0 d1 d2 d3 H1' H2' H3' HFI B6; have HFF : Hid (dh [CC, CU, CL] ≠ 0 → dh [CC, CU, CL] = D) := Lr (fun h => by
  rw [HD.out]; by_cases h1 : CC = 0
  ·by_cases h2 : CU = 0
   ·by_cases h3 : CL = 0
    ·exact absurd (by simp [dh, h1, h2, h3]) h
    ·simp [dh, h1, h2, h3]
   ·simp [dh, h1, h2]
  ·simp [dh, h1])
 have HFZ : Hid (dh [CC, CU, CL] = 0 → D = gm l) := Lr (fun h => by
  rw [HD.out]; by_cases h1 : CC = 0
  ·by_cases h2 : CU = 0
   ·by_cases h3 : CL = 0
    ·simp [h1, h2, h3]
    ·exact absurd h (by simp [dh, h1, h2, h3])
   ·exact absurd h (by simp [dh, h1, h2])
  ·exact absurd h (by simp [dh, h1]))
 generalize dh [CC, CU, CL] = Q at HFF HFZ ⊢; by_cases hQ : Q = 0
 case neg =>
  have hv := Lr (HFF.out hQ)
  go_wp2_with fail
  go_ret
  exact ⟨ah hv.out, HB6.out⟩
 have HDG := Lr (HFZ.out hQ); subst hQ; clear HFF HFZ HD; by_cases hbig : 200 < l.length
 ·have hv : Hid (2 = D) := Lr (by rw [HDG.out]; simp [gm, hbig]); have hbz : (200 : Int) < (l.length : Int) := by omega
  go_wp2_with fail
  go_ret
  exact ⟨ah hv.out, HB6.out⟩
 have hbz : ¬ (200 : Int) < (l.length : Int) := by omega
 have HF : Hid (D = FF (zU l) l.length) := Lr (by rw [HDG.out]; simp [gm, hbig]); clear hbig; obtain ⟨F, rfl⟩ : ∃ F, F = D := ⟨D, rfl⟩
 go_wp2_with fail
 go_loopg [27] l.length (fun gg s27 wr => ∃ kk : Nat, kk ≤ l.length ∧ l.length - kk ≤ gg ∧ s27 = .int .i64 kk ∧ Aside (Below w.heap.size w wr) ∧ Aside (wr.cell? ⟨g, 3, none⟩ = some (.slice ao l.length cap)) ∧ Aside (∀ j, j < kk → zU l j = 0))
 case atStart => exact ⟨0, Nat.zero_le _, by omega, rfl, HB6.out, e3, fun j hj => absurd hj (Nat.not_lt_zero _)⟩
 case round =>
  obtain ⟨kk, hkk, hg, rfl, BW, K3, A⟩ := hrel; have k3 := K3.out; have HK3 := Lr K3.out; have hgr := LC wr _ k3; clear e3 hg6 K3; by_cases hlt : kk < l.length
  ·have hltz : (kk : Int) < (l.length : Int) := by omega
   obtain ⟨x, hx⟩ : ∃ x, l[kk]? = some x := ⟨l[kk], by simp [hlt]⟩
   obtain ⟨p, hp⟩ : ∃ x, l[kk - 1]? = some x := ⟨l[kk - 1]'(by omega), by simp⟩
   obtain ⟨b, off, hao, hc⟩ := HEL.out kk x hx; subst hao; obtain ⟨b', off', hao', hc'⟩ := HEL.out (kk - 1) p hp; simp only [Option.some.injEq, Addr.mk.injEq, and_true] at hao'
   obtain ⟨rfl, rfl⟩ := hao'; have hlt0 := LC w ⟨b, off + kk * 2 + 0, none⟩ (hc 0 _ rfl); have c0 : wr.cell? ⟨b, off + kk * 2, none⟩ = some (.int .i64 x.ti) := (BW.out.cell (p := ⟨b, off + kk * 2 + 0, none⟩) hlt0).trans (hc 0 _ rfl); have p0 : wr.cell? ⟨b, off + (kk - 1) * 2, none⟩ = some (.int .i64 p.ti) := (BW.out.cell (p := ⟨b, off + (kk - 1) * 2 + 0, none⟩) hlt0).trans (hc' 0 _ rfl); have c1 : wr.cell? ⟨b, off + kk * 2 + 1, none⟩ = some (.string x.ke) := (BW.out.cell (p := ⟨b, off + kk * 2 + 1, none⟩) hlt0).trans (hc 1 _ rfl); have p1 : wr.cell? ⟨b, off + (kk - 1) * 2 + 1, none⟩ = some (.string p.ke) := (BW.out.cell (p := ⟨b, off + (kk - 1) * 2 + 1, none⟩) hlt0).trans (hc' 1 _ rfl); have hbw : b < wr.heap.size := Nat.lt_of_lt_of_le hlt0 BW.out.size; have hsz : x.ke.size ≤ 9223372036854775807 := HW.out x (List.mem_of_getElem? hx); have hin := iG x.ke; have hszw := BW.out.size; have hat : Hid (zU l kk = yg x p kk) := Lr (by rw [zU, bi hx, bi hp]); have hS : Hid (∀ z, yg x p kk = z → z ≠ 0 → z = F) := Lr (fun z h hz => by
    rw [HF.out, iM hlt A.out (by rw [hat.out, h]; exact hz), hat.out, h])
   have hC0 : Hid (yg x p kk = if (aN x.ti 0 1000000000000) = true then 1 else if (!dG x.ke) = true then 3 else if (uO x p kk) = true then 8 else 0) := Lr rfl; clear hx hp hc hc'; have HB0 := Lr (BW.out.alloc hszw (.cells #[.int .i64 x.ti, .string x.ke] 74)); have HKZ := Lr ((((LD wr.heap.size wr).alloc (Ls _) (.cells #[.int .i64 x.ti, .string x.ke] 74)).cell (p := ⟨g, 3, none⟩) hgr).trans HK3.out)
   go_upto_region 9 with (fail)
   go_cut [32] (fun s w4 => s = .bool (aN x.ti 0 1000000000000) ∧ w4 = (wr.alloc (.cells #[.int .i64 x.ti, .string x.ke] 74)))
   case first =>
    cases o0 : aN x.ti 0 1000000000000
    all_goals
     go_wp2_with (go_at_call 83; refine (fJ _ _ _ _).mono ?_; rintro e w' ⟨rfl, rfl⟩)
     go_meet
     exact ⟨by simp [*], rfl⟩
   obtain ⟨rfl, rfl⟩ := hcut; generalize hO : (aN x.ti 0 1000000000000) = O at hC0 ⊢; clear hO; cases O
   case true =>
    have hv : Hid (1 = F) := Lr (hS.out 1 (by rw [hC0.out]; rfl) (by decide))
    go_wp2
    go_ret
    exact ⟨ah hv.out, HB0.out⟩
   have hC1 : Hid (yg x p kk = if (!dG x.ke) = true then 3 else if (uO x p kk) = true then 8 else 0) := Lr (by rw [hC0.out]; rfl); clear hC0
   go_upto_region 11 with (fail)
   go_cut [36] (fun s w4 => s = .bool (!dG x.ke) ∧ w4 = (wr.alloc (.cells #[.int .i64 x.ti, .string x.ke] 74)))
   case first =>
    go_wp2_with (go_at_call 51; refine (hin _ hsz).mono ?_; rintro e w' ⟨rfl, rfl⟩)
    go_meet
    exact ⟨by simp, rfl⟩
   obtain ⟨rfl, rfl⟩ := hcut; generalize hO : (!dG x.ke) = O at hC1 ⊢; clear hO; cases O
   case true =>
    have hv : Hid (3 = F) := Lr (hS.out 3 (by rw [hC1.out]; rfl) (by decide))
    go_wp2
    go_ret
    exact ⟨ah hv.out, HB0.out⟩
   have hC2 : Hid (yg x p kk = if (uO x p kk) = true then 8 else 0) := Lr (by rw [hC1.out]; rfl); clear hC1
   go_upto_region 13 with (fail)
   have hor : Hid ((uO x p kk) = (decide (0 < kk) && (decide (x.ti < p.ti) || (x.ti == p.ti && (Op.bytesLess x.ke.toList p.ke.toList || x.ke.toList == p.ke.toList))))) := Lr rfl; generalize hOG : (uO x p kk) = OG at hor hC2 ⊢; have HOG := Lr hOG; clear hOG
   go_cut [41] (fun s w4 => s = .bool OG ∧ ∃ n, w4 = (wr.alloc (.cells #[.int .i64 x.ti, .string x.ke] 74)).drewN n)
   case first =>
    by_cases hk0 : kk = 0
    ·have hz : decide ((0 : Int) < (kk : Int)) = false := decide_eq_false (by omega); have hz' : ¬ (0 : Int) < (kk : Int) := by omega
     have hz2 : decide (0 < kk) = false := decide_eq_false (by omega); have hv : Hid (OG = false) := Lr (by rw [hor.out, hz2]; rfl); clear hk0
     go_quiet (fail)
     go_wp2
     go_meet
     exact ⟨by rw [hv.out], _, rfl⟩
    ·have hz : decide ((0 : Int) < (kk : Int)) = true := decide_eq_true (by omega); have hz2 : decide (0 < kk) = true := decide_eq_true (by omega); have ez2 : ((kk : Int) - 1).toNat = kk - 1 := by omega
     have hm1 : (kk : Int) - 1 < (l.length : Int) := by omega
     have hm2 : (0 : Int) ≤ (kk : Int) - 1 := by omega
     have hm3 : (1 : Int) ≤ (kk : Int) := by omega
     have hm4 : 0 < kk := by omega
     have hwk : IntKind.i64.wrap ((kk : Int) - 1) = (kk : Int) - 1 := IntWalk.i64_in _ (by omega); clear hk0; by_cases q1 : x.ti < p.ti
     ·have q1' : decide (x.ti < p.ti) = true := decide_eq_true q1; have hv : Hid (OG = true) := Lr (by rw [hor.out, hz2, q1']; rfl)
      go_quiet (fail)
      go_wp2
      go_meet
      exact ⟨by rw [hv.out], _, rfl⟩
     ·have q1' : decide (x.ti < p.ti) = false := decide_eq_false q1; cases q2 : (x.ti == p.ti)
      ·have hv : Hid (OG = false) := Lr (by rw [hor.out, hz2, q1', q2]; rfl); have q3 : ¬ x.ti = p.ti := by simpa using q2
       go_quiet (fail)
       go_wp2
       go_meet
       exact ⟨by rw [hv.out], _, rfl⟩
      ·have hv : Hid (OG = (Op.bytesLess x.ke.toList p.ke.toList || x.ke.toList == p.ke.toList)) := Lr (by rw [hor.out, hz2, q1', q2]; rfl)
       go_quiet (fail)
       go_wp2
       go_meet
       exact ⟨by rw [hv.out], _, rfl⟩
   obtain ⟨rfl, nq, rfl⟩ := hcut; rw [HOG.out.symm] at hC2; have HBn := Lr (below_drewN HB0.out nq); rw [HOG.out.symm]; clear hor HOG; generalize hO : (uO x p kk) = O at hC2 ⊢; clear hO; cases O
   case true =>
    have hv : Hid (8 = F) := Lr (hS.out 8 (by rw [hC2.out]; rfl) (by decide))
    go_wp2
    go_ret
    exact ⟨ah hv.out, HBn.out⟩
   have hC3 : Hid (yg x p kk = 0) := Lr (by rw [hC2.out]; rfl); clear hC2; have hz : Hid (zU l kk = 0) := Lr (by rw [hat.out, hC3.out])
   go_wp2
   go_roundg (l.length - (kk + 1))
   case measure => omega
   case rel =>
    refine ⟨kk + 1, by omega, by omega, by go_num, HBn.out, HKZ.out, (show Aside _ from fun j hj => ?_)⟩; by_cases e : j = kk
    ·rw [e, hz.out]
    ·exact A.out j (by omega)
  ·obtain rfl : kk = l.length := by omega
   have hltz : ¬ (l.length : Int) < (l.length : Int) := by omega
   have hz : Hid (0 = F) := Lr (by rw [HF.out, eF A.out])
   go_wp2
   go_ret
   exact ⟨ah hz.out, BW.out⟩
theorem oZ (w : World) (C : List Cch) (bx : Nat) (l : List Gt) (v : Value) (hl : Sl w 3 F5 v l) (hw : ∀ x, x ∈ l → WfT x) (hf : ∀ (n : ByteArray) (W : World), Below w.heap.size w W → Calls Tryz.prog 48 #[.string n, .pointer (some ⟨bx, 0, none⟩)] W fun e w' => e = .returned (.bool (iw C n)) ∧ Below W.heap.size W w') :
 Calls Tryz.prog 47 #[v, .func (.func 48) #[] #[.pointer (some ⟨bx, 0, none⟩)]] w fun e w' => e = .returned (.int .i64 (checkN C l)) ∧ Below w.heap.size w w' := by
 obtain ⟨ao, cap, rfl, hcap, hmax, hnil, hel⟩ := hl; unfold maxLen at hmax; by_cases hbig : 1000 < l.length
 ·have hv : Hid (2 = checkN C l) := Lr (by simp [checkN, hbig]); have hbz : (1000 : Int) < (l.length : Int) := by omega
  clear hel
  go_enter Tryz.func47, Tryz.ntmps47
  go_wp2
  go_ret
  exact ⟨ah hv.out, LD _ _⟩
 have hbz : ¬ (1000 : Int) < (l.length : Int) := by omega
 have HF : Hid (checkN C l = FF (zN C l) l.length) := Lr (by simp [checkN, hbig]); generalize checkN C l = F at HF ⊢; have HW := Lr hw; have HEL := Lr hel; have HFN := Lr hf; clear hf; clear hw hel
 go_enter Tryz.func47, Tryz.ntmps47
 go_wp2
 go_loopg [5, 6, 12] l.length (fun gg s5 s6 s12 wr => ∃ kk : Nat, kk ≤ l.length ∧ l.length - kk ≤ gg ∧ s12 = .int .i64 kk ∧ Aside (Below w.heap.size w wr) ∧ Aside (∀ j, j < kk → zN C l j = 0))
 case atStart => exact ⟨0, Nat.zero_le _, by omega, rfl, LD _ w, fun j hj => absurd hj (Nat.not_lt_zero _)⟩
 case round =>
  obtain ⟨kk, hkk, hg, rfl, BW, A⟩ := hrel; by_cases hlt : kk < l.length
  ·have hltz : (kk : Int) < (l.length : Int) := by omega
   obtain ⟨x, hx⟩ : ∃ x, l[kk]? = some x := ⟨l[kk], by simp [hlt]⟩
   obtain ⟨p, hp⟩ : ∃ x, l[kk - 1]? = some x := ⟨l[kk - 1]'(by omega), by simp⟩
   obtain ⟨b, off, hao, hc⟩ := HEL.out kk x hx; subst hao; obtain ⟨b', off', hao', hc'⟩ := HEL.out (kk - 1) p hp; simp only [Option.some.injEq, Addr.mk.injEq, and_true] at hao'
   obtain ⟨rfl, rfl⟩ := hao'; have hlt0 := LC w ⟨b, off + kk * 3 + 0, none⟩ (hc 0 _ rfl); have c0 : wr.cell? ⟨b, off + kk * 3, none⟩ = some (.int .i64 x.ti) := (BW.out.cell (p := ⟨b, off + kk * 3 + 0, none⟩) hlt0).trans (hc 0 _ rfl); have p0 : wr.cell? ⟨b, off + (kk - 1) * 3, none⟩ = some (.int .i64 p.ti) := (BW.out.cell (p := ⟨b, off + (kk - 1) * 3 + 0, none⟩) hlt0).trans (hc' 0 _ rfl); have c1 : wr.cell? ⟨b, off + kk * 3 + 1, none⟩ = some (.string x.ca) := (BW.out.cell (p := ⟨b, off + kk * 3 + 1, none⟩) hlt0).trans (hc 1 _ rfl); have p1 : wr.cell? ⟨b, off + (kk - 1) * 3 + 1, none⟩ = some (.string p.ca) := (BW.out.cell (p := ⟨b, off + (kk - 1) * 3 + 1, none⟩) hlt0).trans (hc' 1 _ rfl); have c2 : wr.cell? ⟨b, off + kk * 3 + 2, none⟩ = some (.string x.ke) := (BW.out.cell (p := ⟨b, off + kk * 3 + 2, none⟩) hlt0).trans (hc 2 _ rfl); have p2 : wr.cell? ⟨b, off + (kk - 1) * 3 + 2, none⟩ = some (.string p.ke) := (BW.out.cell (p := ⟨b, off + (kk - 1) * 3 + 2, none⟩) hlt0).trans (hc' 2 _ rfl); have hbw : b < wr.heap.size := Nat.lt_of_lt_of_le hlt0 BW.out.size; have hsz : x.ke.size ≤ 9223372036854775807 := (HW.out x (List.mem_of_getElem? hx)).2; have hsn : x.ca.size ≤ 9223372036854775807 := (HW.out x (List.mem_of_getElem? hx)).1; have eg : ∀ args w, (callFunc 48 args).run Tryz.prog w = .ok (.enter 48 args) w := enters_of Tryz.func48 (by kernel_rfl) rfl
   have hnm := HFN.out x.ca (wr.alloc (.cells #[.int .i64 x.ti, .string x.ca, .string x.ke] 37)) (BW.out.alloc BW.out.size _); have hin := iG x.ke; have hszw := BW.out.size; have hat : Hid (zN C l kk = oL x p kk (iw C x.ca)) := Lr (by rw [zN, bi hx, bi hp]); have hS : Hid (∀ z, oL x p kk (iw C x.ca) = z → z ≠ 0 → z = F) := Lr (fun z h hz => by
    rw [HF.out, iM hlt A.out (by rw [hat.out, h]; exact hz), hat.out, h])
   have hC0 : Hid (oL x p kk (iw C x.ca) = if (aN x.ti 0 1000000000000) = true then 1 else if (!iw C x.ca) = true then 5 else if (!dG x.ke) = true then 3 else if (tK x p kk) = true then 8 else 0) := Lr rfl; clear hx hp hc hc'; have HB0 := Lr (BW.out.alloc hszw (.cells #[.int .i64 x.ti, .string x.ca, .string x.ke] 37))
   go_upto_region 6 with (fail)
   go_cut [17] (fun s w4 => s = .bool (aN x.ti 0 1000000000000) ∧ w4 = (wr.alloc (.cells #[.int .i64 x.ti, .string x.ca, .string x.ke] 37)))
   case first =>
    cases o0 : aN x.ti 0 1000000000000
    all_goals
     go_wp2_with (go_at_call 83; refine (fJ _ _ _ _).mono ?_; rintro e w' ⟨rfl, rfl⟩)
     go_meet
     exact ⟨by simp [*], rfl⟩
   obtain ⟨rfl, rfl⟩ := hcut; generalize hO : (aN x.ti 0 1000000000000) = O at hC0 ⊢; clear hO; cases O
   case true =>
    have hv : Hid (1 = F) := Lr (hS.out 1 (by rw [hC0.out]; rfl) (by decide))
    go_wp2
    go_ret
    exact ⟨ah hv.out, HB0.out⟩
   have hC1 : Hid (oL x p kk (iw C x.ca) = if (!iw C x.ca) = true then 5 else if (!dG x.ke) = true then 3 else if (tK x p kk) = true then 8 else 0) := Lr (by rw [hC0.out]; rfl); clear hC0
   go_upto_region 8 with (fail)
   go_cut [21] (fun s w4 => s = .bool (!iw C x.ca) ∧ ∃ w5, w5 = w4 ∧ Below (wr.alloc (.cells #[.int .i64 x.ti, .string x.ca, .string x.ke] 37)).heap.size (wr.alloc (.cells #[.int .i64 x.ti, .string x.ca, .string x.ke] 37)) w5)
   case first =>
    go_wp2_with (go_at_fn 48; refine hnm.mono ?_; rintro e w' ⟨rfl, hb'⟩)
    go_meet
    exact ⟨by simp, _, rfl, hb'⟩
   obtain ⟨rfl, w5, rfl, hb5⟩ := hcut; have hAl : wr.heap.size < (wr.alloc (.cells #[.int .i64 x.ti, .string x.ca, .string x.ke] 37)).heap.size := by simp
   have hnb := (hb5.block _ hAl).trans (ag wr (.cells #[.int .i64 x.ti, .string x.ca, .string x.ke] 37)); have k0 : w5.cell? ⟨wr.heap.size, 0, none⟩ = some (.int .i64 x.ti) := af hnb 0 rfl; have k2 : w5.cell? ⟨wr.heap.size, 2, none⟩ = some (.string x.ke) := af hnb 2 rfl; have p0' : w5.cell? ⟨b, off + (kk - 1) * 3, none⟩ = some (.int .i64 p.ti) := (hb5.cell (p := ⟨b, off + (kk - 1) * 3, none⟩) (by show b < _; omega)).trans (((LD wr.heap.size wr).alloc (Ls _) _).cell (p := ⟨b, off + (kk - 1) * 3, none⟩) hbw |>.trans p0); have HB5 := Lr (HB0.out.trans (hb5.mono (by omega))); clear HB0 hnb hnm c0 c1 c2 p0 p1 p2; generalize hO : (!iw C x.ca) = O at hC1 ⊢; clear hO; cases O
   case true =>
    have hv : Hid (5 = F) := Lr (hS.out 5 (by rw [hC1.out]; rfl) (by decide))
    go_wp2
    go_ret
    exact ⟨ah hv.out, HB5.out⟩
   have hC2 : Hid (oL x p kk (iw C x.ca) = if (!dG x.ke) = true then 3 else if (tK x p kk) = true then 8 else 0) := Lr (by rw [hC1.out]; rfl); clear hC1
   go_upto_region 10 with (fail)
   go_cut [27] (fun s w4 => s = .bool (!dG x.ke) ∧ w5 = w4)
   case first =>
    go_wp2_with (go_at_call 51; refine (hin _ hsz).mono ?_; rintro e w' ⟨rfl, rfl⟩)
    go_meet
    exact ⟨by simp, rfl⟩
   obtain ⟨rfl, rfl⟩ := hcut; generalize hO : (!dG x.ke) = O at hC2 ⊢; clear hO; cases O
   case true =>
    have hv : Hid (3 = F) := Lr (hS.out 3 (by rw [hC2.out]; rfl) (by decide))
    go_wp2
    go_ret
    exact ⟨ah hv.out, HB5.out⟩
   have hC3 : Hid (oL x p kk (iw C x.ca) = if (tK x p kk) = true then 8 else 0) := Lr (by rw [hC2.out]; rfl); clear hC2
   go_upto_region 12 with (fail)
   have hor : Hid ((tK x p kk) = (decide (0 < kk) && decide (x.ti < p.ti))) := Lr rfl; generalize hOG : (tK x p kk) = OG at hor hC3 ⊢; have HOG := Lr hOG; clear hOG
   go_cut [32] (fun s w4 => s = .bool OG ∧ ∃ n, w4 = w5.drewN n)
   case first =>
    by_cases hk0 : kk = 0
    ·have hz : decide ((0 : Int) < (kk : Int)) = false := decide_eq_false (by omega); have hz' : ¬ (0 : Int) < (kk : Int) := by omega
     have hz2 : decide (0 < kk) = false := decide_eq_false (by omega); have hv : Hid (OG = false) := Lr (by rw [hor.out, hz2]; rfl); clear hk0
     go_quiet (fail)
     go_wp2
     go_meet
     exact ⟨by rw [hv.out], _, rfl⟩
    ·have hz : decide ((0 : Int) < (kk : Int)) = true := decide_eq_true (by omega); have hz2 : decide (0 < kk) = true := decide_eq_true (by omega); have ez2 : ((kk : Int) - 1).toNat = kk - 1 := by omega
     have hm1 : (kk : Int) - 1 < (l.length : Int) := by omega
     have hm2 : (0 : Int) ≤ (kk : Int) - 1 := by omega
     have hm3 : (1 : Int) ≤ (kk : Int) := by omega
     have hm4 : 0 < kk := by omega
     have hwk : IntKind.i64.wrap ((kk : Int) - 1) = (kk : Int) - 1 := IntWalk.i64_in _ (by omega); clear hk0; have hv : Hid (OG = (decide (x.ti < p.ti))) := Lr (by rw [hor.out, hz2]; rfl)
     go_quiet (fail)
     go_wp2
     go_meet
     exact ⟨by rw [hv.out], _, rfl⟩
   obtain ⟨rfl, nq, rfl⟩ := hcut; rw [HOG.out.symm] at hC3; have HBn := Lr (below_drewN HB5.out nq); rw [HOG.out.symm]; clear hor HOG; generalize hO : (tK x p kk) = O at hC3 ⊢; clear hO; cases O
   case true =>
    have hv : Hid (8 = F) := Lr (hS.out 8 (by rw [hC3.out]; rfl) (by decide))
    go_wp2
    go_ret
    exact ⟨ah hv.out, HBn.out⟩
   have hC4 : Hid (oL x p kk (iw C x.ca) = 0) := Lr (by rw [hC3.out]; rfl); clear hC3; have hz : Hid (zN C l kk = 0) := Lr (by rw [hat.out, hC4.out])
   go_wp2
   go_roundg (l.length - (kk + 1))
   case measure => omega
   case rel =>
    refine ⟨kk + 1, by omega, by omega, by go_num, HBn.out, (show Aside _ from fun j hj => ?_)⟩; by_cases e : j = kk
    ·rw [e, hz.out]
    ·exact A.out j (by omega)
  ·obtain rfl : kk = l.length := by omega
   have hltz : ¬ (l.length : Int) < (l.length : Int) := by omega
   have hz : Hid (0 = F) := Lr (by rw [HF.out, eF A.out])
   go_wp2
   go_ret
   exact ⟨ah hz.out, BW.out⟩
theorem GI (n : ByteArray) (y : Cch) (B : Nat) (W : World) (hc : W.cell? ⟨B, 0, none⟩ = some (.string n)) :
 Calls Tryz.prog 50 #[.agg #[.string y.na, .string y.pa, .int .i64 y.de, .int .i64 y.ro], .pointer (some ⟨B, 0, none⟩)] W fun e w' => e = .returned (.bool (isC y n)) ∧ Below W.heap.size W w' := by
 have hlt := LC W _ hc; have hv : Hid ((y.na.toList == n.toList) = isC y n) := Lr rfl
 go_enter Tryz.func50, Tryz.ntmps50
 go_wp2
 go_ret
 exact ⟨az hv.out, (LD _ _).alloc (Ls _) _⟩
theorem Cb (w : World) (C : List Cch) (vc : Value) (bx : Nat) (n : ByteArray) (hC : Sl w 4 su vc C) (h0 : w.cell? ⟨bx, 0, none⟩ = some vc) :
 Calls Tryz.prog 48 #[.string n, .pointer (some ⟨bx, 0, none⟩)] w fun e w' => e = .returned (.bool (iw C n)) ∧ Below w.heap.size w w' := by
 obtain ⟨T, hT⟩ : ∃ T, T = iw C n := ⟨_, rfl⟩
 obtain ⟨w2, hw2⟩ : ∃ w2, w2 = w.alloc (.cells #[.string n] 9) := ⟨_, rfl⟩
 have hb2 : Below w.heap.size w w2 := by rw [hw2]; exact (LD _ w).alloc (Ls _) _
 have hnb : w2.heap[w.heap.size]? = some (.cells #[.string n] 9 (0, 0)) := by rw [hw2]; exact ag w _
 have HID : Hid (Calls Tryz.prog 49 #[vc, .func (.func 50) #[] #[.pointer (some ⟨w.heap.size, 0, none⟩)]] w2 fun e w' => e = .returned (.bool T) ∧ Below w2.heap.size w2 w') := Lr (by
  rw [hT]; refine KH 50 _ (fun o => isC o n) w2 C _ (hC.below hb2 (Ls _)) (enters_of Tryz.func50 (by kernel_rfl) rfl) (fun W' y _ hb => ?_); refine GI n y w.heap.size W' ?_; rw [hb.cell (p := ⟨w.heap.size, 0, none⟩) (Array.getElem?_eq_some_iff.1 hnb).1]; exact af hnb 0 rfl)
 have q0 : w2.cell? ⟨bx, 0, none⟩ = some vc := (hb2.cell (p := ⟨bx, 0, none⟩) (LC w _ h0)).trans h0; have HW2 := Lr hw2; have HB2 := Lr hb2; rw [← hT]; clear hw2 hb2 hnb hC h0 hT
 go_enter Tryz.func48, Tryz.ntmps48
 go_upto_region 1 with (fail)
 rw [← HW2.out]
 go_wp2_with fail
 refine HID.out.mono ?_; rintro e w3 ⟨rfl, hb3⟩; have HB3 := Lr (HB2.out.bf hb3); clear hb3
 go_wp2_with fail
 go_ret
 exact ⟨rfl, HB3.out⟩
theorem rq (w : World) (C : List Cch) (R : List Crl) (E : List Rel) (P : List Pur) (L : List Gt) (vc vr ve vp vl : Value) (hc : Sl w 4 su vc C) (hr : Sl w 4 xU vr R) (he : Sl w 4 zn ve E) (hp : Sl w 2 xW vp P) (hl : Sl w 3 F5 vl L) (hwc : ∀ x, x ∈ C → WfC x) (hwr : ∀ x, x ∈ R → WfU x) (hwe : ∀ x, x ∈ E → WfL x) (hwp : ∀ x, x ∈ P → WfG x) (hwl : ∀ x, x ∈ L → WfT x) :
 Calls Tryz.prog 30 #[.agg #[vc, vr, ve, vp], vl] w fun e w' => e = .returned (.int .i64 (bY C R E P L)) ∧ Below w.heap.size w w' := by
 obtain ⟨w2, hw2⟩ : ∃ w2, w2 = w.alloc (.cells #[vc, vr, ve, vp] 27) := ⟨_, rfl⟩
 have hb2 : Below w.heap.size w w2 := by rw [hw2]; exact (LD _ w).alloc (Ls _) _
 have hnb : w2.heap[w.heap.size]? = some (.cells #[vc, vr, ve, vp] 27 (0, 0)) := by rw [hw2]; exact ag w _
 have q0 : w2.cell? ⟨w.heap.size, 0, none⟩ = some vc := af hnb 0 rfl; have q1 : w2.cell? ⟨w.heap.size, 1, none⟩ = some vr := af hnb 1 rfl; have q2 : w2.cell? ⟨w.heap.size, 2, none⟩ = some ve := af hnb 2 rfl; have q3 : w2.cell? ⟨w.heap.size, 3, none⟩ = some vp := af hnb 3 rfl; have hlt : w.heap.size < w2.heap.size := (Array.getElem?_eq_some_iff.1 hnb).1; have hD := zy w2 C R E P vc vr ve vp (hc.below hb2 (Ls _)) (hr.below hb2 (Ls _)) (he.below hb2 (Ls _)) (hp.below hb2 (Ls _)) hwc hwr hwe hwp; have HN : Hid (∀ W, Below w2.heap.size w2 W → Calls Tryz.prog 47 #[vl, .func (.func 48) #[] #[.pointer (some ⟨w.heap.size, 0, none⟩)]] W fun e w' => e = .returned (.int .i64 (checkN C L)) ∧ Below W.heap.size W w') := Lr fun W hW => oZ W C w.heap.size L vl (hl.below (hb2.trans (hW.mono (by omega))) (Ls _)) hwl (fun n W' hW' => Cb W' C vc w.heap.size n (hc.below ((hb2.trans (hW.mono (by omega))).trans (hW'.mono (by have := hW.size; omega))) (Ls _)) (by
  rw [hW'.cell (p := ⟨w.heap.size, 0, none⟩) (by have := hW.size; show w.heap.size < _; omega), hW.cell (p := ⟨w.heap.size, 0, none⟩) hlt]; exact q0))
 have HV : Hid (bY C R E P L = if eU C R E P ≠ 0 then eU C R E P else checkN C L) := Lr rfl; generalize bY C R E P L = S at HV ⊢; generalize checkN C L = N at HN HV; generalize eU C R E P = D at hD HV; have HD := Lr hD; have HW2 := Lr hw2; have HB2 := Lr hb2; clear hw2 hb2 hnb hc hr he hp hl hD hlt
 go_enter Tryz.func30, Tryz.ntmps30
 go_upto_region 1 with (fail)
 rw [← HW2.out]
 go_wp2_with (go_at_call 46; (with_reducible refine HD.out.mono ?_); rintro e w3 ⟨rfl, hb3⟩; have HB3 := Lr hb3; clear hb3 q0 q1 q2 q3; by_cases hD0 : D = 0)
 ·have hv : Hid (N = S) := Lr (by rw [HV.out, if_neg (by simp [hD0])]); subst hD0
  go_wp2_with (go_at_call 47; (with_reducible refine (HN.out _ HB3.out).mono ?_); rintro e w4 ⟨rfl, hb4⟩; have HB4 := Lr (HB2.out.bf (HB3.out.bf hb4)); clear hb4)
  go_ret
  exact ⟨ah hv.out, HB4.out⟩
 ·have hv : Hid (D = S) := Lr (by rw [HV.out, if_pos hD0])
  go_wp2_with fail
  go_ret
  exact ⟨ah hv.out, HB2.out.bf HB3.out⟩
theorem IW : (Tryz.prog.info? 35).map (fun i => (i.zero, i.size, i.bytes)) = some (some (.agg #[.int .i64 0, .int .i64 0, .int .i64 0, .string ⟨#[]⟩, .int .i64 0]), 5, 48) := by kernel_rfl
theorem IU : (Tryz.prog.info? 80).map (fun i => (i.zero, i.size, i.bytes)) = some (some (.pointer none), 1, 8) := by kernel_rfl
theorem KP : SlT Tryz.prog 64 80 1 8 := by
 obtain ⟨i0, hi, hz0, hz1, hz2⟩ := info_parts IU; exact ⟨i0, _, Tryz.underlying64, hi, hz0, hz1, hz2, rfl, by decide, by decide⟩
theorem BV (n : Nat) : madeCells #[Value.int .i64 0, .int .i64 0, .int .i64 0, .string ⟨#[]⟩, .int .i64 0] (n * 5) = ((List.replicate n (⟨0, 0, 0, ⟨#[]⟩, 0⟩ : Gtn)).flatMap jF).toArray := by
 apply Array.toList_inj.1; have e : ∀ m, (madeCells #[Value.int .i64 0, .int .i64 0, .int .i64 0, .string ⟨#[]⟩, .int .i64 0] m).toList = (List.range m).map fun j => #[Value.int .i64 0, .int .i64 0, .int .i64 0, .string ⟨#[]⟩, .int .i64 0][j % 5]! := fun m => by
  unfold madeCells; simp
 rw [e]; show _ = (List.replicate n _).flatMap jF
 induction n with
 | zero => rfl
 | succ n ih =>
  rw [List.replicate_succ', List.flatMap_append, ← ih, show (n + 1) * 5 = n * 5 + 1 + 1 + 1 + 1 + 1 by omega]; simp only [List.range_succ, List.map_append, List.append_assoc, List.map_cons, List.map_nil]
  rw [show (n * 5) % 5 = 0 by omega, show (n * 5 + 1) % 5 = 1 by omega, show (n * 5 + 1 + 1) % 5 = 2 by omega, show (n * 5 + 1 + 1 + 1) % 5 = 3 by omega, show (n * 5 + 1 + 1 + 1 + 1) % 5 = 4 by omega]
  rfl
theorem tX (n : Nat) (hn : n ≤ 1000) (w : World) : (Instr.makeSlice 29 (.int .i64 (n : Int)) (.int .i64 (n : Int))).run Tryz.prog w = .ok (.slice (some ⟨w.heap.size, 0, none⟩) n n) (w.alloc (.cells ((List.replicate n (⟨0, 0, 0, ⟨#[]⟩, 0⟩ : Gtn)).flatMap jF).toArray 35)) := by
 obtain ⟨i0, hi0, hz0, hz1, hz2⟩ := info_parts IW; have hr := run_make (P := Tryz.prog) w 29 35 i0 _ Tryz.underlying29 hi0 hz0 .i64 .i64 n n (by omega) (Int.le_refl _) (by rw [hz2]; omega) (by omega); rw [hr, hz1]; simp only [Int.toNat_natCast]
 rw [← BV]
 rfl
structure Jn (w W : World) (d0 d1 d2 d3 : Value) (many : Nat) : Prop where
 bel : Below w.heap.size w W
 size : W.heap.size = w.heap.size + 3
 box : W.heap[w.heap.size]? = some (.cells #[d0, d1, d2, d3] 27 (0, 0))
 got : W.heap[w.heap.size + 1]? = some (.cells ((List.replicate many (⟨0, 0, 0, ⟨#[]⟩, 0⟩ : Gtn)).flatMap jF).toArray 35 (0, 0))
 wld : W.heap[w.heap.size + 2]? = some (.cells #[d0, d1, d2, d3, .slice none 0 0, .slice none 0 0, .int .i64 0, .slice (some ⟨w.heap.size + 1, 0, none⟩) many many, .int .i64 0] 68 (0, 0))
theorem Jn.made {w : World} {d0 d1 d2 d3 : Value} {many : Nat} : Jn w (((w.alloc (Obj.cells #[d0, d1, d2, d3] 27)).alloc (Obj.cells ((List.replicate many (⟨0, 0, 0, ⟨#[]⟩, 0⟩ : Gtn)).flatMap jF).toArray 35)).alloc (Obj.cells #[d0, d1, d2, d3, .slice none 0 0, .slice none 0 0, .int .i64 0, .slice (some ⟨w.heap.size + 1, 0, none⟩) many many, .int .i64 0] 68)).drew d0 d1 d2 d3 many := by
 refine ⟨((((LD _ w).alloc (Ls _) _).alloc (by simp) _).alloc (by simp; omega) _).drew, by simp, ?_, ?_, ?_⟩
 ·show (((w.alloc _).alloc _).alloc _).heap[w.heap.size]? = _
  rw [Below.heap_alloc _ _ _ (by simp; omega), Below.heap_alloc _ _ _ (by simp)]; exact ag w _
 ·show (((w.alloc _).alloc _).alloc _).heap[w.heap.size + 1]? = _
  rw [Below.heap_alloc _ _ _ (by simp)]; have h := ag (w.alloc (Obj.cells #[d0, d1, d2, d3] 27)) (Obj.cells ((List.replicate many (⟨0, 0, 0, ⟨#[]⟩, 0⟩ : Gtn)).flatMap jF).toArray 35)
  simpa using h
 ·show (((w.alloc _).alloc _).alloc _).heap[w.heap.size + 2]? = _
  have h := ag ((w.alloc (Obj.cells #[d0, d1, d2, d3] 27)).alloc (Obj.cells ((List.replicate many (⟨0, 0, 0, ⟨#[]⟩, 0⟩ : Gtn)).flatMap jF).toArray 35)) (Obj.cells #[d0, d1, d2, d3, .slice none 0 0, .slice none 0 0, .int .i64 0, .slice (some ⟨w.heap.size + 1, 0, none⟩) many many, .int .i64 0] 68)
  simpa using h
structure Kt (w W : World) (C : List Cch) (d0 d1 d2 d3 : Value) (many i : Nat) : Prop where
 ex : ∃ A, PD W w.heap.size A (xY ((C.take i).map (gK C)) many) ∧ A.q = w.heap.size + 2 ∧ A.d0 = d0 ∧ A.d1 = d1 ∧ A.d2 = d2 ∧ A.d3 = d3 ∧ A.x = [] ∧ df w.heap.size A.sv
 bel : Below w.heap.size w W
 box : W.heap[w.heap.size]? = some (.cells #[d0, d1, d2, d3] 27 (0, 0))
theorem lH (w : World) (C : List Cch) (d0 d1 d2 d3 : Value) (many : Nat) (hC : Sl w 4 su d0 C) (hm : many ≤ 1000) (hc : C.length ≤ 1000) :
 Calls Tryz.prog 37 #[.agg #[d0, d1, d2, d3], .int .i64 (many : Nat)] w fun e w' => ∃ A, e = .returned (.pointer (some ⟨A.q, 0, none⟩)) ∧ PD w' w.heap.size A (xY (C.map (gK C)) many) ∧ A.d0 = d0 ∧ A.d1 = d1 ∧ A.d2 = d2 ∧ A.d3 = d3 ∧ Below w.heap.size w w' := by
 have hmk := tX many hm
 go_enter Tryz.func37, Tryz.ntmps37
 go_upto_region 1 with (fail)
 go_cut [5] (fun s5 W => s5 = .pointer (some ⟨w.heap.size + 2, 0, none⟩) ∧ Aside (Jn w W d0 d1 d2 d3 many))
 case first =>
  go_region_law (fail)
  all_goals go_wp2
  all_goals go_meet
  all_goals exact ⟨by simp, (show Aside _ from Jn.made)⟩
 obtain ⟨rfl, NS⟩ := hcut; obtain ⟨w1, rfl⟩ : ∃ W : World, W = wc := ⟨_, rfl⟩
 have HNS := Lr NS.out; clear NS hmk; obtain ⟨ao, cap, rfl, hcap, hmax, hnil, hel⟩ := hC; have HCC := Lr hel; have HC0 : Hid (Sl w 4 su (.slice ao C.length cap) C) := Lr ⟨ao, cap, rfl, hcap, hmax, hnil, hel⟩; obtain ⟨A0, hp0, ha0⟩ := PD.start (W := w1) (B := w.heap.size) (q := w.heap.size + 2) (g := w.heap.size + 1) (many := many) (by have := HNS.out.size; omega) ⟨by omega, HNS.out.wld⟩ ⟨by omega, HNS.out.got⟩ (by omega) hm; have b0 : w1.cell? ⟨w.heap.size, 0, none⟩ = some (.slice ao C.length cap) := af HNS.out.box 0 rfl; have HL0 : Hid (Kt w w1 C (.slice ao C.length cap) d1 d2 d3 many 0) := Lr ⟨⟨A0, by simpa using hp0, ha0.1, ha0.2.1, ha0.2.2.1, ha0.2.2.2.1, ha0.2.2.2.2.1, ha0.2.2.2.2.2.1, by rw [ha0.2.2.2.2.2.2]; exact df.nil _⟩, HNS.out.bel, HNS.out.box⟩; unfold maxLen at hmax; clear hel hnil hp0 ha0
 go_wp2_with fail
 clear b0
 go_loopg [7, 8, 17] C.length (fun gg s7 s8 s17 wr => ∃ i : Nat, i ≤ C.length ∧ C.length - i ≤ gg ∧ s17 = .int .i64 i ∧ Aside (Kt w wr C (.slice ao C.length cap) d1 d2 d3 many i))
 case atStart => exact ⟨0, Nat.zero_le _, by omega, rfl, (show Aside _ from HL0.out)⟩
 case round =>
  obtain ⟨wq, rfl⟩ : ∃ wq : World, wq = wr := ⟨_, rfl⟩
  obtain ⟨i, hi, hgi, rfl, NL⟩ := hrel; by_cases hil : i < C.length
  ·have hiz : (i : Int) < (C.length : Int) := by omega
   obtain ⟨c, hc0⟩ : ∃ c, C[i]? = some c := ⟨C[i], by simp [hil]⟩
   obtain ⟨b, off, rfl, hcc⟩ := HCC.out i c hc0; have hbl := NL.out.bel; have p0 : w.cell? ⟨b, off + i * 4, none⟩ = some (.string c.na) := hcc 0 _ rfl; have p1 : w.cell? ⟨b, off + i * 4 + 1, none⟩ = some (.string c.pa) := hcc 1 _ rfl; have p2 : w.cell? ⟨b, off + i * 4 + 2, none⟩ = some (.int .i64 c.de) := hcc 2 _ rfl; have p3 : w.cell? ⟨b, off + i * 4 + 3, none⟩ = some (.int .i64 c.ro) := hcc 3 _ rfl; have c0 := (hbl.cell (p := ⟨b, off + i * 4, none⟩) (LC w _ p0)).trans p0; have c1 := (hbl.cell (p := ⟨b, off + i * 4 + 1, none⟩) (LC w _ p1)).trans p1; have c2 := (hbl.cell (p := ⟨b, off + i * 4 + 2, none⟩) (LC w _ p2)).trans p2; have c3 := (hbl.cell (p := ⟨b, off + i * 4 + 3, none⟩) (LC w _ p3)).trans p3; obtain ⟨A, hp, hq, e0, e1, e2, e3, ex, eo⟩ := NL.out.ex; obtain ⟨w7, hw7⟩ : ∃ w7, w7 = wq.alloc (.cells #[.string c.na, .string c.pa, .int .i64 c.de, .int .i64 c.ro] 47) := ⟨_, rfl⟩
   have hb7 : Below wq.heap.size wq w7 := by rw [hw7]; exact (LD _ wq).alloc (Ls _) _
   have hk7 : w7.heap[wq.heap.size]? = some (.cells #[.string c.na, .string c.pa, .int .i64 c.de, .int .i64 c.ro] 47 (0, 0)) := by rw [hw7]; exact ag wq _
   have hbx : w7.heap[w.heap.size]? = some (.cells #[.slice (some ⟨b, off, none⟩) C.length cap, d1, d2, d3] 27 (0, 0)) := (hb7.block _ (Array.getElem?_eq_some_iff.1 NL.out.box).1).trans NL.out.box; have hBW7 : Below w.heap.size w w7 := hbl.trans (hb7.mono (by have := hbl.size; omega)); have HIX := Lr (JW 67 #[.pointer (some ⟨wq.heap.size, 0, none⟩)] (fun o => isC o c.pa) w7 C (.slice (some ⟨b, off, none⟩) C.length cap) (HC0.out.below hBW7 (Ls _)) (enters_of Tryz.func67 (by kernel_rfl) rfl) (fun W y _ hb => JL c y wq.heap.size W (by
    rw [hb.cell (p := ⟨wq.heap.size, 1, none⟩) (Array.getElem?_eq_some_iff.1 hk7).1]; exact af hk7 1 rfl)))
   have HBW7 := Lr hBW7; have HP7 := Lr (hp.below hb7); have HBX := Lr hbx; have HK7 := Lr hk7; have HW7 := Lr hw7; have HC := Lr hc0; have HA := Lr (show A.q = w.heap.size + 2 ∧ A.d0 = .slice (some ⟨b, off, none⟩) C.length cap ∧ A.d1 = d1 ∧ A.d2 = d2 ∧ A.d3 = d3 ∧ A.x = [] ∧ df w.heap.size A.sv from ⟨hq, e0, e1, e2, e3, ex, eo⟩); have HGI := Lr hgi; have HIL := Lr hil; have b0 : w7.cell? ⟨w.heap.size, 0, none⟩ = some (.slice (some ⟨b, off, none⟩) C.length cap) := af hbx 0 rfl; clear hcc p0 p1 p2 p3 hbl hp hq e0 e1 e2 e3 ex eo hw7 hb7 hk7 hbx hBW7 hc0 NL hgi HL0
   go_upto_region 5 with (fail)
   rw [← HW7.out]; clear c0 c1 c2 c3
   go_wp2_with fail
   refine HIX.out.mono ?_; rintro e w8 ⟨rfl, hb8⟩; clear b0; have hp8 := HP7.out.below hb8; have hk8 := (hb8.block _ (Array.getElem?_eq_some_iff.1 HK7.out).1).trans HK7.out; have hbx8 := (hb8.block _ (Array.getElem?_eq_some_iff.1 HBX.out).1).trans HBX.out; have y0 := af hk8 0 (v := .string c.na) rfl; have y1 := af hk8 1 (v := .string c.pa) rfl; have y2 := af hk8 2 (v := .int .i64 c.de) rfl; have y3 := af hk8 3 (v := .int .i64 c.ro) rfl; have l7 : wq.heap.size < w8.heap.size := (Array.getElem?_eq_some_iff.1 hk8).1; have hqb := hp8.qb.2; rw [HA.out.1] at hqb; have lq : w.heap.size + 2 < w8.heap.size := (Array.getElem?_eq_some_iff.1 hqb).1; have lq0 : w.heap.size < w8.heap.size := by omega
   have lq1 : w.heap.size + 1 < w8.heap.size := by omega
   obtain ⟨sv, hsv⟩ : ∃ v, v = A.sv := ⟨_, rfl⟩
   have q4 : w8.cell? ⟨w.heap.size + 2, 4, none⟩ = some sv := by rw [hsv]; exact af hqb 4 rfl
   have ho8 := hp8.stores; have hof := hp8.JD; rw [← hsv] at ho8 hof; rw [HA.out.1] at hof; obtain ⟨so, sn, sc, rfl⟩ := Own.slv (bH A.sb) ho8; obtain ⟨pr, hpr⟩ : ∃ p, p = fC C c.pa := ⟨_, rfl⟩
   rw [show iI (fun o => isC o c.pa) C = pr from hpr.symm]; obtain ⟨N8, hN8⟩ : ∃ N, N = w8.heap.size := ⟨_, rfl⟩
   obtain ⟨W3, hW3⟩ : ∃ W3, W3 = ((w8.drew.alloc (.map #[] 0)).alloc (.cells #[.string c.na, .string c.pa, .int .i64 c.de, .int .i64 c.ro, .int .i64 pr, .map (some w8.heap.size), .slice none 0 0, .int .i64 0, .int .i64 0, .int .i64 0, .int .i64 0, .int .i64 0, .int .i64 0] 84)).alloc (.cells #[.pointer (some ⟨w8.heap.size + 1, 0, none⟩)] 80) := ⟨_, rfl⟩
   have hb3 : Below w8.heap.size w8 W3 := by rw [hW3]; exact ((((LD _ w8).drew).alloc (Ls _) _).alloc (by simp) _).alloc (by simp; omega) _
   have hlen8 : (xY ((C.take i).map (gK C)) many).st.length = i := by show ((C.take i).map _).length = i; simp; omega
   have hO3 : Own W3 w.heap.size 80 1 (oH (upF A.sb i (w8.heap.size + 1))) (.slice so sn sc) (List.range i) := by
    have h := Own.below ho8 hb3 (Ls _); rw [hlen8] at h; have e : (List.range i).flatMap (oH A.sb) = (List.range i).flatMap (oH (upF A.sb i (w8.heap.size + 1))) := xN fun j hj => by
     unfold oH; rw [aS _ _ (by have := List.mem_range.1 hj; omega)]
    unfold Own at h ⊢; rw [← e]; exact h
   have hA3 : W3.heap[w8.heap.size + 2]? = some (.cells (oH (upF A.sb i (w8.heap.size + 1)) i).toArray 80 (0, 0)) := by
    rw [hW3]; have h := ag ((w8.drew.alloc (.map #[] 0)).alloc (.cells #[.string c.na, .string c.pa, .int .i64 c.de, .int .i64 c.ro, .int .i64 pr, .map (some w8.heap.size), .slice none 0 0, .int .i64 0, .int .i64 0, .int .i64 0, .int .i64 0, .int .i64 0, .int .i64 0] 84)) (.cells #[.pointer (some ⟨w8.heap.size + 1, 0, none⟩)] 80 (0, 0)); unfold oH; rw [aZ]
    simpa using h
   have hm3 : W3.heap[w8.heap.size]? = some (.map #[] 0) := by
    rw [hW3, Below.heap_alloc _ _ _ (by simp; omega), Below.heap_alloc _ _ _ (by simp)]; exact ag w8.drew _
   have hs3 : W3.heap[w8.heap.size + 1]? = some (.cells #[.string c.na, .string c.pa, .int .i64 c.de, .int .i64 c.ro, .int .i64 pr, .map (some w8.heap.size), .slice none 0 0, .int .i64 0, .int .i64 0, .int .i64 0, .int .i64 0, .int .i64 0, .int .i64 0] 84 (0, 0)) := by
    rw [hW3, Below.heap_alloc _ _ _ (by simp)]; have h := ag (w8.drew.alloc (.map #[] 0)) (.cells #[.string c.na, .string c.pa, .int .i64 c.de, .int .i64 c.ro, .int .i64 pr, .map (some w8.heap.size), .slice none 0 0, .int .i64 0, .int .i64 0, .int .i64 0, .int .i64 0, .int .i64 0, .int .i64 0] 84 (0, 0))
    simpa using h
   have HO3 := Lr hO3; have HA3 := Lr hA3; have HNL : Hid ((List.range i).length * 8 ≤ 140737488355328) := Lr (by simp; omega); have HBS : Hid (w.heap.size ≤ W3.heap.size) := Lr (by have := hb3.size; omega); have HQB : Hid (∀ (W : World) (v5 : Value), dm W3 W (.slice so sn sc) v5 → W.cell? ⟨w.heap.size + 2, 4, none⟩ = some (.slice so sn sc) ∧ W.frozen? ⟨w.heap.size + 2, 4, none⟩ = false) := Lr fun W v5 hk => by
    have h5 := ((hk (w.heap.size + 2) (Nat.lt_of_lt_of_le lq hb3.size) hof).1.trans (hb3.block _ lq)).trans hqb; exact ⟨by rw [hsv]; exact af h5 4 rfl, cO h5 4⟩
   have HFI : Hid (∀ (W : World) (v5 : Value), Own W w.heap.size 80 1 (oH (upF A.sb i (w8.heap.size + 1))) v5 (List.range i ++ [i]) → Below w.heap.size W3 W → dm W3 W (.slice so sn sc) v5 → Kt w (W.setCell ⟨w.heap.size + 2, 4, none⟩ v5) C (.slice (some ⟨b, off, none⟩) C.length cap) d1 d2 d3 many (i + 1)) := Lr fun W v5 ho hb hk => by
    have hadd := hp8.Ko HA.out.2.2.2.2.2.1 (gK C c) rfl rfl hb3 (mb := w8.heap.size) (sb := w8.heap.size + 1) (mo := .map #[] 0) ⟨rfl, hm3, Gl.of (gy.made w8.drew _) (ag w8.drew _)⟩ ⟨rfl, by show _ = some (Obj.cells #[.string c.na, .string c.pa, .int .i64 c.de, .int .i64 c.ro, .int .i64 (fC C c.pa), _, _, _, _, _, _, _, _] _ _); rw [← hpr]; exact hs3⟩ (W5 := W) (v5 := v5) (by rw [hlen8, List.range_succ]; exact ho) hb.size (by rw [← hsv]; exact hk); obtain ⟨A', g1, g2, g3, g4, g5, g6, g7, g8⟩ := hadd; rw [HA.out.1] at g1 g2; refine ⟨⟨A', ?_, g2, g3.trans HA.out.2.1, g4.trans HA.out.2.2.1, g5.trans HA.out.2.2.2.1, g6.trans HA.out.2.2.2.2.1, g7, ?_⟩, ?_, ?_⟩
    ·have e : xY ((C.take (i + 1)).map (gK C)) many = { xY ((C.take i).map (gK C)) many with st := (xY ((C.take i).map (gK C)) many).st ++ [gK C c] } := by
      rw [List.take_add_one, HC.out, List.map_append]
      rfl
     rw [e]; exact g1
    ·rw [g8]; exact (hk w.heap.size (by have := hb3.size; have := lq; omega) (by rw [hsv]; exact HA.out.2.2.2.2.2.2)).2
    ·exact ((HBW7.out.trans (hb8.mono (by have := HBW7.out.size; omega))).trans ((hb3.mono (by have := lq; omega)).trans hb)).setCell (by show w.heap.size ≤ w.heap.size + 2; omega) _
    ·rw [Below.heap_setCell _ _ _ _ (by show w.heap.size ≠ w.heap.size + 2; omega)]; exact ((hk w.heap.size (by have := hb3.size; have := lq; omega) (by rw [hsv]; exact HA.out.2.2.2.2.2.2)).1.trans (hb3.block _ (by have := lq; omega))).trans hbx8
   have HW3 := Lr hW3; have hmm := @run_makeMap Tryz.prog; clear hp8 hk8 hbx8 hqb hsv ho8 hof hpr hN8 hb3 hlen8 hO3 hA3 hm3 hs3 hb8; rw [hW3] at HO3 HA3 HBS HQB HFI; clear hW3 HW3
   go_upto_region 6 with (fail)
   go_region_law (first | (refine aW (enc := oH (upF A.sb i (w8.heap.size + 1))) (v := .slice so sn sc) (l := List.range i) rfl _ _ 64 rfl KP (by decide) rfl rfl i rfl rfl HO3.out HA3.out HNL.out HBS.out ?_; intro v5 w5 ho5 hb5 hk5; obtain ⟨z4, f4⟩ := HQB.out _ _ hk5; obtain ⟨so5, sn5, sc5, rfl⟩ := Own.slv (bH _) ho5; have HFN := Lr (HFI.out _ _ ho5 hb5 hk5); clear ho5 hb5 hk5) | fail)
   all_goals clear y0 y1 y2 y3 q4 hmm z4 f4
   all_goals go_wp2_with fail
   all_goals go_roundg (C.length - (i + 1))
   all_goals first
    | (have := HGI.out; have := HIL.out; omega)
    | exact ⟨i + 1, by have := HIL.out; omega, by omega, by go_num, (show Aside _ from HFN.out)⟩
  ·obtain rfl : i = C.length := by omega
   obtain ⟨A, hp, hq, e0, e1, e2, e3, ex, eo⟩ := NL.out.ex; rw [List.take_length] at hp; have HP := Lr hp; have HB := Lr NL.out.bel; have HA := Lr (show A.q = w.heap.size + 2 ∧ A.d0 = .slice ao C.length cap ∧ A.d1 = d1 ∧ A.d2 = d2 ∧ A.d3 = d3 from ⟨hq, e0, e1, e2, e3⟩); clear hp hq e0 e1 e2 e3 ex eo NL HL0
   go_wp2_with fail
   go_ret
   exact ⟨A, by rw [HA.out.1]; rfl, HP.out, HA.out.2.1, HA.out.2.2.1, HA.out.2.2.2.1, HA.out.2.2.2.2, HB.out⟩
end Go.Proofs.YtgohddfnhofjhaaGreatDoor

/- kit.First. -/
import Derived.Test.YtehbmnkbmgnkfaaGreatDoorB02
import Derived.Test.YtehbmnkbmgnkfaaGreatDoorB21
import Derived.Deep.RegionHeld3
import Derived.Test.YtehbmnkbmgnkfaaGreatDoorB20
namespace Go.Proofs.YtehbmnkbmgnkfaaGreatDoor
open Go.RowKit

def firstF : List Int → Int
  | [] => 0
  | a :: r => if a ≠ 0 then a else firstF r
theorem firstF_at {l : List Int} : ∀ {k : Nat} {a : Int}, l[k]? = some a → a ≠ 0 → (∀ j x, l[j]? = some x → j < k → x = 0) → firstF l = a := by
  induction l with
  | nil => intro k a h; simp at h
  | cons b r ih =>
    intro k a h ha hz
    cases k with
    | zero => simp at h; subst h; rw [firstF, if_pos ha]
    | succ k =>
      have h0 := hz 0 b rfl (by omega)
      rw [firstF, if_neg (by simp [h0])]
      exact ih (by simpa using h) ha fun j x hx hj => hz (j + 1) x (by simpa using hx) (by omega)
theorem firstF_none {l : List Int} (hz : ∀ (j : Nat) x, l[j]? = some x → x = 0) : firstF l = 0 := by
  induction l with
  | nil => rfl
  | cons b r ih =>
    have h0 := hz 0 b rfl
    rw [firstF, if_neg (by simp [h0])]
    exact ih fun j x hx => hz (j + 1) x (by simpa using hx)

set_option maxHeartbeats 1000000 in
theorem first_any (w : World) (l : List Int) (v : Value) (hl : Sl w 1 encI v l) :
    Calls Tryz.prog 18 #[v] w fun e w' => e = .returned (.int .i64 (firstF l)) ∧ w = w' := by
  obtain ⟨ao, cap, rfl, hcap, hmax, hnil, hel⟩ := hl
  unfold maxLen at hmax
  go_enter Tryz.func18, Tryz.ntmps18
  go_wp2
  go_loop [4, 7] (fun _ s7 => ∃ kk : Nat, kk ≤ l.length ∧ s7 = .int .i64 kk ∧ Aside (∀ j x, l[j]? = some x → j < kk → x = 0)) (fun _ i => l.length - (intOf i).toNat)
  case atStart => exact ⟨0, Nat.zero_le _, rfl, fun j x _ hj => absurd hj (Nat.not_lt_zero _)⟩
  case round =>
    obtain ⟨kk, hkk, rfl, A⟩ := hrel
    by_cases hlt : kk < l.length
    · have hltz : (kk : Int) < (l.length : Int) := by omega
      obtain ⟨x, hx⟩ : ∃ x, l[kk]? = some x := ⟨l[kk], by simp [hlt]⟩
      obtain ⟨b, off, rfl, hc⟩ := hel kk x hx
      have c0 : w.cell? ⟨b, off + kk, none⟩ = some (.int .i64 x) := by simpa using hc 0 _ rfl
      have HX := Lib.hid hx
      clear hx hc hel
      cases e1 : (x != 0)
      case true =>
        have hv : Hid (x = firstF l) := Lib.hid (firstF_at HX.out (by simpa using e1) A.out).symm
        go_wp2
        go_ret
        exact ⟨ret_int hv.out, rfl⟩
      case false =>
        have hz : Hid (x = 0) := Lib.hid (by simpa using e1)
        go_wp2
        go_round
        case rel =>
          refine ⟨kk + 1, by omega, by go_num, (show Aside (∀ j x, l[j]? = some x → j < kk + 1 → x = 0) from fun j y hy hj => ?_)⟩
          by_cases e : j = kk
          · subst e
            have := HX.out.symm.trans hy
            simp only [Option.some.injEq] at this
            rw [← this]; exact hz.out
          · exact A.out j y hy (by omega)
        case measure => simp [intOf]; omega
    · obtain rfl : kk = l.length := by omega
      have hv : Hid (0 = firstF l) := Lib.hid (firstF_none fun j x hx => A.out j x hx (List.getElem?_eq_some_iff.1 hx).1).symm
      clear hel
      go_wp2
      go_ret
      exact ⟨ret_int hv.out, rfl⟩
end Go.Proofs.YtehbmnkbmgnkfaaGreatDoor

/- CheckDelivery of the program. -/
namespace Go.Proofs.YtehbmnkbmgnkfaaGreatDoor
open Go.RowKit

set_option maxRecDepth 100000 in
set_option maxHeartbeats 8000000 in
theorem checkD_any (w : World) (c : List Cch) (r : List Crl) (e : List Rel) (l : List Pur) (vc vr ve vp : Value) (hc : Sl w 4 encC vc c) (hr : Sl w 4 encU vr r) (he : Sl w 4 encL ve e) (hl : Sl w 2 encG vp l) (hwc : ∀ x, x ∈ c → WfC x) (hwr : ∀ x, x ∈ r → WfU x) (hwe : ∀ x, x ∈ e → WfL x) (hw : ∀ x, x ∈ l → WfG x) :
    Calls Tryz.prog 35 #[.agg #[vc, vr, ve, vp]] w fun e' w' => e' = .returned (.int .i64 (checkD c r e l)) ∧ Below w.heap.size w w' := by
  have H1 := Lib.hid (fun (W : World) (h : Below w.heap.size w W) => checkC_any W c vc (hc.below h (Nat.le_refl _)) hwc)
  have H2 := Lib.hid (fun (W : World) (h : Below w.heap.size w W) => checkU_any W r vr (hr.below h (Nat.le_refl _)) hwr)
  have H3 := Lib.hid (fun (W : World) (h : Below w.heap.size w W) => checkL_any W e ve (he.below h (Nat.le_refl _)) hwe)
  obtain ⟨ao, cap, rfl, hcap, hmax, hnil, hel⟩ := hl
  obtain ⟨co, cp, rfl, _⟩ := hc
  obtain ⟨ro, rp, rfl, _⟩ := hr
  obtain ⟨eo, ep, rfl, _⟩ := he
  unfold maxLen at hmax
  obtain ⟨vc, hvc⟩ : ∃ v, v = Value.slice co c.length cp := ⟨_, rfl⟩
  obtain ⟨vr, hvr⟩ : ∃ v, v = Value.slice ro r.length rp := ⟨_, rfl⟩
  obtain ⟨ve, hve⟩ : ∃ v, v = Value.slice eo e.length ep := ⟨_, rfl⟩
  rw [← hvc] at H1 ⊢
  rw [← hvr] at H2 ⊢
  rw [← hve] at H3 ⊢
  have HVC := Lib.hid hvc
  have HVR := Lib.hid hvr
  have HVE := Lib.hid hve
  have HEL := Lib.hid hel
  have HW := Lib.hid hw
  obtain ⟨CC, hCC⟩ : ∃ x, x = checkC c := ⟨_, rfl⟩
  obtain ⟨CU, hCU⟩ : ∃ x, x = checkU r := ⟨_, rfl⟩
  obtain ⟨CL, hCL⟩ : ∃ x, x = checkL e := ⟨_, rfl⟩
  have HD : Hid (checkD c r e l = if CC ≠ 0 then CC else if CU ≠ 0 then CU else if CL ≠ 0 then CL else checkG l) := Lib.hid (by rw [hCC, hCU, hCL]; rfl)
  rw [← hCC] at H1
  rw [← hCU] at H2
  rw [← hCL] at H3
  obtain ⟨D, hD⟩ : ∃ x, x = checkD c r e l := ⟨_, rfl⟩
  rw [← hD] at HD ⊢
  clear hel hw hCC hCU hCL hD hvc hvr hve hwc hwr hwe
  obtain ⟨w5, hw5⟩ : ∃ w5, w5 = w.alloc (.cells #[vc, vr, ve, .slice ao l.length cap] 41) := ⟨_, rfl⟩
  have hb5 : Below w.heap.size w w5 := by rw [hw5]; exact (Below.refl _ _).alloc (Nat.le_refl _) _
  have hd5 : w5.heap[w.heap.size]? = some (.cells #[vc, vr, ve, .slice ao l.length cap] 41 (0, 0)) := by rw [hw5]; exact block_new w _
  have HW5 := Lib.hid hw5
  have HB5 := Lib.hid hb5
  have HD5 := Lib.hid hd5
  have hg5 : w.heap.size < w5.heap.size := by rw [hw5]; simp
  clear hw5 hb5 hd5
  go_enter Tryz.func35, Tryz.ntmps35
  go_upto_region 1 with (fail)
  rw [← HW5.out]
  obtain ⟨g, hgq⟩ : ∃ g, g = w.heap.size := ⟨_, rfl⟩
  have HGQ := Lib.hid hgq
  have d0 : w5.cell? ⟨g, 0, none⟩ = some vc := by rw [hgq]; exact (cell_of_block (i := 0) HD5.out).trans rfl
  have d1 : w5.cell? ⟨g, 1, none⟩ = some vr := by rw [hgq]; exact (cell_of_block (i := 1) HD5.out).trans rfl
  have d2 : w5.cell? ⟨g, 2, none⟩ = some ve := by rw [hgq]; exact (cell_of_block (i := 2) HD5.out).trans rfl
  have d3 : w5.cell? ⟨g, 3, none⟩ = some (.slice ao l.length cap) := by rw [hgq]; exact (cell_of_block (i := 3) HD5.out).trans rfl
  rw [← hgq] at hg5 ⊢
  clear hgq HW5 HD5
  have H1' := Lib.hid (fun (W : World) (h : Below w5.heap.size w5 W) => H1.out W (HB5.out.trans (h.mono HB5.out.size)))
  have H2' := Lib.hid (fun (W : World) (h : Below w5.heap.size w5 W) => H2.out W (HB5.out.trans (h.mono HB5.out.size)))
  have H3' := Lib.hid (fun (W : World) (h : Below w5.heap.size w5 W) => H3.out W (HB5.out.trans (h.mono HB5.out.size)))
  have HFI : Hid (∀ W : World, Calls Tryz.prog 18 #[.slice (some ⟨W.heap.size, 0, none⟩) 3 3] (W.alloc (.cells #[.int .i64 CC, .int .i64 CU, .int .i64 CL] 30)) fun e w' => e = .returned (.int .i64 (firstF [CC, CU, CL])) ∧ (W.alloc (.cells #[.int .i64 CC, .int .i64 CU, .int .i64 CL] 30)) = w') := Lib.hid (fun W => first_any _ [CC, CU, CL] _ (Sl.fresh encI_len W 30 (0, 0) [CC, CU, CL] (by simp [maxLen])))
  have HQ : Below w5.heap.size w5 (w5.drewN 1) := below_drewN (Below.refl _ w5) 1
  clear H1 H2 H3
  go_cut [3] (fun s3 w6 => s3 = .int .i64 (firstF [CC, CU, CL]) ∧ Aside (Below w5.heap.size w5 w6))
  case first =>
    go_region_held3 (fun w' => w'.cell? ⟨g, 0, none⟩ = some vc ∧ w'.cell? ⟨g, 1, none⟩ = some vr ∧ w'.cell? ⟨g, 2, none⟩ = some ve)
      (first | exact ⟨(HQ.cell (p := ⟨g, 0, none⟩) hg5).trans d0, (HQ.cell (p := ⟨g, 1, none⟩) hg5).trans d1, (HQ.cell (p := ⟨g, 2, none⟩) hg5).trans d2⟩ | exact ⟨((HQ.alloc HQ.size _).cell (p := ⟨g, 0, none⟩) hg5).trans d0, ((HQ.alloc HQ.size _).cell (p := ⟨g, 1, none⟩) hg5).trans d1, ((HQ.alloc HQ.size _).cell (p := ⟨g, 2, none⟩) hg5).trans d2⟩ | fail)
      (first | (go_at_call 60; refine (H1'.out _ HQ).mono ?_; rintro e w' ⟨rfl, hb⟩; have HQ := HQ.trans (hb.mono HQ.size)) | (go_at_call 61; refine (H2'.out _ HQ).mono ?_; rintro e w' ⟨rfl, hb⟩; have HQ := HQ.trans (hb.mono HQ.size)) | (go_at_call 62; refine (H3'.out _ HQ).mono ?_; rintro e w' ⟨rfl, hb⟩; have HQ := HQ.trans (hb.mono HQ.size)) | (go_at_call 18; refine (HFI.out _).mono ?_; rintro e w' ⟨rfl, rfl⟩) | fail)
    go_wp2_with fail
    go_meet
    exact ⟨rfl, HQ.alloc HQ.size _⟩
  obtain ⟨rfl, B6⟩ := hcut
  obtain ⟨w6, rfl⟩ : ∃ w6, w6 = wc := ⟨_, rfl⟩
  have HB6 := Lib.hid (HB5.out.trans (B6.out.mono HB5.out.size))
  have e3 := (B6.out.cell (p := ⟨g, 3, none⟩) hg5).trans d3
  have hg6 : g < w6.heap.size := Nat.lt_of_lt_of_le hg5 B6.out.size
  clear HQ d0 d1 d2 d3 H1' H2' H3' HFI B6
  have HFF : Hid (firstF [CC, CU, CL] ≠ 0 → firstF [CC, CU, CL] = D) := Lib.hid (fun h => by
    rw [HD.out]
    by_cases h1 : CC = 0
    · by_cases h2 : CU = 0
      · by_cases h3 : CL = 0
        · exact absurd (by simp [firstF, h1, h2, h3]) h
        · simp [firstF, h1, h2, h3]
      · simp [firstF, h1, h2]
    · simp [firstF, h1])
  have HFZ : Hid (firstF [CC, CU, CL] = 0 → D = checkG l) := Lib.hid (fun h => by
    rw [HD.out]
    by_cases h1 : CC = 0
    · by_cases h2 : CU = 0
      · by_cases h3 : CL = 0
        · simp [h1, h2, h3]
        · exact absurd h (by simp [firstF, h1, h2, h3])
      · exact absurd h (by simp [firstF, h1, h2])
    · exact absurd h (by simp [firstF, h1]))
  generalize firstF [CC, CU, CL] = Q at HFF HFZ ⊢
  by_cases hQ : Q = 0
  case neg =>
    have hv := Lib.hid (HFF.out hQ)
    go_wp2_with fail
    go_ret
    exact ⟨ret_int hv.out, HB6.out⟩
  have HDG := Lib.hid (HFZ.out hQ)
  subst hQ
  clear HFF HFZ HD
  by_cases hbig : 200 < l.length
  · have hv : Hid (2 = D) := Lib.hid (by rw [HDG.out]; simp [checkG, hbig])
    have hbz : (200 : Int) < (l.length : Int) := by omega
    go_wp2_with fail
    go_ret
    exact ⟨ret_int hv.out, HB6.out⟩
  have hbz : ¬ (200 : Int) < (l.length : Int) := by omega
  have HF : Hid (D = FF (cgAt l) l.length) := Lib.hid (by rw [HDG.out]; simp [checkG, hbig])
  clear hbig
  obtain ⟨F, rfl⟩ : ∃ F, F = D := ⟨D, rfl⟩
  go_wp2_with fail
  go_loopg [27] l.length (fun gg s27 wr => ∃ kk : Nat, kk ≤ l.length ∧ l.length - kk ≤ gg ∧ s27 = .int .i64 kk ∧ Aside (Below w.heap.size w wr) ∧ Aside (wr.cell? ⟨g, 3, none⟩ = some (.slice ao l.length cap)) ∧ Aside (∀ j, j < kk → cgAt l j = 0))
  case atStart => exact ⟨0, Nat.zero_le _, by omega, rfl, HB6.out, e3, fun j hj => absurd hj (Nat.not_lt_zero _)⟩
  case round =>
    obtain ⟨kk, hkk, hg, rfl, BW, K3, A⟩ := hrel
    have k3 := K3.out
    have HK3 := Lib.hid K3.out
    have hgr := World.block_lt_of_cell? wr _ k3
    clear e3 hg6 K3
    by_cases hlt : kk < l.length
    · have hltz : (kk : Int) < (l.length : Int) := by omega
      obtain ⟨x, hx⟩ : ∃ x, l[kk]? = some x := ⟨l[kk], by simp [hlt]⟩
      obtain ⟨p, hp⟩ : ∃ x, l[kk - 1]? = some x := ⟨l[kk - 1]'(by omega), by simp⟩
      obtain ⟨b, off, hao, hc⟩ := HEL.out kk x hx
      subst hao
      obtain ⟨b', off', hao', hc'⟩ := HEL.out (kk - 1) p hp
      simp only [Option.some.injEq, Addr.mk.injEq, and_true] at hao'
      obtain ⟨rfl, rfl⟩ := hao'
      have hlt0 := World.block_lt_of_cell? w ⟨b, off + kk * 2 + 0, none⟩ (hc 0 _ rfl)
      have c0 : wr.cell? ⟨b, off + kk * 2, none⟩ = some (.int .i64 x.ti) := (BW.out.cell (p := ⟨b, off + kk * 2 + 0, none⟩) hlt0).trans (hc 0 _ rfl)
      have p0 : wr.cell? ⟨b, off + (kk - 1) * 2, none⟩ = some (.int .i64 p.ti) := (BW.out.cell (p := ⟨b, off + (kk - 1) * 2 + 0, none⟩) hlt0).trans (hc' 0 _ rfl)
      have c1 : wr.cell? ⟨b, off + kk * 2 + 1, none⟩ = some (.string x.ke) := (BW.out.cell (p := ⟨b, off + kk * 2 + 1, none⟩) hlt0).trans (hc 1 _ rfl)
      have p1 : wr.cell? ⟨b, off + (kk - 1) * 2 + 1, none⟩ = some (.string p.ke) := (BW.out.cell (p := ⟨b, off + (kk - 1) * 2 + 1, none⟩) hlt0).trans (hc' 1 _ rfl)
      have hbw : b < wr.heap.size := Nat.lt_of_lt_of_le hlt0 BW.out.size
      have hsz : x.ke.size ≤ 9223372036854775807 := HW.out x (List.mem_of_getElem? hx)
      have hin := isReq_any x.ke
      have hszw := BW.out.size
      have hat : Hid (cgAt l kk = cgOf x p kk) := Lib.hid (by rw [cgAt, getD_of hx, getD_of hp])
      have hS : Hid (∀ z, cgOf x p kk = z → z ≠ 0 → z = F) := Lib.hid (fun z h hz => by
        rw [HF.out, FF_hit hlt A.out (by rw [hat.out, h]; exact hz), hat.out, h])
      have hC0 : Hid (cgOf x p kk = if (outB x.ti 0 1000000000000) = true then 1 else if (!reqB x.ke) = true then 3 else if (ordG x p kk) = true then 8 else 0) := Lib.hid rfl
      clear hx hp hc hc'
      have HB0 := Lib.hid (BW.out.alloc hszw (.cells #[.int .i64 x.ti, .string x.ke] 130))
      have HKZ := Lib.hid ((((Below.refl wr.heap.size wr).alloc (Nat.le_refl _) (.cells #[.int .i64 x.ti, .string x.ke] 130)).cell (p := ⟨g, 3, none⟩) hgr).trans HK3.out)
      go_upto_region 9 with (fail)
      go_cut [32] (fun s w4 => s = .bool (outB x.ti 0 1000000000000) ∧ w4 = (wr.alloc (.cells #[.int .i64 x.ti, .string x.ke] 130)))
      case first =>
        cases o0 : outB x.ti 0 1000000000000
        all_goals
          go_wp2_with (go_at_call 20; refine (out_any _ _ _ _).mono ?_; rintro e w' ⟨rfl, rfl⟩)
          go_meet
          exact ⟨by simp [*], rfl⟩
      obtain ⟨rfl, rfl⟩ := hcut
      generalize hO : (outB x.ti 0 1000000000000) = O at hC0 ⊢
      clear hO
      cases O
      case true =>
        have hv : Hid (1 = F) := Lib.hid (hS.out 1 (by rw [hC0.out]; rfl) (by decide))
        go_wp2
        go_ret
        exact ⟨ret_int hv.out, HB0.out⟩
      have hC1 : Hid (cgOf x p kk = if (!reqB x.ke) = true then 3 else if (ordG x p kk) = true then 8 else 0) := Lib.hid (by rw [hC0.out]; rfl)
      clear hC0
      go_upto_region 11 with (fail)
      go_cut [36] (fun s w4 => s = .bool (!reqB x.ke) ∧ w4 = (wr.alloc (.cells #[.int .i64 x.ti, .string x.ke] 130)))
      case first =>
        go_wp2_with (go_at_call 63; refine (hin _ hsz).mono ?_; rintro e w' ⟨rfl, rfl⟩)
        go_meet
        exact ⟨by simp, rfl⟩
      obtain ⟨rfl, rfl⟩ := hcut
      generalize hO : (!reqB x.ke) = O at hC1 ⊢
      clear hO
      cases O
      case true =>
        have hv : Hid (3 = F) := Lib.hid (hS.out 3 (by rw [hC1.out]; rfl) (by decide))
        go_wp2
        go_ret
        exact ⟨ret_int hv.out, HB0.out⟩
      have hC2 : Hid (cgOf x p kk = if (ordG x p kk) = true then 8 else 0) := Lib.hid (by rw [hC1.out]; rfl)
      clear hC1
      go_upto_region 13 with (fail)
      have hor : Hid ((ordG x p kk) = (decide (0 < kk) && (decide (x.ti < p.ti) || (x.ti == p.ti && (Op.bytesLess x.ke.toList p.ke.toList || x.ke.toList == p.ke.toList))))) := Lib.hid rfl
      generalize hOG : (ordG x p kk) = OG at hor hC2 ⊢
      have HOG := Lib.hid hOG
      clear hOG
      go_cut [41] (fun s w4 => s = .bool OG ∧ ∃ n, w4 = (wr.alloc (.cells #[.int .i64 x.ti, .string x.ke] 130)).drewN n)
      case first =>
        by_cases hk0 : kk = 0
        · have hz : decide ((0 : Int) < (kk : Int)) = false := decide_eq_false (by omega)
          have hz' : ¬ (0 : Int) < (kk : Int) := by omega
          have hz2 : decide (0 < kk) = false := decide_eq_false (by omega)
          have hv : Hid (OG = false) := Lib.hid (by rw [hor.out, hz2]; rfl)
          clear hk0
          go_quiet (fail)
          go_wp2
          go_meet
          exact ⟨by rw [hv.out], _, rfl⟩
        · have hz : decide ((0 : Int) < (kk : Int)) = true := decide_eq_true (by omega)
          have hz2 : decide (0 < kk) = true := decide_eq_true (by omega)
          have ez2 : ((kk : Int) - 1).toNat = kk - 1 := by omega
          have hm1 : (kk : Int) - 1 < (l.length : Int) := by omega
          have hm2 : (0 : Int) ≤ (kk : Int) - 1 := by omega
          have hm3 : (1 : Int) ≤ (kk : Int) := by omega
          have hm4 : 0 < kk := by omega
          have hwk : IntKind.i64.wrap ((kk : Int) - 1) = (kk : Int) - 1 := IntWalk.i64_in _ (by omega)
          clear hk0
          by_cases q1 : x.ti < p.ti
          · have q1' : decide (x.ti < p.ti) = true := decide_eq_true q1
            have hv : Hid (OG = true) := Lib.hid (by rw [hor.out, hz2, q1']; rfl)
            go_quiet (fail)
            go_wp2
            go_meet
            exact ⟨by rw [hv.out], _, rfl⟩
          · have q1' : decide (x.ti < p.ti) = false := decide_eq_false q1
            cases q2 : (x.ti == p.ti)
            · have hv : Hid (OG = false) := Lib.hid (by rw [hor.out, hz2, q1', q2]; rfl)
              have q3 : ¬ x.ti = p.ti := by simpa using q2
              go_quiet (fail)
              go_wp2
              go_meet
              exact ⟨by rw [hv.out], _, rfl⟩
            · have hv : Hid (OG = (Op.bytesLess x.ke.toList p.ke.toList || x.ke.toList == p.ke.toList)) := Lib.hid (by rw [hor.out, hz2, q1', q2]; rfl)
              go_quiet (fail)
              go_wp2
              go_meet
              exact ⟨by rw [hv.out], _, rfl⟩
      obtain ⟨rfl, nq, rfl⟩ := hcut
      rw [HOG.out.symm] at hC2
      have HBn := Lib.hid (below_drewN HB0.out nq)
      rw [HOG.out.symm]
      clear hor HOG
      generalize hO : (ordG x p kk) = O at hC2 ⊢
      clear hO
      cases O
      case true =>
        have hv : Hid (8 = F) := Lib.hid (hS.out 8 (by rw [hC2.out]; rfl) (by decide))
        go_wp2
        go_ret
        exact ⟨ret_int hv.out, HBn.out⟩
      have hC3 : Hid (cgOf x p kk = 0) := Lib.hid (by rw [hC2.out]; rfl)
      clear hC2
      have hz : Hid (cgAt l kk = 0) := Lib.hid (by rw [hat.out, hC3.out])
      go_wp2
      go_roundg (l.length - (kk + 1))
      case measure => omega
      case rel =>
        refine ⟨kk + 1, by omega, by omega, by go_num, HBn.out, HKZ.out, (show Aside _ from fun j hj => ?_)⟩
        by_cases e : j = kk
        · rw [e, hz.out]
        · exact A.out j (by omega)
    · obtain rfl : kk = l.length := by omega
      have hltz : ¬ (l.length : Int) < (l.length : Int) := by omega
      have hz : Hid (0 = F) := Lib.hid (by rw [HF.out, FF_zero A.out])
      go_wp2
      go_ret
      exact ⟨ret_int hz.out, BW.out⟩
end Go.Proofs.YtehbmnkbmgnkfaaGreatDoor

/- listFault of the program, of any known names; getsFault. -/
namespace Go.Proofs.YtehbmnkbmgnkfaaGreatDoor
open Go.RowKit

set_option maxRecDepth 100000 in
set_option maxHeartbeats 4000000 in
theorem listFaultN_any (w : World) (C : List Cch) (bx : Nat) (l : List Gt) (v : Value) (hl : Sl w 3 encT v l) (hw : ∀ x, x ∈ l → WfT x) (hf : ∀ (n : ByteArray) (W : World), Below w.heap.size w W → Calls Tryz.prog 37 #[.string n, .pointer (some ⟨bx, 0, none⟩)] W fun e w' => e = .returned (.bool (hasC C n)) ∧ Below W.heap.size W w') :
    Calls Tryz.prog 36 #[v, .func (.func 37) #[] #[.pointer (some ⟨bx, 0, none⟩)]] w fun e w' => e = .returned (.int .i64 (checkN C l)) ∧ Below w.heap.size w w' := by
  obtain ⟨ao, cap, rfl, hcap, hmax, hnil, hel⟩ := hl
  unfold maxLen at hmax
  by_cases hbig : 1000 < l.length
  · have hv : Hid (2 = checkN C l) := Lib.hid (by simp [checkN, hbig])
    have hbz : (1000 : Int) < (l.length : Int) := by omega
    clear hel
    go_enter Tryz.func36, Tryz.ntmps36
    go_wp2
    go_ret
    exact ⟨ret_int hv.out, Below.refl _ _⟩
  have hbz : ¬ (1000 : Int) < (l.length : Int) := by omega
  have HF : Hid (checkN C l = FF (gnAt C l) l.length) := Lib.hid (by simp [checkN, hbig])
  generalize checkN C l = F at HF ⊢
  have HW := Lib.hid hw
  have HEL := Lib.hid hel
  have HFN := Lib.hid hf
  clear hf
  clear hw hel
  go_enter Tryz.func36, Tryz.ntmps36
  go_wp2
  go_loopg [5, 6, 12] l.length (fun gg s5 s6 s12 wr => ∃ kk : Nat, kk ≤ l.length ∧ l.length - kk ≤ gg ∧ s12 = .int .i64 kk ∧ Aside (Below w.heap.size w wr) ∧ Aside (∀ j, j < kk → gnAt C l j = 0))
  case atStart => exact ⟨0, Nat.zero_le _, by omega, rfl, Below.refl _ w, fun j hj => absurd hj (Nat.not_lt_zero _)⟩
  case round =>
    obtain ⟨kk, hkk, hg, rfl, BW, A⟩ := hrel
    by_cases hlt : kk < l.length
    · have hltz : (kk : Int) < (l.length : Int) := by omega
      obtain ⟨x, hx⟩ : ∃ x, l[kk]? = some x := ⟨l[kk], by simp [hlt]⟩
      obtain ⟨p, hp⟩ : ∃ x, l[kk - 1]? = some x := ⟨l[kk - 1]'(by omega), by simp⟩
      obtain ⟨b, off, hao, hc⟩ := HEL.out kk x hx
      subst hao
      obtain ⟨b', off', hao', hc'⟩ := HEL.out (kk - 1) p hp
      simp only [Option.some.injEq, Addr.mk.injEq, and_true] at hao'
      obtain ⟨rfl, rfl⟩ := hao'
      have hlt0 := World.block_lt_of_cell? w ⟨b, off + kk * 3 + 0, none⟩ (hc 0 _ rfl)
      have c0 : wr.cell? ⟨b, off + kk * 3, none⟩ = some (.int .i64 x.ti) := (BW.out.cell (p := ⟨b, off + kk * 3 + 0, none⟩) hlt0).trans (hc 0 _ rfl)
      have p0 : wr.cell? ⟨b, off + (kk - 1) * 3, none⟩ = some (.int .i64 p.ti) := (BW.out.cell (p := ⟨b, off + (kk - 1) * 3 + 0, none⟩) hlt0).trans (hc' 0 _ rfl)
      have c1 : wr.cell? ⟨b, off + kk * 3 + 1, none⟩ = some (.string x.ca) := (BW.out.cell (p := ⟨b, off + kk * 3 + 1, none⟩) hlt0).trans (hc 1 _ rfl)
      have p1 : wr.cell? ⟨b, off + (kk - 1) * 3 + 1, none⟩ = some (.string p.ca) := (BW.out.cell (p := ⟨b, off + (kk - 1) * 3 + 1, none⟩) hlt0).trans (hc' 1 _ rfl)
      have c2 : wr.cell? ⟨b, off + kk * 3 + 2, none⟩ = some (.string x.ke) := (BW.out.cell (p := ⟨b, off + kk * 3 + 2, none⟩) hlt0).trans (hc 2 _ rfl)
      have p2 : wr.cell? ⟨b, off + (kk - 1) * 3 + 2, none⟩ = some (.string p.ke) := (BW.out.cell (p := ⟨b, off + (kk - 1) * 3 + 2, none⟩) hlt0).trans (hc' 2 _ rfl)
      have hbw : b < wr.heap.size := Nat.lt_of_lt_of_le hlt0 BW.out.size
      have hsz : x.ke.size ≤ 9223372036854775807 := (HW.out x (List.mem_of_getElem? hx)).2
      have hsn : x.ca.size ≤ 9223372036854775807 := (HW.out x (List.mem_of_getElem? hx)).1
      have eg : ∀ args w, (callFunc 37 args).run Tryz.prog w = .ok (.enter 37 args) w := enters_of Tryz.func37 (by kernel_rfl) rfl
      have hnm := HFN.out x.ca (wr.alloc (.cells #[.int .i64 x.ti, .string x.ca, .string x.ke] 52)) (BW.out.alloc BW.out.size _)
      have hin := isReq_any x.ke
      have hszw := BW.out.size
      have hat : Hid (gnAt C l kk = gnOf x p kk (hasC C x.ca)) := Lib.hid (by rw [gnAt, getD_of hx, getD_of hp])
      have hS : Hid (∀ z, gnOf x p kk (hasC C x.ca) = z → z ≠ 0 → z = F) := Lib.hid (fun z h hz => by
        rw [HF.out, FF_hit hlt A.out (by rw [hat.out, h]; exact hz), hat.out, h])
      have hC0 : Hid (gnOf x p kk (hasC C x.ca) = if (outB x.ti 0 1000000000000) = true then 1 else if (!hasC C x.ca) = true then 5 else if (!reqB x.ke) = true then 3 else if (ordT x p kk) = true then 8 else 0) := Lib.hid rfl
      clear hx hp hc hc'
      have HB0 := Lib.hid (BW.out.alloc hszw (.cells #[.int .i64 x.ti, .string x.ca, .string x.ke] 52))
      go_upto_region 6 with (fail)
      go_cut [17] (fun s w4 => s = .bool (outB x.ti 0 1000000000000) ∧ w4 = (wr.alloc (.cells #[.int .i64 x.ti, .string x.ca, .string x.ke] 52)))
      case first =>
        cases o0 : outB x.ti 0 1000000000000
        all_goals
          go_wp2_with (go_at_call 20; refine (out_any _ _ _ _).mono ?_; rintro e w' ⟨rfl, rfl⟩)
          go_meet
          exact ⟨by simp [*], rfl⟩
      obtain ⟨rfl, rfl⟩ := hcut
      generalize hO : (outB x.ti 0 1000000000000) = O at hC0 ⊢
      clear hO
      cases O
      case true =>
        have hv : Hid (1 = F) := Lib.hid (hS.out 1 (by rw [hC0.out]; rfl) (by decide))
        go_wp2
        go_ret
        exact ⟨ret_int hv.out, HB0.out⟩
      have hC1 : Hid (gnOf x p kk (hasC C x.ca) = if (!hasC C x.ca) = true then 5 else if (!reqB x.ke) = true then 3 else if (ordT x p kk) = true then 8 else 0) := Lib.hid (by rw [hC0.out]; rfl)
      clear hC0
      go_upto_region 8 with (fail)
      go_cut [21] (fun s w4 => s = .bool (!hasC C x.ca) ∧ ∃ w5, w5 = w4 ∧ Below (wr.alloc (.cells #[.int .i64 x.ti, .string x.ca, .string x.ke] 52)).heap.size (wr.alloc (.cells #[.int .i64 x.ti, .string x.ca, .string x.ke] 52)) w5)
      case first =>
        go_wp2_with (go_at_fn 37; refine hnm.mono ?_; rintro e w' ⟨rfl, hb'⟩)
        go_meet
        exact ⟨by simp, _, rfl, hb'⟩
      obtain ⟨rfl, w5, rfl, hb5⟩ := hcut
      have hAl : wr.heap.size < (wr.alloc (.cells #[.int .i64 x.ti, .string x.ca, .string x.ke] 52)).heap.size := by simp
      have hnb := (hb5.block _ hAl).trans (block_new wr (.cells #[.int .i64 x.ti, .string x.ca, .string x.ke] 52))
      have k0 : w5.cell? ⟨wr.heap.size, 0, none⟩ = some (.int .i64 x.ti) := cellF hnb 0 rfl
      have k2 : w5.cell? ⟨wr.heap.size, 2, none⟩ = some (.string x.ke) := cellF hnb 2 rfl
      have p0' : w5.cell? ⟨b, off + (kk - 1) * 3, none⟩ = some (.int .i64 p.ti) := (hb5.cell (p := ⟨b, off + (kk - 1) * 3, none⟩) (by show b < _; omega)).trans (((Below.refl wr.heap.size wr).alloc (Nat.le_refl _) _).cell (p := ⟨b, off + (kk - 1) * 3, none⟩) hbw |>.trans p0)
      have HB5 := Lib.hid (HB0.out.trans (hb5.mono (by omega)))
      clear HB0 hnb hnm c0 c1 c2 p0 p1 p2
      generalize hO : (!hasC C x.ca) = O at hC1 ⊢
      clear hO
      cases O
      case true =>
        have hv : Hid (5 = F) := Lib.hid (hS.out 5 (by rw [hC1.out]; rfl) (by decide))
        go_wp2
        go_ret
        exact ⟨ret_int hv.out, HB5.out⟩
      have hC2 : Hid (gnOf x p kk (hasC C x.ca) = if (!reqB x.ke) = true then 3 else if (ordT x p kk) = true then 8 else 0) := Lib.hid (by rw [hC1.out]; rfl)
      clear hC1
      go_upto_region 10 with (fail)
      go_cut [27] (fun s w4 => s = .bool (!reqB x.ke) ∧ w5 = w4)
      case first =>
        go_wp2_with (go_at_call 63; refine (hin _ hsz).mono ?_; rintro e w' ⟨rfl, rfl⟩)
        go_meet
        exact ⟨by simp, rfl⟩
      obtain ⟨rfl, rfl⟩ := hcut
      generalize hO : (!reqB x.ke) = O at hC2 ⊢
      clear hO
      cases O
      case true =>
        have hv : Hid (3 = F) := Lib.hid (hS.out 3 (by rw [hC2.out]; rfl) (by decide))
        go_wp2
        go_ret
        exact ⟨ret_int hv.out, HB5.out⟩
      have hC3 : Hid (gnOf x p kk (hasC C x.ca) = if (ordT x p kk) = true then 8 else 0) := Lib.hid (by rw [hC2.out]; rfl)
      clear hC2
      go_upto_region 12 with (fail)
      have hor : Hid ((ordT x p kk) = (decide (0 < kk) && decide (x.ti < p.ti))) := Lib.hid rfl
      generalize hOG : (ordT x p kk) = OG at hor hC3 ⊢
      have HOG := Lib.hid hOG
      clear hOG
      go_cut [32] (fun s w4 => s = .bool OG ∧ ∃ n, w4 = w5.drewN n)
      case first =>
        by_cases hk0 : kk = 0
        · have hz : decide ((0 : Int) < (kk : Int)) = false := decide_eq_false (by omega)
          have hz' : ¬ (0 : Int) < (kk : Int) := by omega
          have hz2 : decide (0 < kk) = false := decide_eq_false (by omega)
          have hv : Hid (OG = false) := Lib.hid (by rw [hor.out, hz2]; rfl)
          clear hk0
          go_quiet (fail)
          go_wp2
          go_meet
          exact ⟨by rw [hv.out], _, rfl⟩
        · have hz : decide ((0 : Int) < (kk : Int)) = true := decide_eq_true (by omega)
          have hz2 : decide (0 < kk) = true := decide_eq_true (by omega)
          have ez2 : ((kk : Int) - 1).toNat = kk - 1 := by omega
          have hm1 : (kk : Int) - 1 < (l.length : Int) := by omega
          have hm2 : (0 : Int) ≤ (kk : Int) - 1 := by omega
          have hm3 : (1 : Int) ≤ (kk : Int) := by omega
          have hm4 : 0 < kk := by omega
          have hwk : IntKind.i64.wrap ((kk : Int) - 1) = (kk : Int) - 1 := IntWalk.i64_in _ (by omega)
          clear hk0
          have hv : Hid (OG = (decide (x.ti < p.ti))) := Lib.hid (by rw [hor.out, hz2]; rfl)
          go_quiet (fail)
          go_wp2
          go_meet
          exact ⟨by rw [hv.out], _, rfl⟩
      obtain ⟨rfl, nq, rfl⟩ := hcut
      rw [HOG.out.symm] at hC3
      have HBn := Lib.hid (below_drewN HB5.out nq)
      rw [HOG.out.symm]
      clear hor HOG
      generalize hO : (ordT x p kk) = O at hC3 ⊢
      clear hO
      cases O
      case true =>
        have hv : Hid (8 = F) := Lib.hid (hS.out 8 (by rw [hC3.out]; rfl) (by decide))
        go_wp2
        go_ret
        exact ⟨ret_int hv.out, HBn.out⟩
      have hC4 : Hid (gnOf x p kk (hasC C x.ca) = 0) := Lib.hid (by rw [hC3.out]; rfl)
      clear hC3
      have hz : Hid (gnAt C l kk = 0) := Lib.hid (by rw [hat.out, hC4.out])
      go_wp2
      go_roundg (l.length - (kk + 1))
      case measure => omega
      case rel =>
        refine ⟨kk + 1, by omega, by omega, by go_num, HBn.out, (show Aside _ from fun j hj => ?_)⟩
        by_cases e : j = kk
        · rw [e, hz.out]
        · exact A.out j (by omega)
    · obtain rfl : kk = l.length := by omega
      have hltz : ¬ (l.length : Int) < (l.length : Int) := by omega
      have hz : Hid (0 = F) := Lib.hid (by rw [HF.out, FF_zero A.out])
      go_wp2
      go_ret
      exact ⟨ret_int hz.out, BW.out⟩
theorem sameGet (n : ByteArray) (y : Cch) (B : Nat) (W : World) (hc : W.cell? ⟨B, 0, none⟩ = some (.string n)) :
    Calls Tryz.prog 39 #[.agg #[.string y.na, .string y.pa, .int .i64 y.de, .int .i64 y.ro], .pointer (some ⟨B, 0, none⟩)] W fun e w' => e = .returned (.bool (isC y n)) ∧ Below W.heap.size W w' := by
  have hlt := World.block_lt_of_cell? W _ hc
  have hv : Hid ((y.na.toList == n.toList) = isC y n) := Lib.hid rfl
  go_enter Tryz.func39, Tryz.ntmps39
  go_wp2
  go_ret
  exact ⟨ret_bool hv.out, (Below.refl _ _).alloc (Nat.le_refl _) _⟩
set_option maxRecDepth 100000 in
theorem known_any (w : World) (C : List Cch) (vc : Value) (bx : Nat) (n : ByteArray) (hC : Sl w 4 encC vc C) (h0 : w.cell? ⟨bx, 0, none⟩ = some vc) :
    Calls Tryz.prog 37 #[.string n, .pointer (some ⟨bx, 0, none⟩)] w fun e w' => e = .returned (.bool (hasC C n)) ∧ Below w.heap.size w w' := by
  obtain ⟨T, hT⟩ : ∃ T, T = hasC C n := ⟨_, rfl⟩
  obtain ⟨w2, hw2⟩ : ∃ w2, w2 = w.alloc (.cells #[.string n] 9) := ⟨_, rfl⟩
  have hb2 : Below w.heap.size w w2 := by rw [hw2]; exact (Below.refl _ w).alloc (Nat.le_refl _) _
  have hnb : w2.heap[w.heap.size]? = some (.cells #[.string n] 9 (0, 0)) := by rw [hw2]; exact block_new w _
  have HID : Hid (Calls Tryz.prog 38 #[vc, .func (.func 39) #[] #[.pointer (some ⟨w.heap.size, 0, none⟩)]] w2 fun e w' => e = .returned (.bool T) ∧ Below w2.heap.size w2 w') := Lib.hid (by
    rw [hT]
    refine anyC 39 _ (fun o => isC o n) w2 C _ (hC.below hb2 (Nat.le_refl _)) (enters_of Tryz.func39 (by kernel_rfl) rfl) (fun W' y _ hb => ?_)
    refine sameGet n y w.heap.size W' ?_
    rw [hb.cell (p := ⟨w.heap.size, 0, none⟩) (Array.getElem?_eq_some_iff.1 hnb).1]
    exact cellF hnb 0 rfl)
  have q0 : w2.cell? ⟨bx, 0, none⟩ = some vc := (hb2.cell (p := ⟨bx, 0, none⟩) (World.block_lt_of_cell? w _ h0)).trans h0
  have HW2 := Lib.hid hw2
  have HB2 := Lib.hid hb2
  rw [← hT]
  clear hw2 hb2 hnb hC h0 hT
  go_enter Tryz.func37, Tryz.ntmps37
  go_upto_region 1 with (fail)
  rw [← HW2.out]
  go_wp2_with fail
  refine HID.out.mono ?_
  rintro e w3 ⟨rfl, hb3⟩
  have HB3 := Lib.hid (HB2.out.thru hb3)
  clear hb3
  go_wp2_with fail
  go_ret
  exact ⟨rfl, HB3.out⟩
set_option maxRecDepth 100000 in
theorem getsFault_any (w : World) (C : List Cch) (R : List Crl) (E : List Rel) (P : List Pur) (L : List Gt) (vc vr ve vp vl : Value) (hc : Sl w 4 encC vc C) (hr : Sl w 4 encU vr R) (he : Sl w 4 encL ve E) (hp : Sl w 2 encG vp P) (hl : Sl w 3 encT vl L) (hwc : ∀ x, x ∈ C → WfC x) (hwr : ∀ x, x ∈ R → WfU x) (hwe : ∀ x, x ∈ E → WfL x) (hwp : ∀ x, x ∈ P → WfG x) (hwl : ∀ x, x ∈ L → WfT x) :
    Calls Tryz.prog 16 #[.agg #[vc, vr, ve, vp], vl] w fun e w' => e = .returned (.int .i64 (checkS C R E P L)) ∧ Below w.heap.size w w' := by
  obtain ⟨w2, hw2⟩ : ∃ w2, w2 = w.alloc (.cells #[vc, vr, ve, vp] 41) := ⟨_, rfl⟩
  have hb2 : Below w.heap.size w w2 := by rw [hw2]; exact (Below.refl _ w).alloc (Nat.le_refl _) _
  have hnb : w2.heap[w.heap.size]? = some (.cells #[vc, vr, ve, vp] 41 (0, 0)) := by rw [hw2]; exact block_new w _
  have q0 : w2.cell? ⟨w.heap.size, 0, none⟩ = some vc := cellF hnb 0 rfl
  have q1 : w2.cell? ⟨w.heap.size, 1, none⟩ = some vr := cellF hnb 1 rfl
  have q2 : w2.cell? ⟨w.heap.size, 2, none⟩ = some ve := cellF hnb 2 rfl
  have q3 : w2.cell? ⟨w.heap.size, 3, none⟩ = some vp := cellF hnb 3 rfl
  have hlt : w.heap.size < w2.heap.size := (Array.getElem?_eq_some_iff.1 hnb).1
  have hD := checkD_any w2 C R E P vc vr ve vp (hc.below hb2 (Nat.le_refl _)) (hr.below hb2 (Nat.le_refl _)) (he.below hb2 (Nat.le_refl _)) (hp.below hb2 (Nat.le_refl _)) hwc hwr hwe hwp
  have HN : Hid (∀ W, Below w2.heap.size w2 W → Calls Tryz.prog 36 #[vl, .func (.func 37) #[] #[.pointer (some ⟨w.heap.size, 0, none⟩)]] W fun e w' => e = .returned (.int .i64 (checkN C L)) ∧ Below W.heap.size W w') := Lib.hid fun W hW => listFaultN_any W C w.heap.size L vl (hl.below (hb2.trans (hW.mono (by omega))) (Nat.le_refl _)) hwl (fun n W' hW' => known_any W' C vc w.heap.size n (hc.below ((hb2.trans (hW.mono (by omega))).trans (hW'.mono (by have := hW.size; omega))) (Nat.le_refl _)) (by
    rw [hW'.cell (p := ⟨w.heap.size, 0, none⟩) (by have := hW.size; show w.heap.size < _; omega), hW.cell (p := ⟨w.heap.size, 0, none⟩) hlt]
    exact q0))
  have HV : Hid (checkS C R E P L = if checkD C R E P ≠ 0 then checkD C R E P else checkN C L) := Lib.hid rfl
  generalize checkS C R E P L = S at HV ⊢
  generalize checkN C L = N at HN HV
  generalize checkD C R E P = D at hD HV
  have HD := Lib.hid hD
  have HW2 := Lib.hid hw2
  have HB2 := Lib.hid hb2
  clear hw2 hb2 hnb hc hr he hp hl hD hlt
  go_enter Tryz.func16, Tryz.ntmps16
  go_upto_region 1 with (fail)
  rw [← HW2.out]
  go_wp2_with (go_at_call 35; (with_reducible refine HD.out.mono ?_); rintro e w3 ⟨rfl, hb3⟩; have HB3 := Lib.hid hb3; clear hb3 q0 q1 q2 q3; by_cases hD0 : D = 0)
  · have hv : Hid (N = S) := Lib.hid (by rw [HV.out, if_neg (by simp [hD0])])
    subst hD0
    go_wp2_with (go_at_call 36; (with_reducible refine (HN.out _ HB3.out).mono ?_); rintro e w4 ⟨rfl, hb4⟩; have HB4 := Lib.hid (HB2.out.thru (HB3.out.thru hb4)); clear hb4)
    go_ret
    exact ⟨ret_int hv.out, HB4.out⟩
  · have hv : Hid (D = S) := Lib.hid (by rw [HV.out, if_pos hD0])
    go_wp2_with fail
    go_ret
    exact ⟨ret_int hv.out, HB2.out.thru HB3.out⟩
end Go.Proofs.YtehbmnkbmgnkfaaGreatDoor

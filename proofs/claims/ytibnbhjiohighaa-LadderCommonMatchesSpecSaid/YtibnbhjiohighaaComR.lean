/- Common of the reference. -/
import Derived.Test.YtibnbhjiohighaaComQ
import Derived.Test.YtibnbhjiohighaaRbat
import Derived.Deep.RegionHeld3
namespace Go.Proofs.Ytibnbhjiohighaa
open Go.RowKit

theorem allRa_take_len {F : List Flm} {k : Nat} (h : ∀ j, j < k → fF F j = 0) (hk : k ≤ F.length) : (allRa (F.take k)).length ≤ 100 * k := by
  have h1 := allRa_len (F := F.take k) (fun f hf => by
    obtain ⟨i, hi, rfl⟩ := List.mem_iff_getElem.1 hf
    rw [List.length_take] at hi
    have h2 := h i (by omega)
    unfold fF at h2
    rw [List.getD_eq_getElem?_getD, List.getElem?_eq_getElem (by omega)] at h2
    rw [List.getElem_take]
    exact (checkR_zero h2).1)
  rw [List.length_take, Nat.min_eq_left hk] at h1
  exact h1
theorem OwnE {w : World} {base : Nat} {v : Value} {C : List Int} (h : Own w base 3 1 encI v C) (hne : C ≠ []) : ∃ g cap, v = .slice (some ⟨g, 0, none⟩) C.length cap ∧ base ≤ g ∧ g < w.heap.size := by
  obtain ⟨g, cap, e, hg, hl, _⟩ := Own.getk encI_len h hne
  exact ⟨g, cap, e, hg, hl⟩
def inB (w : World) (v : Value) : Prop := ∀ a n c, v = .slice (some a) n c → a.block < w.heap.size
theorem inB.nil (w : World) : inB w (.slice none 0 0) := fun a n c h => by simp at h
theorem inB.own {w : World} {base : Nat} {v : Value} {C : List Int} (h : Own w base 3 1 encI v C) : inB w v := fun a n c hv => by
  subst hv
  exact (World.ownsRow.lt h a.block rfl).2
theorem inB.le {w w' : World} {v : Value} (h : inB w v) (hs : w.heap.size ≤ w'.heap.size) : inB w' v := fun a n c hv => Nat.lt_of_lt_of_le (h a n c hv) hs
theorem inB.off {w : World} {v : Value} {g : Nat} (h : inB w v) (hg : w.heap.size ≤ g) : offB g v := fun a n c hv => by have := h a n c hv; omega
/-- While the choices of as many numbers are looked at. -/
def InnS (f : List Int → Int) (n N base g cap : Nat) (b : Bool) (C B : List Int) (w : World) : Prop :=
  (b = true → Own w base 3 1 encI (.slice (some ⟨g, 0, none⟩) N cap) C ∧ C.length = N ∧ okW n N C ∧ VisW f n N C B) ∧ (b = false → bestW f n N B)
theorem InnS.end {f : List Int → Int} {n N base g cap : Nat} {C B : List Int} {w : World} (h : InnS f n N base g cap false C B w) : bestW f n N B := h.2 rfl
def mesW (n : Nat) (b : Bool) (C : List Int) : Nat := if b = true then mu n C + 1 else 0

set_option maxRecDepth 100000 in
set_option maxHeartbeats 8000000 in
theorem CommonR_any (w : World) (F : List Flm) (W : List Int) (m : Int) (fv wv : Value) (hF : Sl w 1 encFl fv F) (hFW : ∀ f, f ∈ F → WfF w f) (hW : Sl w 1 encI wv W) :
    Calls Try.prog 5 #[fv, wv, .int .i64 m] w (CoP w F W m) := by
  have HFS := Lib.hid hF
  have HFW := Lib.hid hFW
  have HWS := Lib.hid hW
  have HZ := Lib.hid (fun (h : comFa F W m = 0) => com_zero h)
  obtain ⟨fo, fcap, rfl, hfc, hfm, _, hfel⟩ := hF
  obtain ⟨wo, wcap, rfl, hwc, hwm, _, hwel⟩ := hW
  unfold maxLen at hfm hwm
  have HFE := Lib.hid hfel
  have HWE := Lib.hid hwel
  have HV : Hid (comFa F W m = if 50 < F.length then 2 else if FF (fF F) F.length ≠ 0 then FF (fF F) F.length else if W.length ≠ F.length then 3 else if W.any (fun x => outB x 1 1000000) = true then 1 else if outB m 0 100 = true then 1 else if 14 < (rts F).length then 2 else 0) := Lib.hid rfl
  obtain ⟨V, hV⟩ : ∃ V, V = comFa F W m := ⟨_, rfl⟩
  rw [← hV] at HV HZ
  have HVQ := Lib.hid hV
  clear hV hfel hwel hFW
  by_cases h50 : 50 < F.length
  · have hz : (50 : Int) < (F.length : Int) := by omega
    have hv : Hid (V = 2) := Lib.hid (by rw [HV.out, if_pos h50])
    clear h50
    go_enter Try.func5, Try.ntmps5
    go_wp2
    go_ret3
    exact CoP.bad (by rw [← hv.out]; exact HVQ.out) (by decide) (Below.refl _ _)
  have hz50 : ¬ (50 : Int) < (F.length : Int) := by omega
  have HV1 : Hid (V = if FF (fF F) F.length ≠ 0 then FF (fF F) F.length else if W.length ≠ F.length then 3 else if W.any (fun x => outB x 1 1000000) = true then 1 else if outB m 0 100 = true then 1 else if 14 < (rts F).length then 2 else 0) := Lib.hid (by rw [HV.out, if_neg h50])
  clear HV
  go_enter Try.func5, Try.ntmps5
  go_wp2
  go_loopg [9, 33] F.length (fun gg s9 s33 wr => ∃ k : Nat, k ≤ F.length ∧ F.length - k ≤ gg ∧ s33 = .int .i64 k ∧ Aside (Own wr w.heap.size 3 1 encI s9 (allRa (F.take k))) ∧ Aside (Below w.heap.size w wr) ∧ Aside (∀ j, j < k → fF F j = 0))
  case atStart => exact ⟨0, Nat.zero_le _, by omega, by go_num, (show Own _ _ _ _ _ _ (allRa (F.take 0)) from Own.nil), Below.refl _ w, fun j hj => absurd hj (Nat.not_lt_zero _)⟩
  case round =>
    obtain ⟨k, hk, hg, rfl, OW, BW, A⟩ := hrel
    have OW := Lib.hid OW.out
    have BW := Lib.hid BW.out
    have A := Lib.hid A.out
    by_cases hlt : k < F.length
    · have hltz : (k : Int) < (F.length : Int) := by omega
      obtain ⟨f, hf⟩ : ∃ f, F[k]? = some f := ⟨F[k], by simp [hlt]⟩
      obtain ⟨b, off, rfl, hcc⟩ := HFE.out k f hf
      have e0 : w.cell? ⟨b, off + k, none⟩ = some f.v := by have h := hcc 0 _ rfl; simpa using h
      have d0 : wr.cell? ⟨b, off + k, none⟩ = some f.v := (BW.out.cell (p := ⟨b, off + k, none⟩) (World.block_lt_of_cell? w _ e0)).trans e0
      have hfw := HFW.out f (List.mem_of_getElem? hf)
      have HCR := Lib.hid (checkRenR_any wr f.l f.v (hfw.1.below BW.out (Nat.le_refl _)) hfw.2)
      have HFF : Hid (fF F k = checkR f.l) := Lib.hid (by unfold fF; rw [getD_of hf])
      have HNX := Lib.hid (allRa_next hf)
      have hal := allRa_take_len A.out hk
      have hal2 : (allRa (F.take k)).length ≤ 5000 := by omega
      have HA5 := Lib.hid hal2
      have HCZ := Lib.hid (fun (h : checkR f.l = 0) => (checkR_zero h).1)
      obtain ⟨q, hq⟩ : ∃ q, q = checkR f.l := ⟨_, rfl⟩
      rw [← hq] at HCR HFF HCZ
      obtain ⟨P, hP⟩ : ∃ P, P = allRa (F.take k) := ⟨_, rfl⟩
      rw [← hP] at OW HNX HA5
      obtain ⟨so, sn, sc, rfl⟩ := Own.slv encI_len OW.out
      obtain ⟨v0, l0⟩ := f
      simp only at d0 hfw HNX HCR
      have hfw1 : Sl w 4 encR v0 l0 := hfw.1
      clear hfw
      obtain ⟨fo2, fcap2, rfl, hfc2, hfm2, _, hfel2⟩ := hfw1
      unfold maxLen at hfm2
      have HFE2 := Lib.hid hfel2
      clear hf hcc e0 hq hP hal hal2 hfel2
      go_upto_region 8 with (go_at_call 14; refine HCR.out.mono ?_; rintro e w2 ⟨rfl, hb2⟩; have HB2 := Lib.hid (BW.out.thru hb2); have HO2 := Lib.hid (OW.out.below hb2 (Nat.le_refl _)); clear hb2)
      by_cases hq0 : q = 0
      case neg =>
        have hv : Hid (V = q) := Lib.hid (by
          have hh := (FF_hit (f := fF F) hlt A.out (by rw [HFF.out]; exact hq0)).trans HFF.out
          rw [HV1.out, hh, if_pos hq0])
        go_wp2
        go_ret3
        exact CoP.bad (by rw [← hv.out]; exact HVQ.out) hq0 HB2.out
      subst hq0
      have h100 := HCZ.out (by first | rfl | trivial)
      go_wp2
      go_loopg [9, 44] l0.length (fun gg s9 s44 wq => ∃ j : Nat, j ≤ l0.length ∧ l0.length - j ≤ gg ∧ s44 = .int .i64 j ∧ Aside (Own wq w.heap.size 3 1 encI s9 (P ++ raOf (l0.take j))) ∧ Aside (Below w.heap.size w wq))
      case atStart => exact ⟨0, Nat.zero_le _, by omega, by go_num, (show Own _ _ _ _ _ _ _ by simpa [raOf] using HO2.out), HB2.out⟩
      case round =>
        obtain ⟨j, hj, hg2, rfl, OQ, BQ⟩ := hrel
        have OQ := Lib.hid OQ.out
        have BQ := Lib.hid BQ.out
        by_cases hlt2 : j < l0.length
        · have hltz2 : (j : Int) < (l0.length : Int) := by omega
          obtain ⟨x, hx⟩ : ∃ x, l0[j]? = some x := ⟨l0[j], by simp [hlt2]⟩
          obtain ⟨b2, off2, rfl, hcd⟩ := HFE2.out j x hx
          have hb2 : b2 < w.heap.size := World.block_lt_of_cell? w _ (hcd 0 _ rfl)
          have toW : ∀ o u, w.cell? ⟨b2, o, none⟩ = some u → wr.cell? ⟨b2, o, none⟩ = some u := fun o u hu => (BQ.out.cell (p := ⟨b2, o, none⟩) hb2).trans hu
          have d0 : wr.cell? ⟨b2, off2 + j * 4, none⟩ = some (.string x.na) := toW _ _ (by have h := hcd 0 _ rfl; simpa using h)
          have d1 : wr.cell? ⟨b2, off2 + j * 4 + 1, none⟩ = some (.int .i64 x.ra) := toW _ _ (hcd 1 _ rfl)
          have d2 : wr.cell? ⟨b2, off2 + j * 4 + 2, none⟩ = some (.int .i64 x.he) := toW _ _ (hcd 2 _ rfl)
          have d3 : wr.cell? ⟨b2, off2 + j * 4 + 3, none⟩ = some (.int .i64 x.qu) := toW _ _ (hcd 3 _ rfl)
          have hne2 : Hid (P ++ raOf (l0.take (j + 1)) = (P ++ raOf (l0.take j)) ++ [x.ra]) := Lib.hid (by rw [raOf_next hx, List.append_assoc])
          have hlq : Hid ((P ++ raOf (l0.take j)).length ≤ 6000) := Lib.hid (by
            have := HA5.out
            rw [List.length_append]
            unfold raOf
            rw [List.length_map, List.length_take]
            omega)
          obtain ⟨so, sn, sc, rfl⟩ := Own.slv encI_len OQ.out
          have HAO := Lib.hid (OQ.out.al (.cells #[.string x.na, .int .i64 x.ra, .int .i64 x.he, .int .i64 x.qu] 36))
          have hwsz : w.heap.size ≤ wr.heap.size := BQ.out.size
          have HAB := Lib.hid (BQ.out.alloc hwsz (.cells #[.string x.na, .int .i64 x.ra, .int .i64 x.he, .int .i64 x.qu] 36))
          clear hx hcd toW
          go_wp2_with (at_builtin; go_loud (refine wpList_push (A := wr.heap.size + 1) (v := .slice so sn sc) rfl _ _ 23 rfl slI rfl rfl x.ra rfl rfl rfl HAO.out (by simp) (by have := hlq.out; omega) (by simp; omega) ?_); intro v5 w8 ho8 hb8; rw [← hne2.out] at ho8; have HO8 := Lib.hid ho8; have HB8 := Lib.hid (HAB.out.trans hb8); clear ho8 hb8)
          go_roundg (l0.length - (j + 1))
          case measure => omega
          case rel => exact ⟨j + 1, by omega, by omega, by go_num, HO8.out, HB8.out⟩
        · obtain rfl : j = l0.length := by omega
          have hltz2 : ¬ (l0.length : Int) < (l0.length : Int) := by omega
          have HOZ : Hid (Own wr w.heap.size 3 1 encI _ (allRa (F.take (k + 1)))) := Lib.hid (by rw [HNX.out]; have := OQ.out; rw [List.take_length] at this; exact this)
          have HA2 : Hid (∀ j, j < k + 1 → fF F j = 0) := Lib.hid (fun j hj => by
            by_cases e : j = k
            · subst e; exact HFF.out
            · exact A.out j (by omega))
          go_wp2
          go_roundg (F.length - (k + 1))
          case measure => omega
          case rel => exact ⟨k + 1, by omega, by omega, by go_num, HOZ.out, BQ.out, HA2.out⟩
    · obtain rfl : k = F.length := by omega
      have hltz : ¬ (F.length : Int) < (F.length : Int) := by omega
      have hFF := FF_zero (f := fF F) (n := F.length) A.out
      have HV2 : Hid (V = if W.length ≠ F.length then 3 else if W.any (fun x => outB x 1 1000000) = true then 1 else if outB m 0 100 = true then 1 else if 14 < (rts F).length then 2 else 0) := Lib.hid (by rw [HV1.out, hFF]; rfl)
      have hal := allRa_take_len A.out hk
      rw [List.take_length] at hal
      have hO := OW.out
      rw [List.take_length] at hO
      have HOA := Lib.hid hO
      have hal3 : (allRa F).length ≤ 10000 := by omega
      have HAL := Lib.hid hal3
      clear hFF HV1 hal hal3 hO OW A
      by_cases hwl : W.length = F.length
      case neg =>
        have hwz : ¬ (F.length : Int) = (W.length : Int) := by omega
        have hv : Hid (V = 3) := Lib.hid (by rw [HV2.out, if_pos hwl])
        go_wp2
        go_ret3
        exact CoP.bad (by rw [← hv.out]; exact HVQ.out) (by decide) BW.out
      have hwz : (F.length : Int) = (W.length : Int) := by omega
      have HV3 : Hid (V = if W.any (fun x => outB x 1 1000000) = true then 1 else if outB m 0 100 = true then 1 else if 14 < (rts F).length then 2 else 0) := Lib.hid (by rw [HV2.out, if_neg (by omega)])
      have HWL := Lib.hid hwl
      have hw50 : W.length ≤ 50 := by omega
      clear hwl HV2
      obtain ⟨so9, sn9, sc9, rfl⟩ := Own.slv encI_len HOA.out
      obtain ⟨w5, rfl⟩ : ∃ w5, w5 = wr := ⟨wr, rfl⟩
      go_upto_region 18 with (fail)
      clear hwz
      go_wp2
      go_loopg [62] W.length (fun gg s62 wq => ∃ k : Nat, k ≤ W.length ∧ W.length - k ≤ gg ∧ s62 = .int .i64 k ∧ Aside (∀ j x, W[j]? = some x → j < k → outB x 1 1000000 = false) ∧ w5 = wq)
      case atStart => exact ⟨0, Nat.zero_le _, by omega, by go_num, (fun j x _ hj => absurd hj (Nat.not_lt_zero _)), rfl⟩
      case round =>
        obtain ⟨k, hk, hg, rfl, A, rfl⟩ := hrel
        have A := Lib.hid A.out
        by_cases hlt : k < W.length
        · have hltz2 : (k : Int) < (W.length : Int) := by omega
          obtain ⟨z, hz⟩ : ∃ z, W[k]? = some z := ⟨W[k], by simp [hlt]⟩
          obtain ⟨b, off, rfl, hcc⟩ := HWE.out k z hz
          have e0 : w.cell? ⟨b, off + k, none⟩ = some (.int .i64 z) := by have h := hcc 0 _ rfl; simpa using h
          have d0 : w5.cell? ⟨b, off + k, none⟩ = some (.int .i64 z) := (BW.out.cell (p := ⟨b, off + k, none⟩) (World.block_lt_of_cell? w _ e0)).trans e0
          have HZZ := Lib.hid hz
          clear hz hcc e0
          have HO := Lib.hid (within5_any z 1 1000000 w5)
          cases hq : outB z 1 1000000
          · have HQ := Lib.hid hq
            rw [hq] at HO
            clear hq
            go_wp2_with (go_at_call 15; refine HO.out.mono ?_; rintro e w' ⟨rfl, rfl⟩)
            go_roundg (W.length - (k + 1))
            case measure => omega
            case rel =>
              refine ⟨k + 1, by omega, by omega, by go_num, (show Aside _ from fun j x hx hj => ?_), rfl⟩
              by_cases e : j = k
              · subst e
                have := HZZ.out.symm.trans hx
                simp at this; subst this; exact HQ.out
              · exact A.out j x hx (by omega)
          · have hv : Hid (V = 1) := Lib.hid (by rw [HV3.out, if_pos (List.any_eq_true.2 ⟨z, List.mem_of_getElem? HZZ.out, hq⟩)])
            rw [hq] at HO
            clear hq
            go_wp2_with (go_at_call 15; refine HO.out.mono ?_; rintro e w' ⟨rfl, rfl⟩)
            go_ret3
            exact CoP.bad (by rw [← hv.out]; exact HVQ.out) (by decide) BW.out
        · obtain rfl : k = W.length := by omega
          have hltz2 : ¬ (W.length : Int) < (W.length : Int) := by omega
          have hany : W.any (fun x => outB x 1 1000000) = false := by
            rw [List.any_eq_false]
            intro x hx
            obtain ⟨j, hj, rfl⟩ := List.mem_iff_getElem.1 hx
            simp [A.out j _ (List.getElem?_eq_getElem hj) hj]
          have HV4 : Hid (V = if outB m 0 100 = true then 1 else if 14 < (rts F).length then 2 else 0) := Lib.hid (by rw [HV3.out, hany]; rfl)
          have HO := Lib.hid (within5_any m 0 100 w5)
          clear hany HV3 A
          cases hq : outB m 0 100
          case true =>
            have hv : Hid (V = 1) := Lib.hid (by rw [HV4.out, if_pos hq])
            rw [hq] at HO
            clear hq
            go_wp2_with (go_at_call 15; refine HO.out.mono ?_; rintro e w' ⟨rfl, rfl⟩)
            go_ret3
            exact CoP.bad (by rw [← hv.out]; exact HVQ.out) (by decide) BW.out
          have HV5 : Hid (V = if 14 < (rts F).length then 2 else 0) := Lib.hid (by rw [HV4.out, if_neg (by rw [hq]; decide)])
          rw [hq] at HO
          have hmb := outB_no hq
          have HSO := Lib.hid (sortO w5 w.heap.size _ (allRa F) HOA.out BW.out.size HAL.out)
          have hal3 : (sortI (allRa F)).length ≤ 10000 := by rw [sortI_len]; exact HAL.out
          have HS3 := Lib.hid hal3
          have HRTS : Hid (Lib.compact (sortI (allRa F)) = rts F) := Lib.hid rfl
          clear hq HV4 hal3
          go_upto_region 28 with (first | (go_at_call 15; refine HO.out.mono ?_; rintro e w' ⟨rfl, rfl⟩) | (go_at_call 16; refine HSO.out.mono ?_; rintro e w2 ⟨rfl, ho2, hb2⟩; have HO2 := Lib.hid ho2; have HB2 := Lib.hid (BW.out.trans hb2); clear ho2 hb2) | (go_at_call 17; refine (compactO w2 w.heap.size _ _ HO2.out HS3.out).mono ?_; rintro e w3 ⟨v3, rfl, ho3, hb3⟩; rw [HRTS.out] at ho3; have HO3 := Lib.hid ho3; have HB3 := Lib.hid (HB2.out.trans hb3); clear ho3 hb3))
          obtain ⟨R, hR⟩ : ∃ R, R = rts F := ⟨_, rfl⟩
          rw [← hR] at HO3 HV5
          have HR := Lib.hid hR
          clear hR
          have hsl3 := HO3.out.sl encI_len
          have HRS := Lib.hid hsl3
          have HRB := Lib.hid (inB.own HO3.out)
          obtain ⟨ro, rcap, rfl, hrc, hrm, _, _⟩ := hsl3
          unfold maxLen at hrm
          clear HRTS HSO HS3 HAL HOA HO
          by_cases h14 : 14 < R.length
          · have hz14 : (14 : Int) < (R.length : Int) := by omega
            have hv : Hid (V = 2) := Lib.hid (by rw [HV5.out, if_pos h14])
            go_wp2
            go_ret3
            exact CoP.bad (by rw [← hv.out]; exact HVQ.out) (by decide) HB3.out
          have hz14 : ¬ (14 : Int) < (R.length : Int) := by omega
          have hv : Hid (V = 0) := Lib.hid (by rw [HV5.out, if_neg h14])
          have hzz := HZ.out hv.out
          have HQU : Hid (∀ f, f ∈ F → ∀ x, x ∈ f.l → 0 ≤ x.qu ∧ x.qu ≤ 1000000) := Lib.hid (fun f hf x hx => ((checkR_zero (hzz.2.1 f hf)).2.2 x hx).2.2.2)
          have HWB := Lib.hid hzz.2.2.2.1
          clear hzz HZ HV5
          obtain ⟨M, rfl⟩ : ∃ M : Nat, m = (M : Int) := ⟨m.toNat, by omega⟩
          have HBM := Lib.hid (fun B (h : bestW (comV F W R) R.length (min M R.length) B) => bestW_min h)
          obtain ⟨K, hK⟩ : ∃ K, K = min M R.length := ⟨_, rfl⟩
          rw [← hK] at HBM
          have hKl : K ≤ R.length := by omega
          have hmn : min (M : Int) (R.length : Int) = (K : Int) := by omega
          have HFV : Hid (∀ C, comV F W R C = sumA F W (ratesAt R C) F.length) := Lib.hid (fun _ => rfl)
          have HF0 := Lib.hid (comV_nil F W R)
          obtain ⟨f, hf⟩ : ∃ f, f = comV F W R := ⟨_, rfl⟩
          rw [← hf] at HBM HFV HF0
          have HFE3 := Lib.hid hf
          clear hf hK h14
          go_wp2
          go_loopg [17, 18, 19] (K + 1) (fun gg s17 s18 s19 wq => ∃ (N : Nat) (B : List Int) (z : Int), N ≤ K ∧ K - N ≤ gg ∧ s19 = .int .i64 ((N : Int) + 1) ∧ s18 = .int .i64 z ∧ Aside (z = f B) ∧ Aside (Sl wq 1 encI s17 (ratesAt R B)) ∧ Aside (inB wq s17) ∧ Aside (bestW f R.length N B) ∧ Aside (Below w.heap.size w wq) ∧ Aside (Sl wq 1 encI (.slice ro R.length rcap) R) ∧ Aside (inB wq (.slice ro R.length rcap)))
          case atStart => exact ⟨0, [], 0, Nat.zero_le _, by omega, by go_num, rfl, (show _ = _ from HF0.out.symm), Sl.nil, inB.nil _, bestW_zero f _, HB3.out, HRS.out, HRB.out⟩
          obtain ⟨N, B, z, hNK, hg, rfl, rfl, HZB, HSB, HIN, HBE, HBr, HRr, HRI⟩ := hrel
          have HZB := Lib.hid HZB.out
          have HSB := Lib.hid HSB.out
          have HIN := Lib.hid HIN.out
          have HBE := Lib.hid HBE.out
          have HBr := Lib.hid HBr.out
          have HRr := Lib.hid HRr.out
          have HRI := Lib.hid HRI.out
          obtain ⟨tb, htb⟩ : ∃ tb, tb = decide (N < K) := ⟨_, rfl⟩
          have HTB := Lib.hid htb
          clear htb
          go_upto_region 33 with (fail)
          go_cut [85] (fun s85 wc => s85 = .bool tb ∧ wr = wc)
          case first =>
            have hv : Hid (decide ((N : Int) + 1 ≤ min (M : Int) (R.length : Int)) = tb) := Lib.hid (by rw [hmn, HTB.out, Bool.eq_iff_iff]; simp; omega)
            clear hmn
            go_wp2
            go_meet
            exact ⟨by rw [hv.out], rfl⟩
          obtain ⟨rfl, rfl⟩ := hcut
          have htb := HTB.out
          cases tb
          case false =>
            have hnl : ¬ N < K := of_decide_eq_false htb.symm
            obtain rfl : N = K := by omega
            clear htb
            have HBST := Lib.hid (HBM.out B HBE.out)
            go_wp2
            go_ret3
            exact CoP.good (by rw [← hv.out]; exact HVQ.out) rfl HSB.out HBr.out (by rw [← HR.out, ← HFE3.out, Int.toNat_natCast]; exact HBST.out) (by rw [← HR.out]) (by rw [HZB.out, ← HR.out, HFE3.out])
          case true =>
            have hlt : N < K := of_decide_eq_true htb.symm
            clear htb
            have HFI := Lib.hid (firstR_any (N + 1) (by omega))
            have e1 : ((N + 1 : Nat) : Int) = (N : Int) + 1 := by omega
            rw [e1] at HFI
            clear e1
            obtain ⟨hfl, hfi, hfr⟩ := firstL_ok (N + 1)
            have HOK1 : Hid (okW R.length (N + 1) (firstL (N + 1))) := Lib.hid ⟨fun k hk => by have := hfr k hk; omega, hfi, by omega⟩
            have HVS := Lib.hid (VisW.start HBE.out)
            have HMU : Hid (mu R.length (firstL (N + 1)) < (R.length + 1) ^ (N + 1)) := Lib.hid (by
              have := mu_lt (n := R.length) (L := firstL (N + 1)) fun k hk => (hfr k hk).1
              rw [hfl] at this
              exact this)
            clear hfi hfr
            generalize firstL (N + 1) = C0 at HFI HOK1 HVS HMU hfl
            have hC0 : C0 ≠ [] := fun e => by rw [e] at hfl; simp at hfl
            go_wp2_with fail
            refine (HFI.out _).mono ?_
            rintro e w2 ⟨v13, rfl, ho, hb⟩
            obtain ⟨g, cap, rfl, hgb, hgl⟩ := OwnE ho hC0
            rw [hfl] at ho ⊢
            have HO2 := Lib.hid ho
            have HFL := Lib.hid hfl
            have HB2 := Lib.hid (HBr.out.thru hb)
            have HSB2 := Lib.hid (HSB.out.below hb (Nat.le_refl _))
            have HR2 := Lib.hid (HRr.out.below hb (Nat.le_refl _))
            have HOF := Lib.hid (HIN.out.off hgb)
            have HRO := Lib.hid (HRI.out.off hgb)
            have HRI2 := Lib.hid (HRI.out.le hb.size)
            obtain ⟨base, hbase⟩ : ∃ base, base = wr.heap.size := ⟨_, rfl⟩
            rw [← hbase] at HO2 hgb
            have hbw : w.heap.size ≤ base := by rw [hbase]; exact HBr.out.size
            have HIN2 := Lib.hid (HIN.out.le hb.size)
            have HI0 : Hid (InnS f R.length (N + 1) base g cap true C0 B w2) := Lib.hid ⟨fun _ => ⟨HO2.out, HFL.out, HOK1.out, HVS.out⟩, fun h => by cases h⟩
            have HM0 : mesW R.length true C0 ≤ (R.length + 1) ^ (N + 1) := by
              have := HMU.out
              unfold mesW
              rw [if_pos rfl]
              omega
            clear ho hb hC0 hfl HOK1 HVS HMU hbase hgl
            go_wp2
            go_loopg [17, 18, 21] ((R.length + 1) ^ (N + 1) + 1) (fun gg s17 s18 s21 wq => ∃ (b : Bool) (C B : List Int) (z : Int), s21 = .bool b ∧ s18 = .int .i64 z ∧ mesW R.length b C ≤ gg ∧ Aside (z = f B) ∧ Aside (Sl wq 1 encI s17 (ratesAt R B)) ∧ Aside (inB wq s17) ∧ Aside (offB g s17) ∧ Aside (Below w.heap.size w wq) ∧ Aside (Sl wq 1 encI (.slice ro R.length rcap) R) ∧ Aside (inB wq (.slice ro R.length rcap)) ∧ Aside (InnS f R.length (N + 1) base g cap b C B wq))
            case atStart => exact ⟨true, C0, B, z, rfl, rfl, by omega, HZB.out, HSB2.out, HIN2.out, HOF.out, HB2.out, HR2.out, HRI2.out, HI0.out⟩
            case round =>
              obtain ⟨b, C, B', z', rfl, rfl, hgk, HZB', HSB', HIN', HOF', HB', HR', HRI', HI'⟩ := hrel
              have HZB' := Lib.hid HZB'.out
              have HSB' := Lib.hid HSB'.out
              have HIN' := Lib.hid HIN'.out
              have HOF' := Lib.hid HOF'.out
              have HB' := Lib.hid HB'.out
              have HR' := Lib.hid HR'.out
              have HRI' := Lib.hid HRI'.out
              have HI' := Lib.hid HI'.out
              cases b
              case false =>
                have HE' := Lib.hid HI'.out.end
                go_wp2
                go_roundg (K - (N + 1))
                case measure => omega
                case rel => exact ⟨N + 1, B', z', by omega, by omega, by go_num, rfl, HZB'.out, HSB'.out, HIN'.out, HE'.out, HB'.out, HR'.out, HRI'.out⟩
              case true =>
                obtain ⟨ho, hCl, hok, hvis⟩ := HI'.out.1 rfl
                have HO' := Lib.hid ho
                have HCL := Lib.hid hCl
                have HOK := Lib.hid hok
                have HVIS := Lib.hid hvis
                have hCN := hok.cnt
                have hCne : C ≠ [] := fun e => by rw [e] at hCl; simp at hCl
                have HCne := Lib.hid hCne
                obtain ⟨gX, capX, he2, _, hgl'⟩ := OwnE ho hCne
                simp only [Value.slice.injEq, Option.some.injEq, Addr.mk.injEq, and_true] at he2
                obtain ⟨rfl, hXX, rfl⟩ := he2
                clear hXX
                have hcs := ho.sl encI_len
                obtain ⟨_, _, hce, _, _, _, hcel⟩ := hcs
                simp only [Value.slice.injEq] at hce
                obtain ⟨hce1, hce2, hce3⟩ := hce
                subst hce1
                have HCE := Lib.hid hcel
                obtain ⟨_, _, hre, _, _, _, hrel2⟩ := HR'.out
                simp only [Value.slice.injEq, true_and] at hre
                obtain ⟨hre1, hre2⟩ := hre
                subst hre1
                have HRE := Lib.hid hrel2
                have HRG := Lib.hid hok.rng
                have HNL : Hid (N + 1 = C.length) := Lib.hid hCl.symm
                have HLL := Lib.hid (fun k => (show (ratesAt R (C.take k)).length ≤ 1000 by unfold ratesAt; rw [List.length_map, List.length_take]; omega))
                have hN1 : N + 1 ≤ 100 := by omega
                have hNz : ((N + 1 : Nat) : Int) ≤ 100 := by omega
                clear ho hCl hok hvis hCne hcel hce2 hce3 hrel2 hre2
                obtain ⟨wA, rfl⟩ : ∃ wA, wA = wr := ⟨wr, rfl⟩
                go_wp2
                go_loopg [22, 97] (N + 1) (fun gg s22 s97 wq => ∃ j : Nat, j ≤ N + 1 ∧ N + 1 - j ≤ gg ∧ s97 = .int .i64 j ∧ Aside (Own wq wA.heap.size 3 1 encI s22 (ratesAt R (C.take j))) ∧ Aside (Below wA.heap.size wA wq))
                case atStart => exact ⟨0, Nat.zero_le _, by omega, by go_num, (show Own _ _ _ _ _ _ (ratesAt R (C.take 0)) from Own.nil), Below.refl _ _⟩
                case round =>
                  obtain ⟨j, hj, hg3, rfl, OQ, BQ⟩ := hrel
                  have OQ := Lib.hid OQ.out
                  have BQ := Lib.hid BQ.out
                  by_cases hlt2 : j < N + 1
                  · have hltz2 : (j : Int) < ((N + 1 : Nat) : Int) := by omega
                    have hltz3 : (j : Int) < (N : Int) + 1 := by omega
                    have hjc : j < C.length := by have := HNL.out; omega
                    obtain ⟨z, hz⟩ : ∃ z, C[j]? = some z := ⟨C[j], by simp [hjc]⟩
                    obtain ⟨bc, oc, hbe, hcc⟩ := HCE.out j z hz
                    simp only [Option.some.injEq, Addr.mk.injEq, and_true] at hbe
                    obtain ⟨rfl, rfl⟩ := hbe
                    have e0 : wA.cell? ⟨g, 0 + j, none⟩ = some (.int .i64 z) := by have h := hcc 0 _ rfl; simpa using h
                    have d0 := (BQ.out.cell (p := ⟨g, 0 + j, none⟩) (World.block_lt_of_cell? wA _ e0)).trans e0
                    rw [Nat.zero_add] at d0
                    obtain ⟨hz0, hz1⟩ := HRG.out z (List.mem_of_getElem? hz)
                    obtain ⟨n, rfl⟩ : ∃ n : Nat, z = (n : Int) := ⟨z.toNat, by omega⟩
                    have hn : n < R.length := by omega
                    obtain ⟨y, hy⟩ : ∃ y, R[n]? = some y := ⟨R[n], by simp [hn]⟩
                    obtain ⟨br, or, hro, hcr⟩ := HRE.out n y hy
                    have e1 : wA.cell? ⟨br, or + n, none⟩ = some (.int .i64 y) := by have h := hcr 0 _ rfl; simpa using h
                    have d1 := (BQ.out.cell (p := ⟨br, or + n, none⟩) (World.block_lt_of_cell? wA _ e1)).trans e1
                    have hnx : Hid (ratesAt R (C.take (j + 1)) = ratesAt R (C.take j) ++ [y]) := Lib.hid (by rw [ratesAt_next hz, Int.toNat_natCast, getD_of hy])
                    have hll := Lib.hid (HLL.out j)
                    obtain ⟨so, sn, sc, rfl⟩ := Own.slv encI_len OQ.out
                    have hsz : wA.heap.size ≤ wr.heap.size := BQ.out.size
                    subst hro
                    clear hz hcc e0 hy hcr e1
                    go_wp2_with (at_builtin; go_loud (refine wpList_push (W := wr) (v := .slice so sn sc) rfl _ _ 23 rfl slI rfl rfl y rfl rfl rfl OQ.out rfl (by have := hll.out; omega) hsz ?_); intro v8 w8 ho8 hb8; rw [← hnx.out] at ho8; have HO8 := Lib.hid ho8; have HB8 := Lib.hid (BQ.out.trans hb8); clear ho8 hb8)
                    go_roundg (N + 1 - (j + 1))
                    case measure => omega
                    case rel => exact ⟨j + 1, by omega, by omega, by go_num, HO8.out, HB8.out⟩
                  · obtain rfl : j = N + 1 := by omega
                    have hltz2 : ¬ ((N + 1 : Nat) : Int) < ((N + 1 : Nat) : Int) := by omega
                    obtain ⟨wB, rfl⟩ : ∃ wB, wB = wr := ⟨wr, rfl⟩
                    have hos := OQ.out
                    have htc : C.take (N + 1) = C := List.take_of_length_le (by have := HNL.out; omega)
                    rw [htc] at hos
                    obtain ⟨S, hS⟩ : ∃ S, S = ratesAt R C := ⟨_, rfl⟩
                    rw [← hS] at hos
                    have HOS := Lib.hid hos
                    have HSS := Lib.hid (hos.sl encI_len)
                    have HS := Lib.hid hS
                    have HFC : Hid (f C = sumA F W S F.length) := Lib.hid (by rw [HFV.out, hS])
                    obtain ⟨so, sn, sc, rfl⟩ := Own.slv encI_len hos
                    have HBW4 := Lib.hid (HB'.out.trans (BQ.out.mono HB'.out.size))
                    have HBN := Lib.hid (sumA_bnd HQU.out HWB.out HWL.out S)
                    have hwB : w.heap.size ≤ wB.heap.size := HBW4.out.size
                    clear hos htc hS OQ
                    go_wp2
                    go_loopg [25, 111] F.length (fun gg s25 s111 wq => ∃ k : Nat, k ≤ F.length ∧ F.length - k ≤ gg ∧ s111 = .int .i64 k ∧ s25 = .int .i64 (sumA F W S k) ∧ Aside (Below wB.heap.size wB wq))
                    case atStart => exact ⟨0, Nat.zero_le _, by omega, by go_num, rfl, Below.refl _ _⟩
                    case round =>
                      obtain ⟨k, hk, hg4, rfl, rfl, BR⟩ := hrel
                      have BR := Lib.hid BR.out
                      by_cases hlt4 : k < F.length
                      · have hltz4 : (k : Int) < (F.length : Int) := by omega
                        have hltw : (k : Int) < (W.length : Int) := by have := HWL.out; omega
                        obtain ⟨fm, hfm2⟩ : ∃ fm, F[k]? = some fm := ⟨F[k], by simp [hlt4]⟩
                        obtain ⟨bf, of, hfo, hcc⟩ := HFE.out k fm hfm2
                        have HBR2 := Lib.hid (HBW4.out.trans (BR.out.mono hwB))
                        have e0 : w.cell? ⟨bf, of + k, none⟩ = some fm.v := by have h := hcc 0 _ rfl; simpa using h
                        have d0 : wr.cell? ⟨bf, of + k, none⟩ = some fm.v := (HBR2.out.cell (p := ⟨bf, of + k, none⟩) (World.block_lt_of_cell? w _ e0)).trans e0
                        obtain ⟨z, hz⟩ : ∃ z, W[k]? = some z := ⟨W[k]'(by have := HWL.out; omega), by simp [show k < W.length by have := HWL.out; omega]⟩
                        obtain ⟨bw, ow, hwo, hcw⟩ := HWE.out k z hz
                        have e1 : w.cell? ⟨bw, ow + k, none⟩ = some (.int .i64 z) := by have h := hcw 0 _ rfl; simpa using h
                        have d1 : wr.cell? ⟨bw, ow + k, none⟩ = some (.int .i64 z) := (HBR2.out.cell (p := ⟨bw, ow + k, none⟩) (World.block_lt_of_cell? w _ e1)).trans e1
                        have hl1 := World.block_lt_of_cell? wr _ d1
                        have hfw := (HFW.out fm (List.mem_of_getElem? hfm2)).1
                        have hzb := HWB.out z (List.mem_of_getElem? hz)
                        have hTB := topA_bnd (HQU.out fm (List.mem_of_getElem? hfm2)) S fm.l.length
                        have HSN : Hid (sumA F W S (k + 1) = sumA F W S k + z * topF fm.l S) := Lib.hid (by rw [sumA, getD_of hz, getD_of hfm2])
                        have HTF : Hid (topF fm.l S = topA fm.l S fm.l.length) := Lib.hid rfl
                        rw [← HTF.out] at hTB
                        have hbk := HBN.out k (by omega)
                        have hkk : (k : Int) * 1000000000000 ≤ 50000000000000 := by omega
                        have HBA := Lib.hid (fun (X : World) (hX : Below wr.heap.size wr X) => bestAt_any X fm.l S fm.v (.slice so sn sc) (hfw.below (HBR2.out.trans (hX.mono HBR2.out.size)) (Nat.le_refl _)) (HSS.out.below (BR.out.trans (hX.mono BR.out.size)) (Nat.le_refl _)))
                        obtain ⟨T, hT⟩ : ∃ T, T = topF fm.l S := ⟨_, rfl⟩
                        rw [← hT] at HSN hTB HBA
                        obtain ⟨Q, hQ⟩ : ∃ Q, Q = sumA F W S k := ⟨_, rfl⟩
                        rw [← hQ] at HSN hbk ⊢
                        have hz0 : 0 ≤ z * T := Int.mul_nonneg (by omega) hTB.1
                        have hz1 : z * T ≤ 1000000 * 1000000 := Int.mul_le_mul hzb.2 hTB.2 hTB.1 (by omega)
                        obtain ⟨MM, hM⟩ : ∃ MM, MM = z * T := ⟨_, rfl⟩
                        rw [← hM] at hz0 hz1 HSN
                        have hwr1 : IntKind.i64.wrap (z * T) = MM := by rw [← hM]; exact IntWalk.i64_in _ (by omega)
                        have hwr2 : IntKind.i64.wrap (Q + MM) = Q + MM := IntWalk.i64_in _ (by omega)
                        have HKC : Hid (∀ X : World, Below wr.heap.size wr X → X.cell? ⟨bw, ow + k, none⟩ = some (.int .i64 z)) := Lib.hid (fun X hX => (hX.cell (p := ⟨bw, ow + k, none⟩) hl1).trans d1)
                        subst hfo
                        subst hwo
                        obtain ⟨fv0, hfv0⟩ : ∃ fv0, fv0 = fm.v := ⟨_, rfl⟩
                        rw [← hfv0] at d0 HBA
                        have hbc : Below wr.heap.size wr wr.drew := (Below.refl _ wr).drew
                        clear hfm2 hcc e0 hz hcw e1 hfw hT hQ hM hfv0
                        go_upto_region 49 with (fail)
                        go_region_held3 (fun X => X.cell? ⟨bw, ow + k, none⟩ = some (.int .i64 z))
                          (first | exact HKC.out _ hbc | fail "keep")
                          (first | (go_at_call 20; ((with_reducible refine (HBA.out _ hbc).mono ?_); rintro e w' ⟨rfl, hb⟩; replace hbc := hbc.thru hb; clear hb)) | fail "arms")
                        all_goals
                          have HB9 := Lib.hid (BR.out.trans (hbc.mono BR.out.size))
                          go_wp2
                          go_roundg (F.length - (k + 1))
                          case measure => omega
                          case rel => exact ⟨k + 1, by omega, by omega, by go_num, by rw [HSN.out], HB9.out⟩
                      · obtain rfl : k = F.length := by omega
                        have hltz4 : ¬ (F.length : Int) < (F.length : Int) := by omega
                        rw [← HFC.out]
                        obtain ⟨w9, rfl⟩ : ∃ w9, w9 = wr := ⟨wr, rfl⟩
                        have HW4 := Lib.hid (BQ.out.trans (BR.out.mono BQ.out.size))
                        have HB9 := Lib.hid (HB'.out.trans (HW4.out.mono HB'.out.size))
                        have HO5 := Lib.hid (HO'.out.below HW4.out (Nat.le_refl _))
                        have HS4 := Lib.hid (HSB'.out.below HW4.out (Nat.le_refl _))
                        have HI4 := Lib.hid (HIN'.out.le HW4.out.size)
                        have HR9 := Lib.hid (HR'.out.below HW4.out (Nat.le_refl _))
                        have HRI9 := Lib.hid (HRI'.out.le HW4.out.size)
                        have HSS9 := Lib.hid (HSS.out.below BR.out (Nat.le_refl _))
                        have HSI9 := Lib.hid ((inB.own HOS.out).le BR.out.size)
                        have HSO9 := Lib.hid (HOS.out.offB hgl')
                        by_cases hgt : z' < f C
                        · have HVE := Lib.hid (HVIS.out.up HOK.out HCL.out (by rw [← HZB'.out]; exact hgt))
                          have HS5 := HSS9
                          have HI5 := HSI9
                          have HOF5 := HSO9
                          rw [HS.out] at HS5
                          have ho5 := HO5.out
                          rw [← HCL.out] at ho5
                          have hnx := nextR_any R.length C w9 base g cap ho5 HCne.out (by omega) HOK.out.inc HOK.out.rng
                          rw [HCL.out] at hnx
                          have HNX := Lib.hid hnx
                          clear ho5 hnx
                          go_wp2_with fail
                          refine HNX.out.mono ?_
                          rintro e w6 ⟨b6, rfl, ho6, h6f, h6t⟩
                          have HB6 := Lib.hid (HB9.out.trans (ho6.toBelow HB9.out.size (by omega)))
                          have HS6 := Lib.hid (HS5.out.onl HOF5.out ho6)
                          have HI6 := Lib.hid (HI5.out.le ho6.size)
                          have HR6 := Lib.hid ((HR9.out.onl HRO.out ho6))
                          have HRI6 := Lib.hid (HRI9.out.le ho6.size)
                          cases b6
                          case false =>
                            have HBE6 := Lib.hid (HVE.out.last HCL.out (h6f rfl))
                            clear h6f h6t ho6
                            go_wp2
                            go_roundg 0
                            case measure => have h := hgk; unfold mesW at h; rw [if_pos rfl] at h; omega
                            case rel => exact ⟨false, C, C, _, rfl, rfl, (by unfold mesW; simp), (show _ = _ from rfl), HS6.out, HI6.out, HOF5.out, HB6.out, HR6.out, HRI6.out, ⟨(fun h => by cases h), fun _ => HBE6.out⟩⟩
                          case true =>
                            obtain ⟨C', hN', hO'⟩ := h6t rfl
                            have hCl' := hN'.ok HOK.out.inc HOK.out.rng
                            have HVN := Lib.hid (HVE.out.next HCL.out hN')
                            have HMU' := Lib.hid (mu_next (n := R.length) hCl'.1.symm hN'.lt HOK.out.rng hCl'.2.2)
                            have HOK' : Hid (okW R.length (N + 1) C') := Lib.hid ⟨hCl'.2.2, hCl'.2.1, by rw [hCl'.1, HCL.out]; exact Nat.le_refl _⟩
                            have HCL' : Hid (C'.length = N + 1) := Lib.hid (hCl'.1.trans HCL.out)
                            have HO6 := Lib.hid hO'
                            clear h6f h6t ho6 hN' hCl' hO'
                            go_wp2
                            go_roundg (mesW R.length true C')
                            case measure => have h := hgk; have h2 := HMU'.out; unfold mesW at h ⊢; rw [if_pos rfl] at h ⊢; omega
                            case rel => exact ⟨true, C', C, _, rfl, rfl, Nat.le_refl _, (show _ = _ from rfl), HS6.out, HI6.out, HOF5.out, HB6.out, HR6.out, HRI6.out, ⟨fun _ => ⟨HO6.out, HCL'.out, HOK'.out, HVN.out⟩, fun h => by cases h⟩⟩
                        · have HVE := Lib.hid (HVIS.out.stay HCL.out (by rw [← HZB'.out]; exact hgt))
                          have HS5 := HS4
                          have HI5 := HI4
                          have HOF5 := HOF'
                          have ho5 := HO5.out
                          rw [← HCL.out] at ho5
                          have hnx := nextR_any R.length C w9 base g cap ho5 HCne.out (by omega) HOK.out.inc HOK.out.rng
                          rw [HCL.out] at hnx
                          have HNX := Lib.hid hnx
                          clear ho5 hnx
                          go_wp2_with fail
                          refine HNX.out.mono ?_
                          rintro e w6 ⟨b6, rfl, ho6, h6f, h6t⟩
                          have HB6 := Lib.hid (HB9.out.trans (ho6.toBelow HB9.out.size (by omega)))
                          have HS6 := Lib.hid (HS5.out.onl HOF5.out ho6)
                          have HI6 := Lib.hid (HI5.out.le ho6.size)
                          have HR6 := Lib.hid ((HR9.out.onl HRO.out ho6))
                          have HRI6 := Lib.hid (HRI9.out.le ho6.size)
                          cases b6
                          case false =>
                            have HBE6 := Lib.hid (HVE.out.last HCL.out (h6f rfl))
                            clear h6f h6t ho6
                            go_wp2
                            go_roundg 0
                            case measure => have h := hgk; unfold mesW at h; rw [if_pos rfl] at h; omega
                            case rel => exact ⟨false, C, B', _, rfl, rfl, (by unfold mesW; simp), HZB'.out, HS6.out, HI6.out, HOF5.out, HB6.out, HR6.out, HRI6.out, ⟨(fun h => by cases h), fun _ => HBE6.out⟩⟩
                          case true =>
                            obtain ⟨C', hN', hO'⟩ := h6t rfl
                            have hCl' := hN'.ok HOK.out.inc HOK.out.rng
                            have HVN := Lib.hid (HVE.out.next HCL.out hN')
                            have HMU' := Lib.hid (mu_next (n := R.length) hCl'.1.symm hN'.lt HOK.out.rng hCl'.2.2)
                            have HOK' : Hid (okW R.length (N + 1) C') := Lib.hid ⟨hCl'.2.2, hCl'.2.1, by rw [hCl'.1, HCL.out]; exact Nat.le_refl _⟩
                            have HCL' : Hid (C'.length = N + 1) := Lib.hid (hCl'.1.trans HCL.out)
                            have HO6 := Lib.hid hO'
                            clear h6f h6t ho6 hN' hCl' hO'
                            go_wp2
                            go_roundg (mesW R.length true C')
                            case measure => have h := hgk; have h2 := HMU'.out; unfold mesW at h ⊢; rw [if_pos rfl] at h ⊢; omega
                            case rel => exact ⟨true, C', B', _, rfl, rfl, Nat.le_refl _, HZB'.out, HS6.out, HI6.out, HOF5.out, HB6.out, HR6.out, HRI6.out, ⟨fun _ => ⟨HO6.out, HCL'.out, HOK'.out, HVN.out⟩, fun h => by cases h⟩⟩
end Go.Proofs.Ytibnbhjiohighaa

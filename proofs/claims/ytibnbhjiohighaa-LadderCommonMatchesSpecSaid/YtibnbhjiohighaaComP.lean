/- Common of the program. -/
import Derived.Test.YtibnbhjiohighaaClo
import Derived.Test.YtibnbhjiohighaaRts
import Derived.Test.YtibnbhjiohighaaChoK
namespace Go.Proofs.Ytibnbhjiohighaa
open Go.RowKit

set_option maxRecDepth 100000 in
set_option maxHeartbeats 4000000 in
theorem comFault_any (w : World) (F : List Flm) (W : List Int) (m : Int) (fv wv : Value) (hF : Sl w 1 encFl fv F) (hFW : ∀ f, f ∈ F → WfF w f) (hW : Sl w 1 encI wv W) :
    Calls Try.prog 8 #[fv, wv, .int .i64 m] w fun e w' => e = .returned (.int .i64 (comFa F W m)) ∧ Below w.heap.size w w' := by
  have HFS := Lib.hid hF
  have HFW := Lib.hid hFW
  obtain ⟨fo, fcap, rfl, hfc, hfm, _, hfel⟩ := hF
  obtain ⟨wo, wcap, rfl, hwc, hwm, _, hwel⟩ := hW
  unfold maxLen at hfm hwm
  have HFE := Lib.hid hfel
  have HWE := Lib.hid hwel
  have HV : Hid (comFa F W m = if 50 < F.length then 2 else if FF (fF F) F.length ≠ 0 then FF (fF F) F.length else if W.length ≠ F.length then 3 else if W.any (fun x => outB x 1 1000000) = true then 1 else if outB m 0 100 = true then 1 else if 14 < (rts F).length then 2 else 0) := Lib.hid rfl
  obtain ⟨V, hV⟩ : ∃ V, V = comFa F W m := ⟨_, rfl⟩
  rw [← hV] at HV ⊢
  clear hV hfel hwel hFW
  by_cases h50 : 50 < F.length
  · have hz : (50 : Int) < (F.length : Int) := by omega
    have hv : Hid (V = 2) := Lib.hid (by rw [HV.out, if_pos h50])
    clear h50
    go_enter Try.func8, Try.ntmps8
    go_wp2
    go_ret
    exact ⟨ret_int hv.out.symm, Below.refl _ _⟩
  have hz50 : ¬ (50 : Int) < (F.length : Int) := by omega
  have HV1 : Hid (V = if FF (fF F) F.length ≠ 0 then FF (fF F) F.length else if W.length ≠ F.length then 3 else if W.any (fun x => outB x 1 1000000) = true then 1 else if outB m 0 100 = true then 1 else if 14 < (rts F).length then 2 else 0) := Lib.hid (by rw [HV.out, if_neg h50])
  clear HV
  go_enter Try.func8, Try.ntmps8
  go_wp2
  go_loopg [17] F.length (fun gg s17 wr => ∃ k : Nat, k ≤ F.length ∧ F.length - k ≤ gg ∧ s17 = .int .i64 k ∧ Aside (Below w.heap.size w wr) ∧ Aside (∀ j, j < k → fF F j = 0))
  case atStart => exact ⟨0, Nat.zero_le _, by omega, by go_num, Below.refl _ w, fun j hj => absurd hj (Nat.not_lt_zero _)⟩
  case round =>
    obtain ⟨k, hk, hg, rfl, BW, A⟩ := hrel
    have BW := Lib.hid BW.out
    have A := Lib.hid A.out
    by_cases hlt : k < F.length
    · have hltz : (k : Int) < (F.length : Int) := by omega
      obtain ⟨f, hf⟩ : ∃ f, F[k]? = some f := ⟨F[k], by simp [hlt]⟩
      obtain ⟨b, off, rfl, hcc⟩ := HFE.out k f hf
      have e0 : w.cell? ⟨b, off + k, none⟩ = some f.v := by have h := hcc 0 _ rfl; simpa using h
      have d0 : wr.cell? ⟨b, off + k, none⟩ = some f.v := (BW.out.cell (p := ⟨b, off + k, none⟩) (World.block_lt_of_cell? w _ e0)).trans e0
      have hfw := HFW.out f (List.mem_of_getElem? hf)
      have HCR := Lib.hid (checkRen_any wr f.l f.v (hfw.1.below BW.out (Nat.le_refl _)) hfw.2)
      have HFF : Hid (fF F k = checkR f.l) := Lib.hid (by unfold fF; rw [getD_of hf])
      obtain ⟨q, hq⟩ : ∃ q, q = checkR f.l := ⟨_, rfl⟩
      rw [← hq] at HCR HFF
      clear hf hcc e0 hfw hq
      go_upto_region 7 with (go_at_call 22; refine HCR.out.mono ?_; rintro e w2 ⟨rfl, hb2⟩; have HB2 := Lib.hid (BW.out.thru hb2); clear hb2)
      by_cases hq0 : q = 0
      · subst hq0
        go_wp2
        go_roundg (F.length - (k + 1))
        case measure => omega
        case rel =>
          refine ⟨k + 1, by omega, by omega, by go_num, HB2.out, (show Aside _ from fun j hj => ?_)⟩
          by_cases e : j = k
          · subst e; exact HFF.out
          · exact A.out j (by omega)
      · have hv : Hid (V = q) := Lib.hid (by
          have hh := (FF_hit (f := fF F) hlt A.out (by rw [HFF.out]; exact hq0)).trans HFF.out
          rw [HV1.out, hh, if_pos hq0])
        go_wp2
        go_ret
        exact ⟨ret_int hv.out.symm, HB2.out⟩
    · obtain rfl : k = F.length := by omega
      have hltz : ¬ (F.length : Int) < (F.length : Int) := by omega
      have hFF := FF_zero (f := fF F) (n := F.length) A.out
      have HV2 : Hid (V = if W.length ≠ F.length then 3 else if W.any (fun x => outB x 1 1000000) = true then 1 else if outB m 0 100 = true then 1 else if 14 < (rts F).length then 2 else 0) := Lib.hid (by rw [HV1.out, hFF]; rfl)
      clear hFF HV1
      by_cases hwl : W.length = F.length
      case neg =>
        have hwz : ¬ (W.length : Int) = (F.length : Int) := by omega
        have hv : Hid (V = 3) := Lib.hid (by rw [HV2.out, if_pos hwl])
        go_wp2
        go_ret
        exact ⟨ret_int hv.out.symm, BW.out⟩
      have hwz : (W.length : Int) = (F.length : Int) := by omega
      have HV3 : Hid (V = if W.any (fun x => outB x 1 1000000) = true then 1 else if outB m 0 100 = true then 1 else if 14 < (rts F).length then 2 else 0) := Lib.hid (by rw [HV2.out, if_neg (by omega)])
      have HWL := Lib.hid hwl
      have hw50 : W.length ≤ 50 := by omega
      have HZF := Lib.hid A.out
      clear hwl HV2 A
      obtain ⟨w5, rfl⟩ : ∃ w5, w5 = wr := ⟨wr, rfl⟩
      go_upto_region 12 with (fail)
      clear hwz
      go_wp2
      go_loopg [34] W.length (fun gg s34 wq => ∃ k : Nat, k ≤ W.length ∧ W.length - k ≤ gg ∧ s34 = .int .i64 k ∧ Aside (∀ j x, W[j]? = some x → j < k → outB x 1 1000000 = false) ∧ w5 = wq)
      case atStart => exact ⟨0, Nat.zero_le _, by omega, by go_num, (fun j x _ hj => absurd hj (Nat.not_lt_zero _)), rfl⟩
      case round =>
        obtain ⟨k, hk, hg, rfl, A, rfl⟩ := hrel
        have A := Lib.hid A.out
        by_cases hlt : k < W.length
        · have hltz2 : (k : Int) < (W.length : Int) := by omega
          obtain ⟨z, hz⟩ : ∃ z, W[k]? = some z := ⟨W[k], by simp [hlt]⟩
          obtain ⟨b, off, rfl, hcc⟩ := HWE.out k z hz
          have e0 : w.cell? ⟨b, off + k, none⟩ = some (.int .i64 z) := by have h := hcc 0 _ rfl; simpa using h
          have d0 : w5.cell? ⟨b, off + k, none⟩ = some (.int .i64 z) := (BW.out.cell (p := ⟨b, off + k, none⟩) (World.block_lt_of_cell? w _ e0)).trans e0
          have HZ := Lib.hid hz
          clear hz hcc e0
          cases hq : outB z 1 1000000
          · have HQ := Lib.hid hq
            have HO := Lib.hid (out_any z 1 1000000 w5)
            rw [hq] at HO
            clear hq
            go_wp2_with (go_at_call 23; refine HO.out.mono ?_; rintro e w' ⟨rfl, rfl⟩)
            go_roundg (W.length - (k + 1))
            case measure => omega
            case rel =>
              refine ⟨k + 1, by omega, by omega, by go_num, (show Aside _ from fun j x hx hj => ?_), rfl⟩
              by_cases e : j = k
              · subst e
                have := HZ.out.symm.trans hx
                simp at this; subst this; exact HQ.out
              · exact A.out j x hx (by omega)
          · have hv : Hid (V = 1) := Lib.hid (by rw [HV3.out, if_pos (List.any_eq_true.2 ⟨z, List.mem_of_getElem? HZ.out, hq⟩)])
            have HO := Lib.hid (out_any z 1 1000000 w5)
            rw [hq] at HO
            clear hq
            go_wp2_with (go_at_call 23; refine HO.out.mono ?_; rintro e w' ⟨rfl, rfl⟩)
            go_ret
            exact ⟨ret_int hv.out.symm, BW.out⟩
        · obtain rfl : k = W.length := by omega
          have hltz2 : ¬ (W.length : Int) < (W.length : Int) := by omega
          have hany : W.any (fun x => outB x 1 1000000) = false := by
            rw [List.any_eq_false]
            intro x hx
            obtain ⟨j, hj, rfl⟩ := List.mem_iff_getElem.1 hx
            simp [A.out j _ (List.getElem?_eq_getElem hj) hj]
          have HV4 : Hid (V = if outB m 0 100 = true then 1 else if 14 < (rts F).length then 2 else 0) := Lib.hid (by rw [HV3.out, hany]; rfl)
          have HO := Lib.hid (out_any m 0 100 w5)
          clear hany HV3 A
          cases hq : outB m 0 100
          case true =>
            have hv : Hid (V = 1) := Lib.hid (by rw [HV4.out, if_pos hq])
            rw [hq] at HO
            clear hq
            go_wp2_with (go_at_call 23; refine HO.out.mono ?_; rintro e w' ⟨rfl, rfl⟩)
            go_ret
            exact ⟨ret_int hv.out.symm, BW.out⟩
          have HV5 : Hid (V = if 14 < (rts F).length then 2 else 0) := Lib.hid (by rw [HV4.out, if_neg (by rw [hq]; decide)])
          rw [hq] at HO
          have HRT := Lib.hid (ratesOf_any w5 F _ (HFS.out.below BW.out (Nat.le_refl _)) (fun f hf => ⟨(HFW.out f hf).1.below BW.out (Nat.le_refl _), (HFW.out f hf).2⟩) (by omega) (fun f hf => by
            obtain ⟨i, hi, rfl⟩ := List.mem_iff_getElem.1 hf
            have h := HZF.out i hi
            unfold fF at h
            rw [List.getD_eq_getElem?_getD, List.getElem?_eq_getElem hi] at h
            exact (checkR_zero h).1))
          obtain ⟨R, hR⟩ : ∃ R, R = rts F := ⟨_, rfl⟩
          rw [← hR] at HRT HV5
          clear hq hR HV4
          by_cases h14 : 14 < R.length
          · have hz14 : (14 : Int) < (R.length : Int) := by omega
            have hv : Hid (V = 2) := Lib.hid (by rw [HV5.out, if_pos h14])
            clear h14
            go_wp2_with (first | (go_at_call 23; refine HO.out.mono ?_; rintro e w' ⟨rfl, rfl⟩) | (go_at_call 9; refine HRT.out.mono ?_; rintro e w7 ⟨v7, rfl, ho7, hb7⟩; obtain ⟨ao7, cap7, rfl, _, _, _, _⟩ := ho7.sl encI_len; have HB7 := Lib.hid (BW.out.thru hb7); clear ho7 hb7))
            go_ret
            exact ⟨ret_int hv.out.symm, HB7.out⟩
          · have hz14 : ¬ (14 : Int) < (R.length : Int) := by omega
            have hv : Hid (V = 0) := Lib.hid (by rw [HV5.out, if_neg h14])
            clear h14
            go_wp2_with (first | (go_at_call 23; refine HO.out.mono ?_; rintro e w' ⟨rfl, rfl⟩) | (go_at_call 9; refine HRT.out.mono ?_; rintro e w7 ⟨v7, rfl, ho7, hb7⟩; obtain ⟨ao7, cap7, rfl, _, _, _, _⟩ := ho7.sl encI_len; have HB7 := Lib.hid (BW.out.thru hb7); clear ho7 hb7))
            go_ret
            exact ⟨ret_int hv.out.symm, HB7.out⟩
end Go.Proofs.Ytibnbhjiohighaa

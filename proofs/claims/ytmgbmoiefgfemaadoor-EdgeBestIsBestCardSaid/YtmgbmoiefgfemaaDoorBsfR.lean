/- Best of the reference: the walk. -/
import Derived.Test.YtmgbmoiefgfemaaDoorBsfL
import Derived.Test.YtmgbmoiefgfemaaDoorCrvR
import Derived.Test.YtmgbmoiefgfemaaDoorNor0
import Derived.Deep.RegionHeld3
namespace Go.Proofs.YtmgbmoiefgfemaaDoor
open Go.RowKit

set_option maxHeartbeats 1000000 in
theorem nextUse_any (w : World) (K : List ByteArray) (v : Value) (i : Nat) (s : ByteArray) (hl : Sl w 1 encS v K) (hi : i ≤ 1000) (hn : K.length ≤ 1000) :
    Calls Tryd.prog 70 #[v, .int .i64 i, .string s] w fun e w' => e = .returned (.int .i64 (nxU K s (i + 1) : Nat)) ∧ w = w' := by
  obtain ⟨ao, cap, rfl, hcap, hmax, _, hel⟩ := hl
  unfold maxLen at hmax
  have HEL := Lib.hid hel
  have hw1 : IntKind.i64.wrap ((i : Int) + 1) = (i : Int) + 1 := IntWalk.i64_in _ (by omega)
  clear hel
  go_enter Tryd.func70, Tryd.ntmps70
  go_wp2
  go_loopg [7] (1001 + K.length) (fun gg s7 wr => ∃ k : Nat, i + 1 ≤ k ∧ (k ≤ K.length ∨ k = i + 1) ∧ 1001 + K.length - k ≤ gg ∧ s7 = .int .i64 k ∧ Aside (nxU K s (i + 1) = nxU K s k) ∧ w = wr)
  case atStart => exact ⟨i + 1, Nat.le_refl _, Or.inr rfl, by omega, by go_num, (show _ = _ from rfl), rfl⟩
  case round =>
    obtain ⟨k, hk1, hk2, hgk, rfl, A, rfl⟩ := hrel
    by_cases hkl : k < K.length
    · have hkz : (k : Int) < (K.length : Int) := by omega
      have hk0 : (0 : Int) ≤ (k : Int) := by omega
      obtain ⟨x, hx⟩ : ∃ x, K[k]? = some x := ⟨K[k], by simp [hkl]⟩
      obtain ⟨b, off, rfl, hc⟩ := HEL.out k x hx
      have c0 : w.cell? ⟨b, off + k, none⟩ = some (.string x) := by have h := hc 0 _ rfl; simpa using h
      have HX : Hid (keyA K k = x) := Lib.hid (by unfold keyA; rw [List.getD_eq_getElem?_getD, hx]; rfl)
      have hw2 : IntKind.i64.wrap ((k : Int) + 1) = (k : Int) + 1 := IntWalk.i64_in _ (by omega)
      clear hx hc
      cases e1 : (x.toList == s.toList)
      case true =>
        have hv : Hid (k = nxU K s (i + 1)) := Lib.hid (by
          rw [A.out, nxU_here hkl (by rw [HX.out]; exact ba_eq (by simpa using e1))])
        go_wp2
        go_ret
        exact ⟨ret_int (by rw [hv.out]), rfl⟩
      case false =>
        have hv : Hid (nxU K s (i + 1) = nxU K s (k + 1)) := Lib.hid (by
          rw [A.out, nxU_on hkl (by rw [HX.out]; exact fun e => by rw [e] at e1; simp at e1)])
        go_wp2
        go_roundg (1001 + K.length - (k + 1))
        case measure => omega
        case rel => exact ⟨k + 1, by omega, by omega, by omega, by go_num, (show _ = _ from hv.out), rfl⟩
    · have hkz : ¬ (k : Int) < (K.length : Int) := by omega
      have hv : Hid (K.length = nxU K s (i + 1)) := Lib.hid (by rw [A.out, nxU_end K s (by omega)])
      go_wp2
      go_ret
      exact ⟨ret_int (by rw [← hv.out]), rfl⟩
def bsV (K : List ByteArray) (m : Int) : Int := if crvF K m = 0 then bsN K m.toNat else 0
def BsfP (w : World) (K : List ByteArray) (m : Int) : Ending → World → Prop := fun e w' => e = .returned (.tuple #[.int .i64 (bsV K m), .int .i64 (crvF K m)]) ∧ Below w.heap.size w w'
theorem BsfP.mk {w w' : World} {K : List ByteArray} {m a f : Int} (ha : a = bsV K m) (hf : f = crvF K m) (hb : Below w.heap.size w w') : BsfP w K m (.returned (.tuple #[.int .i64 a, .int .i64 f])) w' := ⟨by rw [ha, hf], hb⟩
theorem rfS_next (K : List ByteArray) (r i : Nat) : rfS K r (i + 1) = (if Lib.containsS (rfS K r i).1 (keyA K i) = true then ((rfS K r i).1, (rfS K r i).2 + 1) else ((if (rfS K r i).1.length = r then (rfS K r i).1.eraseIdx (wrA K i (rfS K r i).1 (rfS K r i).1.length) else (rfS K r i).1) ++ [keyA K i], (rfS K r i).2)) := rfl
set_option maxRecDepth 100000 in
set_option maxHeartbeats 4000000 in
theorem BestR_any (w : World) (K : List ByteArray) (v : Value) (m : Int) (hl : Sl w 1 encS v K) (hw : ∀ x, x ∈ K → x.size ≤ 9223372036854775807) :
    Calls Tryd.prog 29 #[v, .int .i64 m] w (BsfP w K m) := by
  have H1 := Lib.hid (checkKeysR_any w K v hl hw)
  have HFF := Lib.hid (outS_any K m)
  have HNO := Lib.hid (fun (h : crvF K m ≠ 0) => show bsV K m = 0 from by unfold bsV; rw [if_neg h])
  have HYES := Lib.hid (fun (h : crvF K m = 0) => show bsV K m = bsN K m.toNat from by unfold bsV; rw [if_pos h])
  have HK := Lib.hid (fun (h : kyF K = 0) => (kyF_zero h).1)
  have HL := Lib.hid hl
  obtain ⟨r, hr⟩ : ∃ r, r = kyF K := ⟨_, rfl⟩
  rw [← hr] at H1 HFF HK
  obtain ⟨ao, cap, rfl, hcap, hmax, _, hel⟩ := hl
  unfold maxLen at hmax
  have HEL := Lib.hid hel
  clear hel hw hr
  go_enter Tryd.func29, Tryd.ntmps29
  go_upto_region 2 with (go_at_call 68; refine H1.out.mono ?_; rintro e w1 ⟨rfl, hb⟩; have HB1 := Lib.hid hb; clear hb)
  cases e1 : (r != 0)
  case true =>
    have hr0 : r ≠ 0 := by simpa using e1
    have hf : Hid (r = crvF K m) := Lib.hid (by rw [HFF.out, if_pos hr0])
    have HN1 := Lib.hid (HNO.out (by rw [← hf.out]; exact hr0))
    go_wp2
    go_ret2
    exact BsfP.mk HN1.out.symm hf.out HB1.out
  have hr0 : r = 0 := by simpa using e1
  subst hr0
  clear e1
  cases o1 : outB m 0 1000
  case true =>
    have hf : Hid (1 = crvF K m) := Lib.hid (by rw [HFF.out, if_neg (by simp), if_pos o1])
    have HN1 := Lib.hid (HNO.out (by rw [← hf.out]; simp))
    go_wp2_with (go_at_call 41; refine (withinE_any _ _ _ _).mono ?_; rintro e w' ⟨rfl, rfl⟩)
    go_ret2
    exact BsfP.mk HN1.out.symm hf.out HB1.out
  have hf : Hid (0 = crvF K m) := Lib.hid (by rw [HFF.out, if_neg (by simp), if_neg (by simp [o1])])
  have hm := outB_no' (show ¬ outB m 0 1000 = true by rw [o1]; simp)
  obtain ⟨M, rfl⟩ : ∃ M : Nat, m = (M : Int) := ⟨m.toNat, by omega⟩
  have HYE := Lib.hid (HYES.out hf.out.symm)
  rw [Int.toNat_natCast] at HYE
  have hn1000 := HK.out rfl
  have hM1 : M ≤ 1000 := by omega
  clear H1 HFF HNO HYES HK
  by_cases hM0 : M = 0
  · subst hM0
    have HN1 : Hid (0 = bsV K ((0 : Nat) : Int)) := Lib.hid (by rw [HYE.out]; rfl)
    go_wp2_with (go_at_call 41; refine (withinE_any _ _ _ _).mono ?_; rintro e w' ⟨rfl, rfl⟩)
    go_ret2
    exact BsfP.mk HN1.out hf.out HB1.out
  have hMz : ((M : Int) == 0) = false := by simpa using hM0
  have HBN : Hid ((rfS K M K.length).2 = bsV K M) := Lib.hid (by rw [HYE.out]; unfold bsN; rw [if_neg hM0])
  have HEL1 := Lib.hid (el_below HEL.out HB1.out (Nat.le_refl _))
  have HL1 := Lib.hid (HL.out.below HB1.out (Nat.le_refl _))
  go_wp2_with (go_at_call 41; refine (withinE_any _ _ _ _).mono ?_; rintro e w' ⟨rfl, rfl⟩)
  obtain ⟨B, hB⟩ : ∃ B, B = w1.heap.size := ⟨_, rfl⟩
  have HB := Lib.hid hB
  clear hB
  go_loopg [7, 8, 25] K.length (fun gg s7 s8 s25 wr => ∃ i : Nat, i ≤ K.length ∧ K.length - i ≤ gg ∧ s25 = .int .i64 i ∧ s7 = .int .i64 (rfS K M i).2 ∧ Aside (Own wr B 9 1 encS s8 (rfS K M i).1) ∧ Aside (Below B w1 wr))
  case atStart => exact ⟨0, by omega, by omega, rfl, rfl, (show Own _ _ _ _ _ _ _ from Own.nil), (show Aside _ from Below.refl _ _)⟩
  case round =>
    obtain ⟨wi, rfl⟩ : ∃ wi : World, wi = wr := ⟨_, rfl⟩
    obtain ⟨i, hi, hgi, rfl, rfl, OI, BI⟩ := hrel
    obtain ⟨ra, rc, P0, rfl, hrc1, hrc2, _, hre⟩ := own_parts encS_len OI.out
    unfold maxLen at hrc2
    have HRE := Lib.hid hre
    clear hre
    have hBs : B ≤ wi.heap.size := by have h1 := BI.out.size; have h2 := HB.out; omega
    have HBF : Hid (Below w.heap.size w wi) := Lib.hid (HB1.out.thru (by have h := BI.out; rw [HB.out] at h; exact h))
    by_cases hil : i < K.length
    · have hiz : (i : Int) < (K.length : Int) := by omega
      obtain ⟨x, hx⟩ : ∃ x, K[i]? = some x := ⟨K[i], by simp [hil]⟩
      obtain ⟨b, off, rfl, hc⟩ := HEL1.out i x hx
      have hbl : b < B := by have h1 : b < w1.heap.size := World.block_lt_of_cell? w1 _ (hc 0 _ rfl); have h2 := HB.out; omega
      have c0 : wi.cell? ⟨b, off + i, none⟩ = some (.string x) := by have h := (BI.out.cell (p := ⟨b, off + i * 1 + 0, none⟩) hbl).trans (hc 0 _ rfl); simpa using h
      have HX : Hid (keyA K i = x) := Lib.hid (by unfold keyA; rw [List.getD_eq_getElem?_getD, hx]; rfl)
      have HNX := Lib.hid (rfS_next K M i)
      rw [HX.out] at HNX
      have hlb := rfS_len K M i
      obtain ⟨H, hH⟩ : ∃ H, H = (rfS K M i).1 := ⟨_, rfl⟩
      obtain ⟨z, hz⟩ : ∃ z, z = (rfS K M i).2 := ⟨_, rfl⟩
      rw [← hH] at OI HNX hlb HRE hrc1
      rw [← hz] at HNX hlb
      rw [← hH, ← hz]
      have HCT := Lib.hid (contains_any H x _ wi (OI.out.sl encS_len))
      have HNU := Lib.hid (fun (W : World) (hb : Below B w1 W) (s : ByteArray) => nextUse_any W K _ i s (HL1.out.below hb (by rw [HB.out]; exact Nat.le_refl _)) (by omega) hn1000)
      clear hx hc hH hz
      go_wp2_with fail
      with_reducible refine HCT.out.mono ?_
      rintro e w' ⟨rfl, hw⟩
      obtain rfl := hw
      cases e1 : Lib.containsS H x
      case true =>
        have HN2 : Hid (rfS K M (i + 1) = (H, z + 1)) := Lib.hid (by rw [HNX.out, e1]; rfl)
        have hzw : IntKind.i64.wrap (z + 1) = z + 1 := IntWalk.i64_in _ (by omega)
        go_wp2
        go_roundg (K.length - (i + 1))
        case measure => omega
        case rel => exact ⟨i + 1, by omega, by omega, by go_num, (by rw [HN2.out]), (show Aside (Own _ _ _ _ _ _ _) from by rw [HN2.out]; exact OI.out), BI⟩
      case false =>
        have hBF2 : Below w.heap.size w w' := HBF.out
        by_cases hlM : H.length = M
        · have hlM2 : ((H.length : Int) == (M : Int)) = true := by rw [hlM]; simp
          have HN2 : Hid (rfS K M (i + 1) = (H.eraseIdx (wrA K i H H.length) ++ [x], z)) := Lib.hid (by rw [HNX.out, e1, if_neg (by simp), if_pos hlM])
          have hwo := (wrA_ok K i H H.length).1 (by omega)
          clear hlM
          go_wp2
          go_loopg [11, 41] H.length (fun g2 s11 s41 wr => ∃ k : Nat, k ≤ H.length ∧ H.length - k ≤ g2 ∧ s41 = .int .i64 k ∧ s11 = .int .i64 (wrA K i H k : Nat) ∧ ∃ nn, wr = w'.drewN nn)
          case atStart => exact ⟨0, by omega, by omega, rfl, rfl, 0, rfl⟩
          case round =>
            obtain ⟨k, hk, hgk, rfl, rfl, nn, rfl⟩ := hrel
            by_cases hkl : k < H.length
            · have hkz : (k : Int) < (H.length : Int) := by omega
              have hwk : wrA K i H k < H.length := by
                cases k with
                | zero => show 0 < H.length; omega
                | succ q => have := (wrA_ok K i H (q + 1)).1 (by omega); omega
              have HWN : Hid (wrA K i H (k + 1) = if nxU K (keyA H (wrA K i H k)) (i + 1) < nxU K (keyA H k) (i + 1) then k else wrA K i H k) := Lib.hid rfl
              obtain ⟨wo, hwo2⟩ : ∃ wo, wo = wrA K i H k := ⟨_, rfl⟩
              rw [← hwo2] at HWN hwk ⊢
              have hwz : (wo : Int) < (H.length : Int) := by omega
              obtain ⟨y1, hy1⟩ : ∃ y, H[k]? = some y := ⟨H[k], by simp [hkl]⟩
              obtain ⟨y2, hy2⟩ : ∃ y, H[wo]? = some y := ⟨H[wo], by simp [hwk]⟩
              obtain ⟨rfl, hP1, hq1⟩ := HRE.out k y1 hy1
              obtain ⟨_, _, hq2⟩ := HRE.out wo y2 hy2
              have d1 : w'.cell? ⟨P0, k, none⟩ = some (.string y1) := by have h := hq1 0 _ rfl; simpa using h
              have d2 : w'.cell? ⟨P0, wo, none⟩ = some (.string y2) := by have h := hq2 0 _ rfl; simpa using h
              have hk1 : keyA H k = y1 := by unfold keyA; rw [List.getD_eq_getElem?_getD, hy1]; rfl
              have hk2 : keyA H wo = y2 := by unfold keyA; rw [List.getD_eq_getElem?_getD, hy2]; rfl
              rw [hk1, hk2] at HWN
              obtain ⟨W0, hW0⟩ : ∃ W0, W0 = w'.drewN nn := ⟨_, rfl⟩
              have D1 : W0.cell? ⟨P0, k, none⟩ = some (.string y1) := by rw [hW0]; exact d1
              have D2 : W0.cell? ⟨P0, wo, none⟩ = some (.string y2) := by rw [hW0]; exact d2
              have HSS : Hid (W0.drew.cell? ⟨P0, k, none⟩ = some (.string y1) ∧ W0.drew.cell? ⟨P0, wo, none⟩ = some (.string y2)) := Lib.hid ⟨D1, D2⟩
              have hbB : Below B w1 W0.drew := by rw [hW0]; exact (below_drewN BI.out nn).drew
              have N1 := Lib.hid (HNU.out W0.drew hbB y1)
              have N2 := Lib.hid (HNU.out W0.drew hbB y2)
              have HW0 := Lib.hid hW0
              rw [← hW0]
              obtain ⟨n1, hn1⟩ : ∃ n1, n1 = nxU K y1 (i + 1) := ⟨_, rfl⟩
              obtain ⟨n2, hn2⟩ : ∃ n2, n2 = nxU K y2 (i + 1) := ⟨_, rfl⟩
              rw [← hn1] at N1 HWN
              rw [← hn2] at N2 HWN
              clear hy1 hy2 hq1 hq2 d1 d2 hk1 hk2 hwo2 hW0 hn1 hn2 c0
              by_cases hlt : n2 < n1
              · have hltz : (n2 : Int) < (n1 : Int) := by omega
                have HN3 : Hid (wrA K i H (k + 1) = k) := Lib.hid (by rw [HWN.out, if_pos hlt])
                go_upto_region 20 with (fail)
                go_region_held3 (fun W => W.cell? ⟨P0, k, none⟩ = some (.string y1) ∧ W.cell? ⟨P0, wo, none⟩ = some (.string y2))
                  (first | exact HSS.out | fail "keep")
                  (first | (go_at_call 70; ((with_reducible refine (N1.out).mono ?_); rintro e w9 ⟨rfl, rfl⟩))
                         | (go_at_call 70; ((with_reducible refine (N2.out).mono ?_); rintro e w9 ⟨rfl, rfl⟩)) | fail "arms")
                all_goals
                  go_wp2
                  go_roundg (H.length - (k + 1))
                  case measure => omega
                  case rel => exact ⟨k + 1, by omega, by omega, by go_num, (by rw [HN3.out]), nn + 1, (by rw [HW0.out]; rfl)⟩
              · have hltz : ¬ (n2 : Int) < (n1 : Int) := by omega
                have HN3 : Hid (wrA K i H (k + 1) = wo) := Lib.hid (by rw [HWN.out, if_neg hlt])
                go_upto_region 20 with (fail)
                go_region_held3 (fun W => W.cell? ⟨P0, k, none⟩ = some (.string y1) ∧ W.cell? ⟨P0, wo, none⟩ = some (.string y2))
                  (first | exact HSS.out | fail "keep")
                  (first | (go_at_call 70; ((with_reducible refine (N1.out).mono ?_); rintro e w9 ⟨rfl, rfl⟩))
                         | (go_at_call 70; ((with_reducible refine (N2.out).mono ?_); rintro e w9 ⟨rfl, rfl⟩)) | fail "arms")
                all_goals
                  go_wp2
                  go_roundg (H.length - (k + 1))
                  case measure => omega
                  case rel => exact ⟨k + 1, by omega, by omega, by go_num, (by rw [HN3.out]), nn + 1, (by rw [HW0.out]; rfl)⟩
            · obtain rfl : k = H.length := by omega
              obtain ⟨W0, hW0⟩ : ∃ W0, W0 = w'.drewN nn := ⟨_, rfl⟩
              have HOW : Hid (Own W0 B 9 1 encS (.slice ra H.length rc) H) := Lib.hid (by rw [hW0]; exact OI.out)
              have HBW0 : Hid (Below B w1 W0) := Lib.hid (by rw [hW0]; exact below_drewN BI.out nn)
              have hBs0 : B ≤ W0.heap.size := by rw [hW0]; exact hBs
              rw [← hW0]
              clear hW0
              obtain ⟨wo, hwo2⟩ : ∃ wo, wo = wrA K i H H.length := ⟨_, rfl⟩
              rw [← hwo2] at HN2 hwo ⊢
              have hwz : (wo : Int) < (H.length : Int) := by omega
              have hww : IntKind.i64.wrap ((wo : Int) + 1) = (wo : Int) + 1 := IntWalk.i64_in _ (by omega)
              have HDE := Lib.hid (delS_any W0 B wo H _ HOW.out hwo)
              unfold InsPS at HDE
              have hel : (H.eraseIdx wo).length ≤ 1000000 := by have := List.length_eraseIdx_le H wo; omega
              clear hwo2
              go_wp2_with fail
              with_reducible refine HDE.out.mono ?_
              rintro e w7 ⟨v7, rfl, ho7, hb7⟩
              have HO7 := Lib.hid ho7
              have HB7 := Lib.hid (HBW0.out.trans hb7)
              have hB7 : B ≤ w7.heap.size := Nat.le_trans hBs0 hb7.size
              clear ho7 hb7 HDE
              go_wp2_with (at_builtin; go_loud (refine wpList_push rfl _ _ 44 rfl slS rfl rfl (enc := encS) x rfl rfl rfl HO7.out rfl (by omega) hB7 ?_); intro v8 w8 ho8 hb8; have HO8 := Lib.hid ho8; have HB8 := Lib.hid (HB7.out.trans hb8); clear ho8 hb8)
              go_roundg (K.length - (i + 1))
              case measure => omega
              case rel => exact ⟨i + 1, by omega, by omega, by go_num, (by rw [HN2.out]), (show Aside (Own _ _ _ _ _ _ _) from by rw [HN2.out]; exact HO8.out), (show Aside _ from HB8.out)⟩
        · have hlM2 : ((H.length : Int) == (M : Int)) = false := by rw [beq_eq_false_iff_ne]; omega
          have HN2 : Hid (rfS K M (i + 1) = (H ++ [x], z)) := Lib.hid (by rw [HNX.out, e1, if_neg (by simp), if_neg hlM])
          have HBI := Lib.hid BI.out
          go_wp2_with (at_builtin; go_loud (refine wpList_push rfl _ _ 44 rfl slS rfl rfl (enc := encS) x rfl rfl rfl OI.out rfl (by omega) hBs ?_); intro v8 w8 ho8 hb8; have HO8 := Lib.hid ho8; have HB8 := Lib.hid (HBI.out.trans hb8); clear ho8 hb8)
          go_roundg (K.length - (i + 1))
          case measure => omega
          case rel => exact ⟨i + 1, by omega, by omega, by go_num, (by rw [HN2.out]), (show Aside (Own _ _ _ _ _ _ _) from by rw [HN2.out]; exact HO8.out), (show Aside _ from HB8.out)⟩
    · obtain rfl : i = K.length := by omega
      go_wp2
      go_ret2
      exact BsfP.mk HBN.out hf.out HBF.out
end Go.Proofs.YtmgbmoiefgfemaaDoor

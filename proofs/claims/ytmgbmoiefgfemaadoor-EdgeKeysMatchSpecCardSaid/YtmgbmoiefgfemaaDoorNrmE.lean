/- decoded of the reference: the walk. -/
import Derived.Test.YtmgbmoiefgfemaaDoorNrmD
namespace Go.Proofs.YtmgbmoiefgfemaaDoor
open Go.RowKit

theorem data_ext {a b : ByteArray} (h : a.data.toList = b.data.toList) : a = b := ByteArray.ext (Array.ext' h)
theorem data_app (a b : ByteArray) : (a ++ b).data.toList = a.data.toList ++ b.data.toList := by rw [ByteArray.data_append, Array.toList_append]
theorem extr_one {s : ByteArray} {i : Nat} {c : UInt8} (h : s.data.toList[i]? = some c) : s.extract i (i + 1) = ⟨#[c]⟩ := by
  apply data_ext
  rw [ByteArray.data_extract, Array.toList_extract]
  obtain ⟨hi, hc⟩ := List.getElem?_eq_some_iff.1 h
  simp only [List.extract]
  rw [Nat.add_sub_cancel_left, List.drop_eq_getElem_cons hi]
  simp [hc]
theorem enc_ascii {n : Nat} (h : n < 128) : Utf8.encode (n : Int) = ⟨#[UInt8.ofNat n]⟩ := by
  have hv : Utf8.valid (n : Int) = true := by
    unfold Utf8.valid
    simp
    omega
  unfold Utf8.encode
  simp only [hv, if_true]
  have h1 : ((n : Int).toNat < 128) := by omega
  simp only [h1, if_true]
  simp
theorem extH_at (k : Nat) (h : k < 16) : ({ data := #[48, 49, 50, 51, 52, 53, 54, 55, 56, 57, 65, 66, 67, 68, 69, 70] } : ByteArray).extract k (k + 1) = ⟨#[digU k]⟩ := by
  refine extr_one ?_
  show ([48, 49, 50, 51, 52, 53, 54, 55, 56, 57, 65, 66, 67, 68, 69, 70] : List UInt8)[k]? = _
  have := digs_any k h
  rw [← this, List.getD_eq_getElem?_getD, List.getElem?_eq_getElem (by simpa using h)]
  rfl
theorem comU_ascii : ∀ n, n < 256 → comU (UInt8.ofNat n) = true → n < 128 := by decide +kernel
set_option maxRecDepth 100000 in
set_option maxHeartbeats 2000000 in
theorem decodedR_any (s : ByteArray) (w : World) (hs : s.size ≤ 300) :
    Calls Tryd.prog 61 #[.string s] w fun e w' => e = .returned (.tuple #[.string (decS s), .bool (decOk s)]) ∧ ∃ n, w' = w.drewN n := by
  obtain ⟨l, hl⟩ : ∃ l, l = s.data.toList := ⟨_, rfl⟩
  have hll : l.length = s.size := by rw [hl, Array.length_toList]; rfl
  have HS : Hid (∀ t, decG l = some t → decS s = ⟨t.toArray⟩ ∧ decOk s = true) := Lib.hid (fun t h => by unfold decS decOk; rw [← hl, h]; exact ⟨rfl, rfl⟩)
  have HN : Hid (decG l = none → decS s = ⟨#[]⟩ ∧ decOk s = false) := Lib.hid (fun h => by unfold decS decOk; rw [← hl, h]; exact ⟨rfl, rfl⟩)
  have HC : Hid (∀ i (c : UInt8), l[i]? = some c → chr s i = (c.toNat : Int)) := Lib.hid (fun i c h => chr_nat (by rw [← hl]; exact h))
  have HX1 : Hid (∀ (i : Nat) (c : UInt8), l[i]? = some c → s.extract i (i + 1) = ⟨#[c]⟩) := Lib.hid (fun i c h => extr_one (by rw [← hl]; exact h))
  have HLL := Lib.hid hll
  have hs1 : (s.size : Int) ≤ 300 := by omega
  have hs' : s.size ≤ 9223372036854775807 := by omega
  generalize decS s = R at HS HN ⊢
  generalize decOk s = K at HS HN ⊢
  clear hl hll
  go_enter Tryd.func61, Tryd.ntmps61
  go_wp2_with fail
  go_loopg [4, 5, 6] s.size (fun gg s4 s5 s6 wr => ∃ (i : Nat) (A : ByteArray), i ≤ s.size ∧ s.size - i ≤ gg ∧ s5 = .int .i64 i ∧ s4 = .string A ∧ A.size ≤ i ∧ (∃ nn, wr = w.drewN nn) ∧ Aside (decG l = (decG (l.drop i)).map (A.data.toList ++ ·)))
  case atStart => exact ⟨0, ⟨#[]⟩, by omega, by omega, rfl, rfl, by decide, ⟨0, rfl⟩, (show Aside (decG l = (decG (l.drop 0)).map ([] ++ ·)) from by show _ = _; rw [List.drop_zero]; cases decG l <;> rfl)⟩
  case round =>
    obtain ⟨wq, hwq⟩ : ∃ wq : World, wq = wr := ⟨_, rfl⟩
    rw [← hwq] at hrel ⊢
    obtain ⟨i, A, hi, hgi, rfl, rfl, hA, ⟨nn, hnn⟩, DG⟩ := hrel
    clear hwq
    have HW := Lib.hid hnn
    have HD := Lib.hid DG.out
    clear DG hnn
    by_cases hlt : i < s.size
    · have hltz : (i : Int) < (s.size : Int) := by omega
      obtain ⟨c, hcx⟩ : ∃ c, l[i]? = some c := ⟨l[i]'(by have := HLL.out; omega), by simp⟩
      have hc := (chr_of hlt).trans (HC.out i c hcx)
      have HDR := Lib.hid (drop_next hcx)
      have hcl := c.toNat_lt
      by_cases h37 : c = 37
      · subst h37
        have hc37 : (((37 : UInt8).toNat : Nat) : Int) = 37 := rfl
        rw [hc37] at hc
        by_cases h2 : i + 2 < s.size
        · obtain ⟨J1, hJ1⟩ : ∃ J, J = i + 1 := ⟨_, rfl⟩
          obtain ⟨J2, hJ2⟩ : ∃ J, J = i + 2 := ⟨_, rfl⟩
          have e1 : (i : Int) + 1 = (J1 : Int) := by omega
          have e2 : (i : Int) + 2 = (J2 : Int) := by omega
          have hj1 : J1 < s.size := by omega
          have hj2 : J2 < s.size := by omega
          have hj1z : (J1 : Int) < (s.size : Int) := by omega
          have hj2z : (J2 : Int) < (s.size : Int) := by omega
          obtain ⟨a, hax⟩ : ∃ c, l[J1]? = some c := ⟨l[J1]'(by have := HLL.out; omega), by simp⟩
          obtain ⟨b, hbx⟩ : ∃ c, l[J2]? = some c := ⟨l[J2]'(by have := HLL.out; omega), by simp⟩
          have hca := (chr_of hj1).trans (HC.out J1 a hax)
          have hcb := (chr_of hj2).trans (HC.out J2 b hbx)
          have HDA := Lib.hid (drop_next hax)
          have HDB := Lib.hid (drop_next hbx)
          have HDD : Hid (decG l = (decG (37 :: a :: b :: l.drop (i + 3))).map (A.data.toList ++ ·)) := Lib.hid (by
            have h1 := HDA.out
            have h3 := HDB.out
            rw [hJ1] at h1
            rw [hJ2] at h3
            rw [HD.out, HDR.out, h1, show i + 1 + 1 = i + 2 by omega, h3, show i + 2 + 1 = i + 3 by omega])
          have HHA := Lib.hid (fun W => digitR_any a W)
          have HHB := Lib.hid (fun W => digitR_any b W)
          have HJ := Lib.hid (And.intro hJ1 hJ2)
          obtain ⟨AN, hAN⟩ : ∃ A, A = a.toNat := ⟨_, rfl⟩
          obtain ⟨BN, hBN⟩ : ∃ A, A = b.toNat := ⟨_, rfl⟩
          rw [← hAN] at HHA hca
          rw [← hBN] at HHB hcb
          clear hAN hBN hJ1 hJ2 hax hbx hcx HDA HDB HDR HD
          cases ha : hexV a with
          | none =>
            obtain ⟨hR, hK⟩ := HN.out (by rw [HDD.out, decG_no _ (.inl ha)]; rfl)
            have HR := Lib.hid (And.intro hR hK)
            rw [show hexI a = -1 by unfold hexI; rw [ha]] at HHA
            clear hR hK ha HHB
            go_wp2_with (go_at_call 93; with_reducible refine (HHA.out _).mono ?_; rintro e w' ⟨rfl, rfl⟩)
            go_ret2
            exact ⟨by rw [HR.out.1, HR.out.2]; rfl, nn, HW.out⟩
          | some x =>
            rw [hexI_some ha] at HHA
            have hx16 := hexV_lt ha
            have hx0 : ¬ (x : Int) < 0 := by omega
            cases hb : hexV b with
            | none =>
              obtain ⟨hR, hK⟩ := HN.out (by rw [HDD.out, decG_no _ (.inr hb)]; rfl)
              have HR := Lib.hid (And.intro hR hK)
              rw [show hexI b = -1 by unfold hexI; rw [hb]] at HHB
              clear hR hK hb ha
              go_wp2_with (first | (go_at_call 93; with_reducible refine (HHA.out _).mono ?_; rintro e w' ⟨rfl, rfl⟩) | (go_at_call 93; with_reducible refine (HHB.out _).mono ?_; rintro e w' ⟨rfl, rfl⟩))
              go_ret2
              exact ⟨by rw [HR.out.1, HR.out.2]; rfl, nn, HW.out⟩
            | some y =>
              rw [hexI_some hb] at HHB
              have hy16 := hexV_lt hb
              have hy0 : ¬ (y : Int) < 0 := by omega
              have hpc := decG_pct (l.drop (i + 3)) ha hb
              obtain ⟨N, hN⟩ : ∃ N, N = 16 * x + y := ⟨_, rfl⟩
              rw [← hN] at hpc
              have hN256 : N < 256 := by omega
              have HNX : Hid (decG l = (decG (l.drop (i + 3))).map (A.data.toList ++ pctU N ++ ·)) := Lib.hid (by
                rw [HDD.out, hpc]
                cases decG (l.drop (i + 3)) with
                | none => rfl
                | some t => simp)
              obtain ⟨M, hM⟩ : ∃ M, M = 16 * x := ⟨_, rfl⟩
              have f1 : 16 * (x : Int) = (M : Int) := by omega
              have f2 : (M : Int) + (y : Int) = (N : Int) := by omega
              have f3 : (N : Int) % 256 = (N : Int) := by omega
              have g1 : IntKind.i64.wrap (16 * (x : Int)) = (M : Int) := by rw [f1]; exact IntWalk.i64_in _ (by omega)
              have g2 : IntKind.i64.wrap ((M : Int) + (y : Int)) = (N : Int) := by rw [f2]; exact IntWalk.i64_in _ (by omega)
              have g3 : IntKind.u8.wrap (N : Int) = (N : Int) := by rw [IntKind.wrap_u8]; omega
              have hwj1 : IntKind.i64.wrap ((i : Int) + 1) = (J1 : Int) := by rw [e1]; exact IntWalk.i64_in _ (by omega)
              have hwj2 : IntKind.i64.wrap ((i : Int) + 2) = (J2 : Int) := by rw [e2]; exact IntWalk.i64_in _ (by omega)
              have HCM := Lib.hid (fun W => plainR_any (UInt8.ofNat N) W)
              have hun : (UInt8.ofNat N).toNat = N := by rw [u8_toNat, Nat.mod_eq_of_lt hN256]
              rw [hun] at HCM
              have HPU : Hid (pctU N = if comU (UInt8.ofNat N) = true then [UInt8.ofNat N] else [37, digU (N / 16), digU (N % 16)]) := Lib.hid rfl
              have HNN := Lib.hid (And.intro hN hM)
              have hNz : (N : Int) < 256 := by omega
              clear ha hb hpc hN hM hun
              go_upto_region 9 with (first | (go_at_call 93; with_reducible refine (HHA.out _).mono ?_; rintro e w' ⟨rfl, rfl⟩) | (go_at_call 93; with_reducible refine (HHB.out _).mono ?_; rintro e w' ⟨rfl, rfl⟩))
              go_cut [6] (fun s6 wc => s6 = .int .u8 N ∧ ∃ q, wc = wq.drewN q)
              case first =>
                go_quiet (first | (go_at_call 93; with_reducible exact Calls.quiet_of_same ((HHA.out _).mono fun _ _ h => ⟨h.1, h.2.symm⟩)) | (go_at_call 93; with_reducible exact Calls.quiet_of_same ((HHB.out _).mono fun _ _ h => ⟨h.1, h.2.symm⟩)))
                go_wp2
                go_meet
                exact ⟨rfl, _, rfl⟩
              obtain ⟨rfl, q9, rfl⟩ := hcut
              obtain ⟨w9, hw9⟩ : ∃ w9, w9 = wq.drewN q9 := ⟨_, rfl⟩
              have HW9 : Hid (w9 = w.drewN (nn + q9)) := Lib.hid (by rw [hw9, HW.out, World.drewN_drewN])
              rw [← hw9]
              clear hw9 hwj1 hwj2 g1 g2 g3 f1 f2 f3 HHA HHB
              cases hcm : comU (UInt8.ofNat N)
              case true =>
                rw [hcm] at HCM
                have HP1 : Hid (pctU N = [UInt8.ofNat N]) := Lib.hid (by rw [HPU.out, if_pos hcm])
                have hN128 := comU_ascii N hN256 hcm
                have henc := enc_ascii hN128
                have HNY : Hid (decG l = (decG (l.drop (i + 3))).map ((A ++ (⟨#[UInt8.ofNat N]⟩ : ByteArray)).data.toList ++ ·)) := Lib.hid (by rw [HNX.out, HP1.out, data_app])
                have hz1 : (⟨#[UInt8.ofNat N]⟩ : ByteArray).size = 1 := rfl
                have hsz : (A ++ (⟨#[UInt8.ofNat N]⟩ : ByteArray)).size = A.size + 1 := by rw [ByteArray.size_append]; rfl
                have HSZ := Lib.hid hsz
                have hov : ¬ 9223372036854775807 < A.size + 1 := by omega
                have gw : IntKind.i32.wrap (N : Int) = (N : Int) := by rw [IntKind.wrap_i32]; omega
                clear hcm hsz hN128
                go_wp2_with (go_at_call 94; with_reducible refine (HCM.out _).mono ?_; rintro e w' ⟨rfl, rfl⟩)
                go_roundg (s.size - (i + 3))
                case measure => omega
                case rel => exact ⟨i + 3, A ++ (⟨#[UInt8.ofNat N]⟩ : ByteArray), by omega, by omega, (by have h := HJ.out.2; first | (rw [h]; go_num) | (subst h; go_num)), rfl, by rw [HSZ.out]; omega, ⟨_, HW9.out⟩, HNY.out⟩
              case false =>
                rw [hcm] at HCM
                have HP1 : Hid (pctU N = [37, digU (N / 16), digU (N % 16)]) := Lib.hid (by rw [HPU.out, if_neg (by simp [hcm])])
                clear hcm
                go_upto_region 12 with (go_at_call 94; with_reducible refine (HCM.out _).mono ?_; rintro e w' ⟨rfl, rfl⟩)
                obtain ⟨k1, hk1⟩ : ∃ k, k = N / 16 := ⟨_, rfl⟩
                obtain ⟨k2, hk2⟩ : ∃ k, k = N % 16 := ⟨_, rfl⟩
                have g1 : (N : Int) / 16 = (k1 : Int) := by omega
                have g2 : (N : Int) % 16 = (k2 : Int) := by omega
                have g3 : (N : Int).tmod 16 = (k2 : Int) := by rw [Int.tmod_eq_emod_of_nonneg (by omega)]; omega
                have hk1l : k1 < 16 := by omega
                have hk2l : k2 < 16 := by omega
                have gw1 : IntKind.u8.wrap (k1 : Int) = (k1 : Int) := by rw [IntKind.wrap_u8]; omega
                have gw2 : IntKind.u8.wrap (k2 : Int) = (k2 : Int) := by rw [IntKind.wrap_u8]; omega
                have gx1 : IntKind.u8.wrap ((k1 : Int) + 1) = ((k1 + 1 : Nat) : Int) := by rw [IntKind.wrap_u8]; omega
                have gx2 : IntKind.u8.wrap ((k2 : Int) + 1) = ((k2 + 1 : Nat) : Int) := by rw [IntKind.wrap_u8]; omega
                have q1 := extH_at k1 hk1l
                have q2 := extH_at k2 hk2l
                rw [← hk1, ← hk2] at HP1
                have HNY : Hid (decG l = (decG (l.drop (i + 3))).map ((A ++ ((⟨#[37]⟩ : ByteArray) ++ ⟨#[digU k1]⟩ ++ ⟨#[digU k2]⟩)).data.toList ++ ·)) := Lib.hid (by rw [HNX.out, HP1.out, data_app, data_app, data_app]; rfl)
                have hsz : (A ++ ((⟨#[37]⟩ : ByteArray) ++ ⟨#[digU k1]⟩ ++ ⟨#[digU k2]⟩)).size = A.size + 3 := by rw [ByteArray.size_append]; rfl
                have HSZ := Lib.hid hsz
                have hov : ¬ 9223372036854775807 < A.size + 3 := by omega
                clear hk1 hk2 HP1 HPU hsz
                go_quiet (fail)
                go_wp2
                go_roundg (s.size - (i + 3))
                case measure => omega
                case rel => exact ⟨i + 3, A ++ ((⟨#[37]⟩ : ByteArray) ++ (⟨#[digU k1]⟩ : ByteArray) ++ (⟨#[digU k2]⟩ : ByteArray)), by omega, by omega, (by have h := HJ.out.2; first | (rw [h]; go_num) | (subst h; go_num)), rfl, by rw [HSZ.out]; omega, ⟨_, by rw [HW9.out, World.drewN_drewN]⟩, HNY.out⟩
        · have h2z : ¬ (i : Int) + 2 < (s.size : Int) := by omega
          have h2z' : (s.size : Int) ≤ (i : Int) + 2 := by omega
          obtain ⟨hR, hK⟩ := HN.out (by
            rw [HD.out, HDR.out, decG_short (by rw [List.length_drop]; have := HLL.out; omega)]
            rfl)
          have HR := Lib.hid (And.intro hR hK)
          clear hR hK hcx h2
          go_wp2_with fail
          go_ret2
          exact ⟨by rw [HR.out.1, HR.out.2]; rfl, nn, HW.out⟩
      · have hn : ¬ (c.toNat : Int) = 37 := fun e => h37 (UInt8.toNat_inj.1 (by show c.toNat = 37; omega))
        have hnb : ((c.toNat : Int) != 37) = true := by rw [bne_iff_ne]; exact hn
        have hx := HX1.out i c hcx
        have HNX : Hid (decG l = (decG (l.drop (i + 1))).map ((A ++ (⟨#[c]⟩ : ByteArray)).data.toList ++ ·)) := Lib.hid (by
          rw [HD.out, HDR.out, decG_as _ h37, data_app]
          cases decG (l.drop (i + 1)) with
          | none => rfl
          | some t => simp)
        have hz1 : (⟨#[c]⟩ : ByteArray).size = 1 := rfl
        have hsz : (A ++ (⟨#[c]⟩ : ByteArray)).size = A.size + 1 := by rw [ByteArray.size_append]; rfl
        have HSZ := Lib.hid hsz
        have hov : ¬ 9223372036854775807 < A.size + 1 := by omega
        clear h37 hcx hn hsz
        go_wp2
        go_roundg (s.size - (i + 1))
        case measure => omega
        case rel => exact ⟨i + 1, A ++ (⟨#[c]⟩ : ByteArray), by omega, by omega, by go_num, rfl, by rw [HSZ.out]; omega, ⟨nn, HW.out⟩, HNX.out⟩
    · obtain rfl : i = s.size := by omega
      obtain ⟨hR, hK⟩ := HS.out A.data.toList (by
        rw [HD.out, List.drop_eq_nil_of_le (by have := HLL.out; omega), show decG [] = some [] by rw [decG]]
        simp)
      have HR : Hid (R = A) := Lib.hid (by rw [hR])
      have HK := Lib.hid hK
      clear hR hK
      go_wp2_with fail
      go_ret2
      exact ⟨by rw [HR.out, HK.out]; rfl, nn, HW.out⟩
end Go.Proofs.YtmgbmoiefgfemaaDoor

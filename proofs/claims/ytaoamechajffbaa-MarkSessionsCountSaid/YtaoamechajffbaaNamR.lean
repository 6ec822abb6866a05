/- names of the reference: what it returns. -/
import Derived.Test.YtaoamechajffbaaNamL
import Derived.Test.YtaoamechajffbaaApp
import Derived.Deep.QuietTactic
namespace Go.Proofs.Ytaoamechajffbaa
open Go.RowKit

set_option maxRecDepth 100000 in
set_option maxHeartbeats 2000000 in
theorem names_any (w : World) (l : List Prt) (v : Value) (hl : Sl w 3 encP v l) (hn : l.length ≤ 1000) :
    Calls Try.prog 26 #[v] w (SlRet w 1 encN (nmN l l.length)) := by
  have HL := Lib.hid hl
  obtain ⟨ao, cap, rfl, hcap, hmax, hnil, hel⟩ := hl
  unfold maxLen at hmax
  have HEL := Lib.hid hel
  clear hel
  go_enter Try.func26, Try.ntmps26
  go_wp2
  go_loopg [3, 4] l.length (fun gg s3 s4 wr => ∃ kk : Nat, kk ≤ l.length ∧ l.length - kk ≤ gg ∧ s4 = .int .i64 kk ∧ Aside (Below w.heap.size w wr) ∧ Aside (Own wr w.heap.size 9 1 encN s3 (nmN l kk)))
  case atStart => exact ⟨0, Nat.zero_le _, by omega, rfl, Below.refl _ w, (show Own _ _ _ _ _ _ _ from Own.nil)⟩
  case round =>
    obtain ⟨kk, hkk, hg, rfl, BW, OW⟩ := hrel
    by_cases hlt : kk < l.length
    · have hltz : (kk : Int) < (l.length : Int) := by omega
      obtain ⟨p, hx⟩ : ∃ x, l[kk]? = some x := ⟨l[kk], by simp [hlt]⟩
      obtain ⟨b, off, rfl, hc⟩ := HEL.out kk p hx
      have hlt0 := World.block_lt_of_cell? w _ (hc 0 _ rfl)
      have c0 : wr.cell? ⟨b, off + kk * 3, none⟩ = some (.string p.ad) := by have h := (BW.out.cell (p := ⟨b, off + kk * 3 + 0, none⟩) hlt0).trans (hc 0 _ rfl); simpa using h
      have HNX := Lib.hid (nmN_next hx)
      have hszw := BW.out.size
      have hN := nmN_len l kk
      obtain ⟨L, hL⟩ : ∃ L, L = nmN l kk := ⟨_, rfl⟩
      rw [← hL] at OW HNX hN
      clear hL hx hc
      cases e1 : noAd p
      case true =>
        have e2 : p.ad.toList.isEmpty = true := e1
        go_wp2
        go_roundg (l.length - (kk + 1))
        case measure => omega
        case rel => exact ⟨kk + 1, by omega, by omega, by go_num, BW.out, (show Own _ _ _ _ _ _ _ from by rw [HNX.out, e1]; exact OW.out)⟩
      have e2 : p.ad.toList.isEmpty = false := e1
      have HNX2 : Hid (nmN l (kk + 1) = insN L p.ad) := Lib.hid (by rw [HNX.out, e1]; rfl)
      obtain ⟨ga, gL, gc, rfl⟩ := Own.slv encN_len OW.out
      have HSL := Lib.hid (OW.out.sl encN_len)
      have HFM := Lib.hid (Own.slw OW.out)
      obtain ⟨ga', gc', hv', hgc1, hgc2, hgc3, hgel⟩ := HSL.out
      simp only [Value.slice.injEq] at hv'
      obtain ⟨rfl, rfl, rfl⟩ := hv'
      unfold maxLen at hgc2
      have HGEL := Lib.hid hgel
      clear hgel
      go_wp2
      go_loopg [5] L.length (fun gg2 s5 wq => ∃ k : Nat, k ≤ L.length ∧ k ≤ gg2 ∧ s5 = .int .i64 k ∧ (∃ nn, wq = wr.drewN nn) ∧ Aside (downK L p.ad L.length = downK L p.ad k))
      case atStart => exact ⟨L.length, Nat.le_refl _, Nat.le_refl _, rfl, ⟨0, rfl⟩, (show Aside _ from rfl)⟩
      case round =>
        obtain ⟨k, hk, hg2, rfl, ⟨nn, rfl⟩, AK⟩ := hrel
        obtain ⟨T, hT⟩ : ∃ T, T = (decide (0 < k) && ltB p.ad (L.getD (k - 1) ByteArray.empty)) := ⟨_, rfl⟩
        have HT := Lib.hid hT
        clear hT
        go_upto_region 7 with (fail)
        have hund : undef = Value.tuple #[] := rfl
        go_cut [35] (fun s35 w2 => s35 = .bool T ∧ ∃ n2, w2 = (wr.drewN nn).drewN n2)
        case first =>
          cases k with
          | zero =>
            have hT0 : Hid (T = false) := Lib.hid (by rw [HT.out]; rfl)
            go_quiet (fail)
            go_wp2
            go_meet
            exact ⟨by rw [hT0.out], _, rfl⟩
          | succ k =>
            obtain ⟨q, hq⟩ : ∃ x, L[k]? = some x := ⟨L[k]'(by omega), by simp⟩
            obtain ⟨b2, off2, hao2, hc2⟩ := HGEL.out k q hq
            subst hao2
            have d0 : wr.cell? ⟨b2, off2 + k, none⟩ = some (.string q) := by have h := hc2 0 _ rfl; simpa using h
            have hgd : L.getD (k + 1 - 1) ByteArray.empty = q := by rw [List.getD_eq_getElem?_getD]; simp [hq]
            have hkl : k < L.length := by omega
            have hT2 : Hid (T = ltB p.ad q) := Lib.hid (by rw [HT.out, hgd]; simp)
            clear hq hc2 hgd
            go_quiet (fail)
            go_wp2
            go_meet
            exact ⟨by rw [hT2.out, ← ltB_gtr], _, rfl⟩
        obtain ⟨rfl, nq, rfl⟩ := hcut
        rw [World.drewN_drewN]
        generalize nn + nq = nz
        cases T
        case true =>
          have hk0 : 0 < k := by have h := HT.out.symm; rw [Bool.and_eq_true] at h; exact of_decide_eq_true h.1
          have HLT : Hid (ltB p.ad (L.getD (k - 1) ByteArray.empty) = true) := Lib.hid (by have h := HT.out.symm; rw [Bool.and_eq_true] at h; exact h.2)
          clear hund
          go_wp2
          go_roundg (k - 1)
          case measure => omega
          case rel =>
            refine ⟨k - 1, by omega, by omega, by go_num, ⟨_, rfl⟩, (show Aside _ from ?_)⟩
            obtain ⟨j, rfl⟩ : ∃ j, k = j + 1 := ⟨k - 1, by omega⟩
            obtain ⟨q, hq⟩ : ∃ x, L[j]? = some x := ⟨L[j]'(by omega), by simp⟩
            have hgd : L.getD (j + 1 - 1) ByteArray.empty = q := by rw [List.getD_eq_getElem?_getD]; simp [hq]
            rw [AK.out, downK_lt hq (by rw [← hgd]; exact HLT.out)]
            rfl
        have HDK : Hid (downK L p.ad L.length = k) := Lib.hid (by
          rw [AK.out]
          cases k with
          | zero => rfl
          | succ j =>
            obtain ⟨q, hq⟩ : ∃ x, L[j]? = some x := ⟨L[j]'(by omega), by simp⟩
            have hgd : L.getD (j + 1 - 1) ByteArray.empty = q := by rw [List.getD_eq_getElem?_getD]; simp [hq]
            refine downK_ge hq ?_
            have h := HT.out.symm
            rw [hgd] at h
            simpa using h)
        obtain ⟨U, hU⟩ : ∃ U, U = hasB L p.ad k := ⟨_, rfl⟩
        have HU := Lib.hid hU
        clear hU
        have HIN : Hid (nmN l (kk + 1) = if U = true then L else L.take k ++ [p.ad] ++ L.drop k) := Lib.hid (by
          rw [HNX2.out]
          unfold insN
          rw [HDK.out, HU.out])
        clear hund
        go_upto_region 9 with (fail)
        have hund : undef = Value.tuple #[] := rfl
        go_cut [52] (fun s52 w2 => s52 = .bool U ∧ ∃ n2, w2 = (wr.drewN nz).drewN n2)
        case first =>
          cases k with
          | zero =>
            have hT0 : Hid (U = false) := Lib.hid (by rw [HU.out]; rfl)
            go_quiet (fail)
            go_wp2
            go_meet
            exact ⟨by rw [hT0.out], _, rfl⟩
          | succ k =>
            obtain ⟨q, hq⟩ : ∃ x, L[k]? = some x := ⟨L[k]'(by omega), by simp⟩
            obtain ⟨b2, off2, hao2, hc2⟩ := HGEL.out k q hq
            subst hao2
            have d0 : wr.cell? ⟨b2, off2 + k, none⟩ = some (.string q) := by have h := hc2 0 _ rfl; simpa using h
            have hgd : L.getD (k + 1 - 1) ByteArray.empty = q := by rw [List.getD_eq_getElem?_getD]; simp [hq]
            have hkl : k < L.length := by omega
            have hT2 : Hid (U = (q.toList == p.ad.toList)) := Lib.hid (by rw [HU.out]; unfold hasB; rw [hgd]; simp)
            clear hq hc2 hgd
            go_quiet (fail)
            go_wp2
            go_meet
            exact ⟨by rw [hT2.out], _, rfl⟩
        obtain ⟨rfl, nq2, rfl⟩ := hcut
        rw [World.drewN_drewN]
        generalize nz + nq2 = ny
        clear hund
        cases U
        case true =>
          go_wp2
          go_roundg (l.length - (kk + 1))
          case measure => omega
          case rel => exact ⟨kk + 1, by omega, by omega, by go_num, below_drewN BW.out _, (show Own _ _ _ _ _ _ _ from by rw [HIN.out]; exact OW.out.drewN _)⟩
        have HW2 : Hid (Below w.heap.size w (wr.drewN ny)) := Lib.hid (below_drewN BW.out _)
        have HS2 : Hid (Sl (wr.drewN ny) 1 encN (.slice ga L.length gc) L) := Lib.hid HSL.out
        have HS2t := Lib.hid (HS2.out.take rfl k hk)
        have d0 : (wr.drewN ny).cell? ⟨b, off + kk * 3, none⟩ = some (.string p.ad) := c0
        generalize wr.drewN ny = wd at HW2 HS2 HS2t d0 ⊢
        have hszd := HW2.out.size
        have hltd := World.block_lt_of_cell? wd _ d0
        have hkc : k ≤ gc := by omega
        have hll : L.length ≤ 1000 := by omega
        clear hnil hgc3 c0 hn HGEL HEL HL AK OW HSL HNX HNX2 HDK HU HT
        have hb0 : wd.heap.size ≤ wd.heap.size := Nat.le_refl _
        have HN0 : Hid (Own wd wd.heap.size 9 1 encN (.slice none 0 0) []) := Lib.hid Own.nil
        have htk : (L.take k).length = k := by simp; omega
        have HLB1 : Hid ((([] : List ByteArray).length + (L.take k).length) * 16 ≤ 140737488355328) := Lib.hid (by rw [htk]; simp; omega)
        clear htk
        rcases HFM.out with ⟨hsl, hLn⟩ | ⟨g, cc, hsl⟩
        · subst hLn
          simp only [Value.slice.injEq] at hsl
          obtain ⟨rfl, hL0, rfl⟩ := hsl
          obtain rfl : k = 0 := by simpa using hk
          go_upto_region 12 with (at_builtin; go_loud (refine wpList_extend (v := .slice none 0 0) (u := .slice none 0 0) (l := []) (m := []) rfl _ _ 56 rfl slS encN_len (fun _ => rfl) rfl rfl HN0.out HS2t.out HLB1.out hb0 ?_); intro v1 w1 ho1 hb1; have HO1 := Lib.hid ho1; have HB1 := Lib.hid hb1; clear ho1 hb1)
          obtain ⟨a1, n1, g1, rfl⟩ := Own.slv encN_len HO1.out
          have e0 := (HB1.out.cell (p := ⟨b, off + kk * 3, none⟩) hltd).trans d0
          have hb1 := HB1.out.size
          have HLB2 : Hid (((([] : List ByteArray) ++ []).length + 1) * 16 ≤ 140737488355328) := Lib.hid (by simp)
          go_upto_region 13 with (at_builtin; refine wpList_push rfl _ _ 56 rfl slS rfl rfl p.ad rfl rfl rfl HO1.out rfl HLB2.out hb1 ?_; intro v2 w2 ho2 hb2; have HO2 := Lib.hid ho2; have HB2 := Lib.hid (HB1.out.trans hb2); clear ho2 hb2)
          obtain ⟨a2, n2, g2, rfl⟩ := Own.slv encN_len HO2.out
          have hb2 := HB2.out.size
          have HS3 : Hid (Sl w2 1 encN (.slice none 0 0) []) := Lib.hid (HS2.out.below HB2.out (Nat.le_refl _))
          have HS4 : Hid (Sl w2 1 encN (.slice none 0 0) []) := Lib.hid Sl.nil
          have HLB3 : Hid ((((([] : List ByteArray) ++ []) ++ [p.ad]).length + ([] : List ByteArray).length) * 16 ≤ 140737488355328) := Lib.hid (by simp)
          go_wp2_with (at_builtin; go_loud (refine wpList_extend (v := .slice a2 n2 g2) (u := .slice none 0 0) (l := ([] ++ []) ++ [p.ad]) (m := []) rfl _ _ 56 rfl slS encN_len (fun _ => rfl) rfl rfl HO2.out HS4.out HLB3.out hb2 ?_); intro v3 w3 ho3 hb3; have HO3 := Lib.hid ho3; have HB3 := Lib.hid (HB2.out.trans hb3); clear ho3 hb3)
          go_roundg (l.length - (kk + 1))
          case measure => omega
          case rel => exact ⟨kk + 1, by omega, by omega, by go_num, HW2.out.trans (HB3.out.mono hszd), (show Own _ _ _ _ _ _ _ from by rw [HIN.out]; have h := HO3.out.rebase hszd; simpa using h)⟩
        · simp only [Value.slice.injEq] at hsl
          obtain ⟨rfl, _, rfl⟩ := hsl
          go_upto_region 12 with (at_builtin; refine wpList_extend (v := .slice none 0 0) (u := .slice (some ⟨g, 0, none⟩) k gc) (l := []) (m := L.take k) rfl _ _ 56 rfl slS encN_len (fun _ => rfl) rfl rfl HN0.out HS2t.out HLB1.out hb0 ?_; intro v1 w1 ho1 hb1; have HO1 := Lib.hid ho1; have HB1 := Lib.hid hb1; clear ho1 hb1)
          obtain ⟨a1, n1, g1, rfl⟩ := Own.slv encN_len HO1.out
          have e0 := (HB1.out.cell (p := ⟨b, off + kk * 3, none⟩) hltd).trans d0
          have hb1 := HB1.out.size
          have HLB2 : Hid (((([] : List ByteArray) ++ L.take k).length + 1) * 16 ≤ 140737488355328) := Lib.hid (by simp; omega)
          go_upto_region 13 with (at_builtin; refine wpList_push rfl _ _ 56 rfl slS rfl rfl p.ad rfl rfl rfl HO1.out rfl HLB2.out hb1 ?_; intro v2 w2 ho2 hb2; have HO2 := Lib.hid ho2; have HB2 := Lib.hid (HB1.out.trans hb2); clear ho2 hb2)
          obtain ⟨a2, n2, g2, rfl⟩ := Own.slv encN_len HO2.out
          have hb2 := HB2.out.size
          have HS3 : Hid (Sl w2 1 encN (.slice (some ⟨g, 0, none⟩) L.length gc) L) := Lib.hid (HS2.out.below HB2.out (Nat.le_refl _))
          obtain ⟨A2, hA2, hS4⟩ := Sl.dropA HS3.out k hk
          have HS4 := Lib.hid hS4
          rw [Nat.zero_add, Nat.mul_one] at hA2
          clear hS4
          have HLB3 : Hid ((((([] : List ByteArray) ++ L.take k) ++ [p.ad]).length + (L.drop k).length) * 16 ≤ 140737488355328) := Lib.hid (by simp; omega)
          go_wp2_with (at_builtin; go_loud (refine wpList_extend (v := .slice a2 n2 g2) (u := .slice (some A2) (L.length - k) (gc - k)) (l := ([] ++ L.take k) ++ [p.ad]) (m := L.drop k) rfl _ _ 56 rfl slS encN_len (fun _ => rfl) rfl rfl HO2.out HS4.out HLB3.out hb2 ?_); intro v3 w3 ho3 hb3; have HO3 := Lib.hid ho3; have HB3 := Lib.hid (HB2.out.trans hb3); clear ho3 hb3)
          go_roundg (l.length - (kk + 1))
          case measure => omega
          case rel => exact ⟨kk + 1, by omega, by omega, by go_num, HW2.out.trans (HB3.out.mono hszd), (show Own _ _ _ _ _ _ _ from by rw [HIN.out]; have h := HO3.out.rebase hszd; simpa using h)⟩
    · have hltz : ¬ (kk : Int) < (l.length : Int) := by omega
      obtain rfl : kk = l.length := by omega
      obtain ⟨ga, gL, gc, rfl⟩ := Own.slv encN_len OW.out
      go_wp2
      go_ret
      exact SlRet.mk (OW.out.sl encN_len) BW.out
end Go.Proofs.Ytaoamechajffbaa

/- CheckRules of the reference. -/
import Derived.Test.YtgohddfnhofjhaaGreatDoorK13
import Derived.Test.YtgohddfnhofjhaaGreatDoorK27
import Derived.Test.YtgohddfnhofjhaaGreatDoorK25
import Derived.Test.YtgohddfnhofjhaaGreatDoorK26
import Derived.Test.YtgohddfnhofjhaaGreatDoorK04
import Derived.Test.YtgohddfnhofjhaaGreatDoorK03
import Derived.Test.YtgohddfnhofjhaaGreatDoorK15
import Derived.Test.YtgohddfnhofjhaaGreatDoorK01
set_option maxRecDepth 100000
set_option maxHeartbeats 8000000
namespace Go.Proofs.YtgohddfnhofjhaaGreatDoor
open Go.RowKit
def Dq (l : List Cch) (n : ByteArray) : Int := iI (fun o => isC o n) l
theorem rJ (l : List Cch) (n : ByteArray) : decide (0 ≤ Dq l n) = iw l n := oz _ _
theorem Fh {l : List Cch} {n : ByteArray} {k : Nat} {x : Cch} (hx : l[k]? = some x) (h : isC x n = true) (hn : ∀ (j : Nat) y, l[j]? = some y → j < k → isC y n = false) : Dq l n = k := (ut hx h hn).1
theorem Dp {l : List Cch} {n : ByteArray} (hn : ∀ (j : Nat) y, l[j]? = some y → isC y n = false) : Dq l n = -1 := (iZ hn).1
theorem fP (w : World) (l : List Cch) (v : Value) (n : ByteArray) (hl : Sl w 4 su v l) :
 Calls Tryz.prog 43 #[v, .string n] w fun e w' => e = .returned (.int .i64 (Dq l n)) ∧ Below w.heap.size w w' := by
 obtain ⟨ao, cap, rfl, hcap, hmax, hnil, hel⟩ := hl; unfold maxLen at hmax; have HEL := Lr hel; have HH := Lr (fun k x hx h hn => @Fh l n k x hx h hn); have HN := Lr (@Dp l n); obtain ⟨I, hI⟩ : ∃ I, I = Dq l n := ⟨_, rfl⟩
 rw [← hI] at HH HN ⊢; clear hel hI
 go_enter Tryz.func43, Tryz.ntmps43
 go_wp2
 go_loopg [9] l.length (fun gg s9 wr => ∃ kk : Nat, kk ≤ l.length ∧ l.length - kk ≤ gg ∧ s9 = .int .i64 kk ∧ Aside (Below w.heap.size w wr) ∧ Aside (∀ (j : Nat) y, l[j]? = some y → j < kk → isC y n = false))
 case atStart => exact ⟨0, Nat.zero_le _, by omega, rfl, LD _ _, fun j y _ hj => absurd hj (Nat.not_lt_zero _)⟩
 case round =>
  obtain ⟨kk, hkk, hg, rfl, BW, A⟩ := hrel; have HBW := Lr BW.out; have HA := Lr A.out; have hszw := HBW.out.size; clear BW A; by_cases hlt : kk < l.length
  ·have hltz : (kk : Int) < (l.length : Int) := by omega
   obtain ⟨x, hx⟩ : ∃ x, l[kk]? = some x := ⟨l[kk], by simp [hlt]⟩
   obtain ⟨b, off, rfl, hc⟩ := HEL.out kk x hx; have hlt0 := LC w ⟨b, off + kk * 4 + 0, none⟩ (hc 0 _ rfl); have c0 : wr.cell? ⟨b, off + kk * 4, none⟩ = some (.string x.na) := (HBW.out.cell (p := ⟨b, off + kk * 4 + 0, none⟩) hlt0).trans (hc 0 _ rfl); have c1 : wr.cell? ⟨b, off + kk * 4 + 1, none⟩ = some (.string x.pa) := (HBW.out.cell (p := ⟨b, off + kk * 4 + 1, none⟩) hlt0).trans (hc 1 _ rfl); have c2 : wr.cell? ⟨b, off + kk * 4 + 2, none⟩ = some (.int .i64 x.de) := (HBW.out.cell (p := ⟨b, off + kk * 4 + 2, none⟩) hlt0).trans (hc 2 _ rfl); have c3 : wr.cell? ⟨b, off + kk * 4 + 3, none⟩ = some (.int .i64 x.ro) := (HBW.out.cell (p := ⟨b, off + kk * 4 + 3, none⟩) hlt0).trans (hc 3 _ rfl); have HBZ := Lr (HBW.out.alloc hszw (.cells #[.string x.na, .string x.pa, .int .i64 x.de, .int .i64 x.ro] 47)); have HHX := Lr (HH.out kk x hx); have HNX : Hid (isC x n = false → ∀ (j : Nat) y, l[j]? = some y → j < kk + 1 → isC y n = false) := Lr (fun h j y hy hj => by
    by_cases e : j = kk
    ·subst e; rw [hx] at hy; simp only [Option.some.injEq] at hy
     rw [← hy]; exact h
    ·exact HA.out j y hy (by omega))
   clear hx hc; cases hq : (x.na.toList == n.toList)
   case true =>
    have hv : Hid ((kk : Int) = I) := Lr (HHX.out hq HA.out).symm
    go_wp2
    go_ret
    exact ⟨ah hv.out, HBZ.out⟩
   case false =>
    have HA2 := Lr (HNX.out hq)
    go_wp2
    go_roundg (l.length - (kk + 1))
    case measure => omega
    case rel => exact ⟨kk + 1, by omega, by omega, by go_num, HBZ.out, HA2.out⟩
  ·obtain rfl : kk = l.length := by omega
   have hltz : ¬ (l.length : Int) < (l.length : Int) := by omega
   have hv : Hid (-1 = I) := Lr (HN.out (fun j y hy => HA.out j y hy (List.getElem?_eq_some_iff.1 hy).1)).symm
   go_wp2
   go_ret
   exact ⟨ah hv.out, HBW.out⟩
theorem vO (w : World) (l : List Cch) (v : Value) (hl : Sl w 4 su v l) (hw : ∀ x, x ∈ l → WfC x) :
 Calls Tryz.prog 94 #[v] w fun e w' => e = .returned (.int .i64 (bZ l)) ∧ Below w.heap.size w w' := by
 have HL := Lr hl; obtain ⟨ao, cap, rfl, hcap, hmax, hnil, hel⟩ := hl; unfold maxLen at hmax; have HB0 := Lr (LD w.heap.size w); by_cases h0 : l.length = 0
 ·have hv : Hid (9 = bZ l) := Lr (by simp [bZ, h0]); have h0z : ((l.length : Int) == 0) = true := by simp [h0]
  clear hel h0
  go_enter Tryz.func94, Tryz.ntmps94
  go_wp2
  go_ret
  exact ⟨ah hv.out, HB0.out⟩
 have h0z : ((l.length : Int) == 0) = false := by rw [beq_eq_false_iff_ne]; omega
 have h0y : ¬ (l.length : Int) = 0 := by omega
 by_cases hbig : 30 < l.length
 ·have hv : Hid (2 = bZ l) := Lr (by simp [bZ, h0, hbig]); have hbz : (30 : Int) < (l.length : Int) := by omega
  clear hel h0
  go_enter Tryz.func94, Tryz.ntmps94
  go_wp2
  go_ret
  exact ⟨ah hv.out, HB0.out⟩
 have hbz : ¬ (30 : Int) < (l.length : Int) := by omega
 have HF : Hid (bZ l = FF (zV l) l.length) := Lr (by simp [bZ, h0, hbig]); generalize bZ l = F at HF ⊢; have HW := Lr hw; have HEL := Lr hel; clear hw hel h0
 go_enter Tryz.func94, Tryz.ntmps94
 go_wp2
 go_loopg [13] l.length (fun gg s13 wr => ∃ kk : Nat, kk ≤ l.length ∧ l.length - kk ≤ gg ∧ s13 = .int .i64 kk ∧ Aside (Below w.heap.size w wr) ∧ Aside (∀ j, j < kk → zV l j = 0))
 case atStart => exact ⟨0, Nat.zero_le _, by omega, rfl, HB0.out, fun j hj => absurd hj (Nat.not_lt_zero _)⟩
 case round =>
  obtain ⟨kk, hkk, hg, rfl, BW, A⟩ := hrel; have HBW := Lr BW.out; have HA := Lr A.out; have hszw := HBW.out.size; clear BW A HB0; by_cases hlt : kk < l.length
  ·have hltz : (kk : Int) < (l.length : Int) := by omega
   obtain ⟨x, hx⟩ : ∃ x, l[kk]? = some x := ⟨l[kk], by simp [hlt]⟩
   obtain ⟨b, off, rfl, hc⟩ := HEL.out kk x hx; have hlt0 := LC w ⟨b, off + kk * 4 + 0, none⟩ (hc 0 _ rfl); have c0 : wr.cell? ⟨b, off + kk * 4, none⟩ = some (.string x.na) := (HBW.out.cell (p := ⟨b, off + kk * 4 + 0, none⟩) hlt0).trans (hc 0 _ rfl); have c1 : wr.cell? ⟨b, off + kk * 4 + 1, none⟩ = some (.string x.pa) := (HBW.out.cell (p := ⟨b, off + kk * 4 + 1, none⟩) hlt0).trans (hc 1 _ rfl); have c2 : wr.cell? ⟨b, off + kk * 4 + 2, none⟩ = some (.int .i64 x.de) := (HBW.out.cell (p := ⟨b, off + kk * 4 + 2, none⟩) hlt0).trans (hc 2 _ rfl); have c3 : wr.cell? ⟨b, off + kk * 4 + 3, none⟩ = some (.int .i64 x.ro) := (HBW.out.cell (p := ⟨b, off + kk * 4 + 3, none⟩) hlt0).trans (hc 3 _ rfl); have hwf := HW.out x (List.mem_of_getElem? hx); have HNM := Lr (fun W => uV x.na W hwf.1); obtain ⟨tw, htw⟩ : ∃ tw, tw = iw (l.take kk) x.na := ⟨_, rfl⟩
   obtain ⟨hp, hhp⟩ : ∃ tw, tw = iw (l.take kk) x.pa := ⟨_, rfl⟩
   have hat : Hid (zV l kk = vP x tw hp) := Lr (by rw [zV, bi hx, htw, hhp]); have hS : Hid (∀ z, vP x tw hp = z → z ≠ 0 → z = F) := Lr (fun z h hz => by
    rw [HF.out, iM hlt HA.out (by rw [hat.out, h]; exact hz), hat.out, h])
   have hC0 : Hid (vP x tw hp = if (!nameB x.na) = true then 5 else if tw = true then 7 else if (tH x hp) = true then 9 else if (aN x.de 1 100000 || aN x.ro 0 1000000000000) = true then 1 else 0) := Lr rfl; have HI1 := Lr (rJ (l.take kk) x.na); have HI2 := Lr (rJ (l.take kk) x.pa); rw [← htw] at HI1; rw [← hhp] at HI2; have HCO := Lr (fun (W : World) (n : ByteArray) (h : Below w.heap.size w W) => fP W (l.take kk) _ n ((HL.out.below h (Ls _)).take rfl kk hkk)); obtain ⟨I1, hI1⟩ : ∃ I, I = Dq (l.take kk) x.na := ⟨_, rfl⟩
   obtain ⟨I2, hI2⟩ : ∃ I, I = Dq (l.take kk) x.pa := ⟨_, rfl⟩
   rw [← hI1] at HI1; rw [← hI2] at HI2; have hb5 := HBW.out.alloc hszw (.cells #[.string x.na, .string x.pa, .int .i64 x.de, .int .i64 x.ro] 47); have hx5 : (wr.alloc (.cells #[.string x.na, .string x.pa, .int .i64 x.de, .int .i64 x.ro] 47)).heap[wr.heap.size]? = some (.cells #[.string x.na, .string x.pa, .int .i64 x.de, .int .i64 x.ro] 47 (0, 0)) := ag wr _; obtain ⟨w5, hw5⟩ : ∃ w5, w5 = wr.alloc (.cells #[.string x.na, .string x.pa, .int .i64 x.de, .int .i64 x.ro] 47) := ⟨_, rfl⟩
   have hs5 : w5.heap.size = wr.heap.size + 1 := by rw [hw5]; simp
   rw [← hw5] at hb5 hx5; have HB5 := Lr hb5; have HX5 := Lr hx5; have HC1 : Hid (∀ W, Below w5.heap.size w5 W → Calls Tryz.prog 43 #[.slice (some ⟨b, off, none⟩) kk cap, .string x.na] W fun e w' => e = .returned (.int .i64 I1) ∧ Below W.heap.size W w') := Lr (fun W h => by rw [hI1]; exact HCO.out W x.na (HB5.out.trans (h.mono HB5.out.size))); have HC2 : Hid (∀ W, Below w5.heap.size w5 W → Calls Tryz.prog 43 #[.slice (some ⟨b, off, none⟩) kk cap, .string x.pa] W fun e w' => e = .returned (.int .i64 I2) ∧ Below W.heap.size W w') := Lr (fun W h => by rw [hI2]; exact HCO.out W x.pa (HB5.out.trans (h.mono HB5.out.size))); obtain ⟨nb, hnb⟩ : ∃ nb, nb = nameB x.na := ⟨_, rfl⟩
   rw [← hnb] at HNM hC0; have HW5 := Lr hw5; have hkz : (kk : Int) ≤ (l.length : Int) := by omega
   have hkc : (kk : Int) ≤ (cap : Int) := by omega
   clear hx hc htw hhp hx5 HCO hb5 hw5 hnb hI1 hI2
   go_upto_region 8 with (fail)
   rw [← HW5.out]; obtain ⟨g, hgq⟩ : ∃ g, g = wr.heap.size := ⟨_, rfl⟩
   rw [← hgq] at HX5 hs5 ⊢; have hg5 : g < w5.heap.size := by omega
   have y0 := (cell_of_block (i := 0) HX5.out).trans rfl; have y1 := (cell_of_block (i := 1) HX5.out).trans rfl; have y2 := (cell_of_block (i := 2) HX5.out).trans rfl; have y3 := (cell_of_block (i := 3) HX5.out).trans rfl; clear c0 c1 c2 c3 hgq HW5 hs5; cases nb
   case false =>
    have hv : Hid (5 = F) := Lr (hS.out 5 (by rw [hC0.out]; rfl) (by decide))
    go_wp2_with fail
    refine (HNM.out _).mono ?_; rintro e w6 ⟨rfl, rfl⟩
    go_wp2
    go_ret
    exact ⟨ah hv.out, HB5.out⟩
   go_wp2_with fail
   refine (HNM.out _).mono ?_; rintro e w6 ⟨rfl, rfl⟩; have hC1 : Hid (vP x tw hp = if tw = true then 7 else if (tH x hp) = true then 9 else if (aN x.de 1 100000 || aN x.ro 0 1000000000000) = true then 1 else 0) := Lr (by rw [hC0.out]; rfl); clear hC0
   go_upto_region 10 with (fail)
   go_cut [23] (fun s23 w6 => s23 = .bool tw ∧ Aside (Below w5.heap.size w5 w6))
   case first =>
    cases tw
    case true =>
     have hI : (0 : Int) ≤ I1 := of_decide_eq_true HI1.out
     go_region_with (first | (go_at_call 43; refine (HC1.out _ (below_drewN (LD _ w5) 1)).mono ?_; rintro e w' ⟨rfl, hb⟩))
     all_goals
      have HBQ := Lr ((below_drewN (LD _ w5) 1).trans hb); clear hb
      go_wp2_with fail
      go_meet
      exact ⟨rfl, HBQ.out⟩
    case false =>
     have hI : ¬ (0 : Int) ≤ I1 := of_decide_eq_false HI1.out
     go_region_with (first | (go_at_call 43; refine (HC1.out _ (below_drewN (LD _ w5) 1)).mono ?_; rintro e w' ⟨rfl, hb⟩))
     all_goals
      have HBQ := Lr ((below_drewN (LD _ w5) 1).trans hb); clear hb
      go_wp2_with fail
      go_meet
      exact ⟨by first | rfl | (simp; omega), HBQ.out⟩
   obtain ⟨rfl, B6⟩ := hcut; obtain ⟨w6, rfl⟩ : ∃ w6, w6 = wc := ⟨_, rfl⟩
   have hb6 := B6.out; have HB6 := Lr (HB5.out.trans (hb6.mono HB5.out.size)); have z1 := (hb6.cell (p := ⟨g, 1, none⟩) hg5).trans y1; have z2 := (hb6.cell (p := ⟨g, 2, none⟩) hg5).trans y2; have z3 := (hb6.cell (p := ⟨g, 3, none⟩) hg5).trans y3; have HC26 := Lr (fun W (h : Below w6.heap.size w6 W) => HC2.out W (hb6.trans (h.mono hb6.size))); have hg6 : g < w6.heap.size := Nat.lt_of_lt_of_le hg5 hb6.size; clear hb6 y0 y1 y2 y3 HC1 HC2 HX5 B6 HI1; cases tw
   case true =>
    have hv : Hid (7 = F) := Lr (hS.out 7 (by rw [hC1.out]; rfl) (by decide))
    go_wp2_with fail
    go_ret
    exact ⟨ah hv.out, HB6.out⟩
   have hC2 : Hid (vP x false hp = if (tH x hp) = true then 9 else if (aN x.de 1 100000 || aN x.ro 0 1000000000000) = true then 1 else 0) := Lr (by rw [hC1.out]; rfl); clear hC1; obtain ⟨PB, hPB⟩ : ∃ PB, PB = tH x hp := ⟨_, rfl⟩
   rw [← hPB] at hC2; have HPB := Lr hPB; clear hPB
   go_upto_region 12 with (fail)
   go_cut [31] (fun s31 w7 => s31 = .bool PB ∧ Aside (Below w6.heap.size w6 w7))
   case first =>
    by_cases hpe : x.pa = ⟨#[]⟩
    ·have hv : Hid (PB = false) := Lr (by rw [HPB.out]; simp [tH, hpe]); rw [hpe] at z1; clear hpe; have hund : undef = Value.tuple #[] := rfl
     go_quiet (fail)
     clear hund
     go_wp2_with fail
     go_meet
     exact ⟨by rw [hv.out], below_drewN (LD _ _) _⟩
    ·have hv : Hid (PB = !hp) := Lr (by rw [HPB.out]; simp [tH, hpe]); obtain ⟨f1, f2, f3⟩ := uG hpe; clear hpe; cases hp
     case true =>
      have hI : (0 : Int) ≤ I2 := of_decide_eq_true HI2.out; have hI3 : ¬ I2 < 0 := by omega
      go_region_with (first | (go_at_call 43; refine (HC26.out _ (below_drewN (LD _ w6) 1)).mono ?_; rintro e w' ⟨rfl, hb⟩))
      all_goals
       have HBQ := Lr ((below_drewN (LD _ w6) 1).trans hb); clear hb
       go_wp2_with fail
       go_meet
       exact ⟨by rw [hv.out]; first | rfl | (simp; omega), HBQ.out⟩
     case false =>
      have hI : ¬ (0 : Int) ≤ I2 := of_decide_eq_false HI2.out; have hI3 : I2 < 0 := by omega
      go_region_with (first | (go_at_call 43; refine (HC26.out _ (below_drewN (LD _ w6) 1)).mono ?_; rintro e w' ⟨rfl, hb⟩))
      all_goals
       have HBQ := Lr ((below_drewN (LD _ w6) 1).trans hb); clear hb
       go_wp2_with fail
       go_meet
       exact ⟨by rw [hv.out]; first | rfl | (simp; omega), HBQ.out⟩
   obtain ⟨rfl, B7⟩ := hcut; obtain ⟨w7, rfl⟩ : ∃ w7, w7 = wc := ⟨_, rfl⟩
   have HB7 := Lr (HB6.out.trans (B7.out.mono HB6.out.size)); have u2 := (B7.out.cell (p := ⟨g, 2, none⟩) hg6).trans z2; have u3 := (B7.out.cell (p := ⟨g, 3, none⟩) hg6).trans z3; clear B7 z1 z2 z3 HC26 HPB; cases PB
   case true =>
    have hv : Hid (9 = F) := Lr (hS.out 9 (by rw [hC2.out]; rfl) (by decide))
    go_wp2_with fail
    go_ret
    exact ⟨ah hv.out, HB7.out⟩
   have hC3 : Hid (vP x false hp = if (aN x.de 1 100000 || aN x.ro 0 1000000000000) = true then 1 else 0) := Lr (by rw [hC2.out]; rfl); clear hC2
   go_upto_region 14 with (fail)
   go_cut [44] (fun s44 w8 => s44 = .bool (aN x.de 1 100000 || aN x.ro 0 1000000000000) ∧ w7 = w8)
   case first =>
    cases o0 : aN x.de 1 100000
    case true =>
     go_wp2_with (go_at_call 44; refine (bC _ _ _ _).mono ?_; rintro e w' ⟨rfl, rfl⟩)
     go_meet
     exact ⟨by simp [*], rfl⟩
    case false =>
     go_wp2_with (go_at_call 44; refine (bC _ _ _ _).mono ?_; rintro e w' ⟨rfl, rfl⟩)
     go_meet
     exact ⟨by simp [*], rfl⟩
   obtain ⟨rfl, rfl⟩ := hcut; generalize hO : (aN x.de 1 100000 || aN x.ro 0 1000000000000) = O at hC3 ⊢; clear hO u2 u3; cases O
   case true =>
    have hv : Hid (1 = F) := Lr (hS.out 1 (by rw [hC3.out]; rfl) (by decide))
    go_wp2_with fail
    go_ret
    exact ⟨ah hv.out, HB7.out⟩
   have hz : Hid (zV l kk = 0) := Lr (by rw [hat.out, hC3.out]; rfl)
   go_wp2_with fail
   go_roundg (l.length - (kk + 1))
   case measure => omega
   case rel =>
    refine ⟨kk + 1, by omega, by omega, by go_num, HB7.out, (show Aside _ from fun j hj => ?_)⟩; by_cases e : j = kk
    ·rw [e, hz.out]
    ·exact HA.out j (by omega)
  ·obtain rfl : kk = l.length := by omega
   have hltz : ¬ (l.length : Int) < (l.length : Int) := by omega
   have hz : Hid (0 = F) := Lr (by rw [HF.out, eF HA.out])
   go_wp2_with fail
   go_ret
   exact ⟨ah hz.out, HBW.out⟩
structure StX (w : World) (B : Nat) (A0 : Rdr) (xs : List (Nat × Obj)) (W : World) (A : Rdr) (X : Xd) : Prop where
 rd : RD W B A X
 le : bW { A0 with x := xs } A
 be : Below B w W
def Lh (o : List (Nat × Obj)) (v : Value) (l : List Nat) : Prop := ∀ W : World, (∀ p, p ∈ o → W.heap[p.1]? = some p.2) → Sl W 1 mD v l
section
variable {w0 w W W' : World} {B : Nat} {A0 A : Rdr} {X : Xd} {xs : List (Nat × Obj)}
theorem StX.qb (h : StX w B A0 xs W A X) : W.heap[A0.q]? = some (.cells #[A0.d0, A0.d1, A0.d2, A0.d3, A0.gt, .int .i64 (X.nx : Nat), .int .i64 (X.pg : Nat), A.kv, A0.hh, A0.gv, A0.lv, .int .i64 X.no] 88 (0, 0)) := by
 have e := h.rd.qb.2; unfold ku at e; rw [h.le.q, h.le.d0, h.le.d1, h.le.d2, h.le.d3, h.le.gt, h.le.hh, h.le.gv, h.le.lv] at e; exact e
theorem StX.aq (h : StX w B A0 xs W A X) : A.q = A0.q := h.le.q
theorem StX.ql (h : StX w B A0 xs W A X) : A0.q < W.heap.size := (Array.getElem?_eq_some_iff.1 h.qb).1
theorem StX.all (h : StX w B A0 xs W A X) : ∀ p, p ∈ xs → W.heap[p.1]? = some p.2 := fun p hp => by
 obtain ⟨i, hi, e⟩ := List.mem_iff_getElem.1 hp; refine h.rd.fr (k := i) (b := p.1) (o := p.2) ?_; rw [h.le.x]; show xs[i]? = some (p.1, p.2)
 rw [Lu hi, e]
theorem StX.below (h : StX w B A0 xs W A X) (hb : Below W.heap.size W W') : StX w B A0 xs W' A X := ⟨h.rd.below hb, h.le, h.be.trans (hb.mono h.rd.base)⟩
theorem StX.add (h : StX w B A0 xs W A X) (o : Obj) : StX w B A0 (xs ++ [(W.heap.size, o)]) (W.alloc o) { A with x := A.x ++ [(W.heap.size, o)] } X :=
 ⟨h.rd.jf o, ⟨h.le.q, h.le.d0, h.le.d1, h.le.d2, h.le.d3, h.le.gt, h.le.hh, h.le.gv, h.le.lv, by show A.x ++ _ = xs ++ _; rw [h.le.x]⟩, h.be.trans ((LD _ W).alloc h.rd.base o)⟩
theorem StX.drop {ys : List (Nat × Obj)} (h : StX w B A0 (xs ++ ys) W A X) : StX w B A0 xs W { A with x := xs } X :=
 ⟨h.rd.lM ⟨ys, h.le.x⟩, ⟨h.le.q, h.le.d0, h.le.d1, h.le.d2, h.le.d3, h.le.gt, h.le.hh, h.le.gv, h.le.lv, rfl⟩, h.be⟩
theorem StX.env (h : StX w B A0 xs W A X) {C : List Cch} {R : List Crl} {E : List Rel} {P : List Pur} {L : List Gt} (hE : oK w0 B A0 C R E P L) : oK w0 B A C R E P L := hE.x h.le
theorem RD.Gj (h : RD W B A X) {g : Nat} {o : Obj} (hg : W.heap.size ≤ g) (ho : W'.heap[g]? = some o) (hb : Below W.heap.size W W') : RD W' B { A with x := A.x ++ [(g, o)] } X := by
 obtain ⟨M, h1, h2⟩ := h; refine ⟨_, h1.put hb.size (r := 7 + 3 * A.x.length) (Nat.le_trans h1.base hg) ho (fun q b p _ hq => ⟨hb.block b (h1.lt hq), Nat.ne_of_lt (Nat.lt_of_lt_of_le (h1.lt hq) hg)⟩), ?_⟩; exact {
  wl := by rw [ae _ _ (by omega)]; exact h2.wl
  ak := by rw [ae _ _ (by omega)]; exact h2.ak
  hs := by rw [ae _ _ (by omega)]; exact h2.hs
  go := by rw [ae _ _ (by omega)]; exact h2.go
  ld := by rw [ae _ _ (by omega)]; exact h2.ld
  he := fun i v hv => by rw [ae _ _ (by omega)]; exact h2.he i v hv
  wa := fun j p hp => by rw [ae _ _ (by omega)]; exact h2.wa j p hp
  fx := fun k b p hx => by
   by_cases e : k = A.x.length
   ·subst e; have hx' : (A.x ++ [(g, o)])[A.x.length]? = some (b, p) := hx; rw [List.getElem?_append_right (Ls _)] at hx'; simp at hx'
    rw [au, hx'.1, hx'.2]
   ·have hx' : (A.x ++ [(g, o)])[k]? = some (b, p) := hx; have hk := (List.getElem?_eq_some_iff.1 hx').1; simp at hk
    rw [List.getElem?_append_left (by omega)] at hx'; rw [ae _ _ (by omega)]; exact h2.fx k b p hx'
  ka := h2.ka
  hl := h2.hl }
theorem StX.num (h : StX w B A0 xs W A X) {v : Value} {l : List Nat} {N : Nat} (ho : Own W' N 3 1 mD v l) (hN : W.heap.size ≤ N) (hb : Below W.heap.size W W') : ∃ o A', StX w B A0 (xs ++ o) W' A' X ∧ Lh o v l := by
 rcases bV.BB ho with ⟨rfl, h1⟩ | ⟨g, o, cap, rfl, hg, hh, h1⟩
 ·refine ⟨[], A, by rw [List.append_nil]; exact h.below hb, fun V _ => ?_⟩; rcases h1 with ⟨_, rfl, _⟩ | ⟨_, _, _, _, e, _⟩
  ·exact (Own.nil (w := V) (base := 0) (E := 3) (k := 1) (enc := mD)).sl dI
  ·cases e
 ·refine ⟨[(g, o)], { A with x := A.x ++ [(g, o)] }, ⟨h.rd.Gj (Nat.le_trans hN hg) hh hb, ⟨h.le.q, h.le.d0, h.le.d1, h.le.d2, h.le.d3, h.le.gt, h.le.hh, h.le.gv, h.le.lv, by show A.x ++ _ = xs ++ _; rw [h.le.x]⟩, h.be.trans (hb.mono h.rd.base)⟩, fun V hV => ?_⟩; rcases h1 with ⟨e, _⟩ | ⟨g', cap', cur, e1, e2, r⟩
  ·cases e
  ·cases e1
   cases e2
   exact Own.sl (base := 0) (E := 3) ⟨ay dI l, .inr ⟨_, _, cur, rfl, Nat.zero_le _, hV _ (List.mem_singleton.2 rfl), r⟩⟩ dI
theorem StX.sW (h : StX w B A0 xs W A X) (k : Nat) (v : Value) (X' : Xd) (hc : (ku A X).setIfInBounds k v = ku A X') (e1 : X'.ak = X.ak) (e2 : X'.he = X.he) (e3 : X'.go = X.go) (e4 : X'.ld = X.ld) : StX w B A0 xs (W.setCell ⟨A0.q, k, none⟩ v) A X' := by
 have h1 := h.rd.sW k v X' hc e1 e2 e3 e4; have hq := h.rd.qb.1; rw [h.aq] at h1 hq; exact ⟨h1, h.le, h.be.setCell hq _⟩
theorem StX.bT (h : StX w B A0 xs W A X) {j g n cap : Nat} (hj : j < X.ak.length) (hg : A.kv = .slice (some ⟨g, 0, none⟩) n cap) (hn : n = A.ks.length) (hgb : B ≤ g) (c : Nat) (u : Value) (k' : Xk) (hk : k'.ws = (X.K j).ws) (hc : c < 14) (he : ∀ v, lK (k', v) = (lK (X.K j, v)).set c u) : ∃ A', StX w B A0 xs (W.setCell ⟨g, j * 14 + c, none⟩ u) A' (X.bT j k') ∧ A'.ks.map Prod.snd = A.ks.map Prod.snd := by
 obtain ⟨v, hv⟩ := h.rd.at_ hj; have ho : Own (W.setCell ⟨g, j * 14 + c, none⟩ u) B 171 14 lK A.kv (A.ks.set j (k', v)) := by
  have h1 := h.rd.asks; rw [hg] at h1 ⊢; exact Own.store bn h1 hn hv hc (he v)
 refine ⟨{ A with ks := A.ks.set j (k', v) }, ⟨h.rd.uB (k' := k') hg hv hk ho (Onl.set g W _ _), ⟨h.le.q, h.le.d0, h.le.d1, h.le.d2, h.le.d3, h.le.gt, h.le.hh, h.le.gv, h.le.lv, h.le.x⟩, h.be.setCell hgb _⟩, ?_⟩; show (A.ks.set j _).map Prod.snd = _
 exact dN hv rfl
theorem StX.aO (h : StX w B A0 xs W A X) {i g cap : Nat} (hil : i < X.ld.length) (hg : A0.lv = .slice (some ⟨g, 0, none⟩) X.ld.length cap) (hgb : B ≤ g) (k : Nat) (u : Value) (f : Ldd → Ldd) (hk : k < 6) (he : lL (f (X.Ld i)) = (lL (X.Ld i)).set k u) : StX w B A0 xs (W.setCell ⟨g, i * 6 + k, none⟩ u) A (X.aO i f) :=
 ⟨h.rd.stL hil (by rw [h.le.lv]; exact hg) k u f hk he, h.le, h.be.setCell hgb _⟩
theorem StX.putRow (h : StX w B A0 xs W A X) {i : Nat} {v v' : Value} (hv : A.hs[i]? = some v) {sb n c : Nat} (hg : A0.hh = .slice (some ⟨sb, 0, none⟩) n c) (hn : n = A.hs.length) (hgb : B ≤ sb) {l' : List Xh} (hrow : zI W.heap.size v (X.H i) W' v' l') (hb : Below W.heap.size W W') : ∃ A', StX w B A0 xs (W'.setCell ⟨sb, i, none⟩ v') A' (X.setH i l') := by
 obtain ⟨A', h1, h2⟩ := h.rd.putRow hv (by rw [h.le.hh]; exact hg) hn hrow hb; exact ⟨A', h1, h.le.trans h2, (h.be.trans (hb.mono h.rd.base)).setCell hgb _⟩
end
section
variable {w0 w W W' : World} {B : Nat} {A0 A : Rdr} {X : Xd} {xs : List (Nat × Obj)} {C : List Cch} {R : List Crl} {E : List Rel} {P : List Pur} {L : List Gt}
theorem jg.st (h : StX w B A0 xs W A X) {X' : Xd} {e : Ending} (hp : jg W B A X' e W') : ∃ A', e = .returned (.tuple #[]) ∧ StX w B A0 xs W' A' X' := by
 obtain ⟨A', h1, h2, h3, h4⟩ := hp; exact ⟨A', h1, h2, h.le.trans h3, h.be.trans h4⟩
theorem Dl (h : StX w B A0 xs W A X) (hE : oK w0 B A0 C R E P L) (hw : Below w0.heap.size w0 w) (i : Nat) (key : ByteArray) (ge : Nat) (ak : Option Nat) (hR : DW C R P X i key ge ak) :
 Calls Tryz.prog 104 #[.pointer (some ⟨A0.q, 0, none⟩), .int .i64 (i : Nat), .string key, .int .i64 (wgI ⟨ge, ak, 3⟩), .int .i64 (waI ⟨ge, ak, 3⟩)] W fun e w' => ∃ A', e = .returned (.tuple #[]) ∧ StX w B A0 xs w' A' (X.aY C R P i key ge ak) := by
 have h1 := Dn w0 W B A X h.rd C R E P L (h.env hE) (hw.trans (h.be.mono hE.b)) i key ge ak hR; rw [h.aq] at h1; exact h1.mono fun e w' hp => jg.st h hp
theorem GZ (h : StX w B A0 xs W A X) (hE : oK w0 B A0 C R E P L) (hw : Below w0.heap.size w0 w) (i : Nat) (key : ByteArray) (a : Ans) (hR : FH C R P X i key a) :
 Calls Tryz.prog 103 #[.pointer (some ⟨A0.q, 0, none⟩), .int .i64 (i : Nat), .string key, .agg #[.int .i64 a.ve, .int .i64 a.bo, .int .i64 a.si, .string a.fr]] W fun e w' => ∃ A', e = .returned (.tuple #[]) ∧ StX w B A0 xs w' A' (X.dS C R P i key a) := by
 have h1 := Ci w0 W B A X h.rd C R E P L (h.env hE) (hw.trans (h.be.mono hE.b)) i key a hR; rw [h.aq] at h1; exact h1.mono fun e w' hp => jg.st h hp
theorem Hg (h : StX w B A0 xs W A X) (hE : oK w0 B A0 C R E P L) (hw : Below w0.heap.size w0 w) (wt : Xw) (a : Ans) (hg : wt.ak = none → wt.ge < X.go.length) (hj : ∀ j, wt.ak = some j → j < X.ak.length ∧ (X.K j).ca < C.length) (hno : 0 ≤ X.no ∧ X.no ≤ 1000000000000000) (hde : ∀ i, i < C.length → 0 ≤ deO C i ∧ deO C i ≤ 1000000) :
 Calls Tryz.prog 102 #[.pointer (some ⟨A0.q, 0, none⟩), .agg #[.int .i64 (wgI wt), .int .i64 wt.ho, .int .i64 (waI wt)], .agg #[.int .i64 a.ve, .int .i64 a.bo, .int .i64 a.si, .string a.fr]] W fun e w' => ∃ A', e = .returned (.tuple #[]) ∧ StX w B A0 xs w' A' (X.aI C wt a) ∧ A'.ks.map Prod.snd = A.ks.map Prod.snd := by
 have h1 := qm w0 W B A X h.rd C R E P L (h.env hE) (hw.trans (h.be.mono hE.b)) wt a hg hj hno hde; rw [h.aq] at h1; refine h1.mono ?_; rintro e w' ⟨A', rfl, g1, g2, g3, -, g4⟩; exact ⟨A', rfl, ⟨g1, h.le.trans g2, h.be.trans g4⟩, g3⟩
theorem Bq (h : StX w B A0 xs W A X) (hE : oK w0 B A0 C R E P L) (hw : Below w0.heap.size w0 w) (j : Nat) (hj : j < X.ak.length) (hca : (X.K j).ca < C.length) (hno : 0 ≤ X.no ∧ X.no ≤ 1000000000000000) (hde : ∀ i, i < C.length → 0 ≤ deO C i ∧ deO C i ≤ 1000000) :
 Calls Tryz.prog 105 #[.pointer (some ⟨A0.q, 0, none⟩), .int .i64 (j : Nat)] W fun e w' => ∃ A', e = .returned (.tuple #[]) ∧ StX w B A0 xs w' A' (X.aI C ⟨0, some j, 0⟩ (oV E (X.K j).ke X.no)) := by
 have h1 := uN w0 W B A X h.rd C R E P L (h.env hE) (hw.trans (h.be.mono hE.b)) j hj hca hno hde; rw [h.aq] at h1; refine h1.mono ?_; rintro e w' ⟨A', rfl, g1, g2, -, -, g4⟩; exact ⟨A', rfl, g1, h.le.trans g2, h.be.trans g4⟩
theorem Et (h : StX w B A0 xs W A X) (i : Nat) (key : ByteArray) (hi : i < X.he.length) :
 Calls Tryz.prog 98 #[.pointer (some ⟨A0.q, 0, none⟩), .int .i64 (i : Nat), .string key] W fun e w' => e = .returned (.int .i64 (numO (plI (X.H i) key))) ∧ Below W.heap.size W w' := by
 have h1 := kL W B A X h.rd i key hi; rw [h.aq] at h1; exact h1
theorem wQ (h : StX w B A0 xs W A X) (l : List Nat) (v : Value) (hl : Sl W 1 mD v l) (hin : ∀ j, j ∈ l → j < X.ak.length) (hlen : l.length ≤ 1000000) :
 Calls Tryz.prog 101 #[.pointer (some ⟨A0.q, 0, none⟩), v] W (gI W 3 1 mD (rZ X l)) := by
 have h1 := yK W B A X h.rd l v hl hin hlen; rw [h.aq] at h1; exact h1
theorem x9 {pd : List Xw} {n i : Nat} {key : ByteArray} {ge : Nat} {ak : Option Nat} (hv : Val C R E P L) (hx : aP C P L pd X) (hc : Cap n X) (hn : n ≤ 61200) (hi : i < C.length) (hg : ak = none → ge < X.go.length) (hj : ∀ j, ak = some j → j < X.ak.length) : DW C R P X i key ge ak := by
 obtain ⟨⟨l1, l2, l3⟩, l4, l5, -⟩ := hc.ld i; have hno := hx.no; exact {
  ci := hi
  il := by rw [hx.le.2.1]; exact hi
  ih := by rw [hx.le.1]; exact hi
  no := by omega
  de := Am hv
  ld := by refine ⟨?_, ?_, ?_, ?_, ?_⟩ <;> omega
  al := by have := hc.ak; omega
  g := hg
  j := fun j h => ⟨hj j h, (hx.kk j _ (Xd.at_ (hj j h))).1⟩
  wl := fun j h1 h2 => by have := Ai h1 h2; have := hc.wt; omega
  nd := (hx.held i).1
  an := fun h hh => ((hx.held i).2 h hh).2
  pb := fun k => FK hv k X.no
  R := hv.rb }
theorem EF {pd : List Xw} {n i : Nat} {key : ByteArray} {a : Ans} (hv : Val C R E P L) (hx : aP C P L pd X) (hc : (X.H i).length ≤ n) (hn : n ≤ 61200) (hi : i < C.length) (ha : dF a) (hru : (ruI R key R.length).isSome = true) : FH C R P X i key a :=
 { ci := hi
   ih := by rw [hx.le.1]; exact hi
   rb := hv.rb
   ru := hru
   pb := FK hv key X.no
   a := ha
   nd := (hx.held i).1
   an := fun h hh => ((hx.held i).2 h hh).2
   le := by omega
   ro := (hv.cd i (C.getD i default) (by rw [Lt, Lu hi]; rfl)).2 }
theorem Cap.came {n j : Nat} (h : Cap n X) (hj : j < X.ak.length) : Cap n (X.cZ j) := by
 have hc : Lf X (X.cZ j) true (2 * (X.K j).ca + 1) 0 := Lf.bT (k' := { X.K j with cm := true }) hj (by unfold wK; simp; exact Nat.le_trans (Nat.le_add_left _ _) (Nat.le_add_right _ _)) (Ls _) (fun h => h); exact ⟨by show (X.ak.set _ _).length ≤ n; rw [List.length_set]; exact h.ak, by have := hc.wt; have := h.wt; omega, h.he, h.ld.of rfl⟩
theorem Hw {i n : Nat} {key : ByteArray} {ge : Nat} {ak : Option Nat} : ({ X with nx := n } : Xd).aY C R P i key ge ak = { X.aY C R P i key ge ak with nx := n } := by
 have hg : ∀ (Y : Xd) (v : Xw) (a : Ans), ({ Y with nx := n } : Xd).aI C v a = { Y.aI C v a with nx := n } := fun Y v a => by
  unfold Xd.aI; cases v.ak <;> rfl
 have hW : ({ X with nx := n } : Xd).kD i key (fQ P key X.no) = X.kD i key (fQ P key X.no) := rfl; unfold Xd.aY; by_cases h1 : (ruI R key R.length).isSome = false
 ·rw [if_pos h1, if_pos h1]; rfl
 ·rw [if_neg h1, if_neg h1]; by_cases h2 : onH (X.H i) key = true ∧ X.no < eG (kE R key) (gY (X.H i) key).an true
  ·show (if onH (X.H i) key = true ∧ X.no < eG (kE R key) (gY (X.H i) key).an true then _ else _) = _
   rw [if_pos h2]
   try rw [if_pos h2]
   by_cases h3 : X.no < eG (kE R key) (gY (X.H i) key).an false
   ·show (if X.no < eG (kE R key) (gY (X.H i) key).an false then _ else _) = _
    rw [if_pos h3]
    try rw [if_pos h3]
    exact hg (((X.aO i dw).aO i yO).setH i (gz (X.H i) key X.no)) ⟨ge, ak, 1⟩ { (gY (X.H i) key).an with fr := (C.getD i default).na }
   ·show (if X.no < eG (kE R key) (gY (X.H i) key).an false then _ else _) = _
    rw [if_neg h3]
    try rw [if_neg h3]
    show (match X.kD i key (fQ P key X.no) with | some _ => _ | none => _) = _
    cases X.kD i key (fQ P key X.no)
    ·exact hg ((((X.aO i dw).aO i jB).setH i (gz (X.H i) key X.no)).aA C i key false []) ⟨ge, ak, 2⟩ { (gY (X.H i) key).an with fr := (C.getD i default).na }
    ·exact hg (((X.aO i dw).aO i jB).setH i (gz (X.H i) key X.no)) ⟨ge, ak, 2⟩ { (gY (X.H i) key).an with fr := (C.getD i default).na }
  ·show (if onH (X.H i) key = true ∧ X.no < eG (kE R key) (gY (X.H i) key).an true then _ else _) = _
   rw [if_neg h2]
   try rw [if_neg h2]
   show (match X.kD i key (fQ P key X.no) with | some j => _ | none => _) = _
   cases X.kD i key (fQ P key X.no) <;> rfl
def jJ (X : Xd) (key : ByteArray) : Nat → Xd
 | 0 => X
 | c + 1 => (jJ X key c).setH c (eH ((jJ X key c).H c) key)
theorem iE {key : ByteArray} : ∀ (c : Nat), (jJ X key c).ak = X.ak ∧ (jJ X key c).go = X.go ∧ (jJ X key c).ld = X.ld ∧ (jJ X key c).no = X.no ∧ (jJ X key c).nx = X.nx ∧ (jJ X key c).pg = X.pg ∧ (jJ X key c).he.length = X.he.length ∧ ∀ m, c ≤ m → (jJ X key c).H m = X.H m
 | 0 => ⟨rfl, rfl, rfl, rfl, rfl, rfl, rfl, fun _ _ => rfl⟩
 | c + 1 => by
  obtain ⟨h1, h2, h3, h4, h5, h6, h7, h8⟩ := iE (key := key) c; refine ⟨h1, h2, h3, h4, h5, h6, ?_, fun m hm => ?_⟩
  ·show ((jJ X key c).he.set c _).length = _
   rw [List.length_set]; exact h7
  ·rw [← h8 m (by omega)]; show ((jJ X key c).he.set c _).getD m [] = (jJ X key c).he.getD m []
   rw [Lt, List.getElem?_set_ne (by omega), ← Lt]
theorem Bh {key : ByteArray} : ∀ {c : Nat}, c ≤ X.he.length → (jJ X key c).he = (X.he.take c).map (fun l => eH l key) ++ X.he.drop c
 | 0, _ => rfl
 | c + 1, hc => by
  have ih := Bh (key := key) (c := c) (by omega); have hx := Lu (show c < X.he.length by omega); have hH : (jJ X key c).H c = X.he[c] := by rw [(iE c).2.2.2.2.2.2.2 c (Ls _)]; exact Xd.Lj hx
  show (jJ X key c).he.set c (eH ((jJ X key c).H c) key) = _
  rw [hH, ih, List.set_append_right _ _ (by rw [List.length_map, List.length_take]; omega), List.length_map, List.length_take, Nat.min_eq_left (by omega), Nat.sub_self, List.drop_eq_getElem_cons (by omega), List.set_cons_zero, List.take_add_one, hx, List.map_append, List.append_assoc]
  rfl
theorem Es {key : ByteArray} : { jJ X key X.he.length with pg := X.pg + 1 } = X.yG key := by
 obtain ⟨h1, h2, h3, h4, h5, h6, -⟩ := iE (X := X) (key := key) X.he.length; have h7 := Bh (X := X) (key := key) (Ls X.he.length); rw [List.take_length, List.drop_length, List.append_nil] at h7; unfold Xd.yG; generalize jJ X key X.he.length = Y at h1 h2 h3 h4 h5 h6 h7; obtain ⟨a, b, c, d, e, f, g⟩ := Y; subst h1 h2 h3 h4 h5 h7
 rfl
end
def Lee (C : List Cch) (P : List Pur) (L : List Gt) (F : Prop) (X0 X : Xd) : Prop := muX C P L X < muX C P L X0 ∨ (X = X0 ∧ F)
section
variable {C : List Cch} {R : List Crl} {E : List Rel} {P : List Pur} {L : List Gt} {X X' X0 : Xd} {lim : Int} {m : Mod}
theorem Lee.le {F : Prop} (h : Lee C P L F X0 X) : muX C P L X ≤ muX C P L X0 := by
 rcases h with h | ⟨rfl, _⟩
 ·exact Nat.le_of_lt h
 ·exact Ls _
theorem Lee.step {F F' : Prop} (h : Lee C P L F X0 X) (hm : muX C P L X' < muX C P L X) : Lee C P L F' X0 X' := .inl (Nat.lt_of_lt_of_le hm h.le)
theorem Lee.exit {F F' : Prop} (h : Lee C P L F X0 X) (hf : X = X0 → F → F') : Lee C P L F' X0 X := by
 rcases h with h | ⟨e, h⟩
 ·exact .inl h
 ·exact .inr ⟨e, hf e h⟩
theorem qN (h : RInv C R E P L lim m X) (hv : Val C R E P L) (hn : X.next C R E P L lim m = some (m, X')) (hm : m ≠ .out) : muX C P L X' < muX C P L X := by
 have hV : ∀ (i : Nat) (x : Cch), C[i]? = some x → 1 ≤ x.de ∧ x.de ≤ 100000 := fun i x hx => (hv.cd i x hx).1
 have hx := h.inv; cases m with
 | out => exact absurd rfl hm
 | pur =>
  unfold Xd.next at hn
  dsimp only at hn
  split at hn
  ·rename_i hd; cases hn
   show lT X + ((L.drop X.nx).map (wG C)).sum + (P.length - (X.pg + 1)) < lT X + ((L.drop X.nx).map (wG C)).sum + (P.length - X.pg)
   omega
  ·cases hn
 | bak =>
  unfold Xd.next at hn
  dsimp only at hn
  split at hn
  ·rename_i j hb; cases hn
   obtain ⟨⟨g1, g2, g3, g4⟩, _⟩ := fF hb; obtain ⟨l1, l2, l3, l4, l5⟩ := kz (R := R) hx hV g1 g2 g3; unfold muX; rw [l1, l2]; omega
  ·cases hn
 | get =>
  unfold Xd.next at hn
  dsimp only at hn
  split at hn
  ·rename_i hd; cases hn
   obtain ⟨hl, hti⟩ := hd; have hxg : L[X.nx]? = some (L.getD X.nx default) := by rw [Lt, Lu hl]; rfl
   obtain ⟨g1, g2, i, g3, g4⟩ := hv.lt _ (List.mem_of_getElem? hxg); have hgi2 : (fC C (L.getD X.nx default).ca).toNat = i := by rw [g3]; rfl
   rw [hgi2]; have hlf := Lf.come (C := C) (R := R) (P := P) (X := { X with nx := X.nx + 1 }) (i := i) (key := (L.getD X.nx default).ke) (ge := X.nx) (ak := none) hV (fun j h => by cases h); unfold muX; rw [hlf.nx, hlf.pg]; have h1 : lT (({ X with nx := X.nx + 1 } : Xd).aY C R P i (L.getD X.nx default).ke X.nx none) ≤ lT X + (2 * i + 2) := hlf.sk; have h2 : ((L.drop X.nx).map (wG C)).sum = (2 * i + 3) + ((L.drop (X.nx + 1)).map (wG C)).sum := by
    have hcons : L.drop X.nx = L.getD X.nx default :: L.drop (X.nx + 1) := by
     rw [List.drop_eq_getElem_cons hl]
     congr 1
     rw [Lu hl] at hxg; exact Option.some.inj hxg
    rw [hcons, List.map_cons, List.sum_cons]
    congr 1
    unfold wG; rw [hgi2]
   show _ + ((L.drop (X.nx + 1)).map (wG C)).sum + (P.length - X.pg) < _
   omega
  ·cases hn
 | arr =>
  unfold Xd.next at hn
  dsimp only at hn
  split at hn
  ·rename_i j hb; cases hn
   obtain ⟨⟨g1, g2, g3⟩, _⟩ := gG hb; obtain ⟨l1, l2, l3, l4, l5, l6⟩ := rP hx hv g1 g2; unfold muX; rw [l1, l2]; omega
  ·cases hn
theorem Ez (hp : X.pg < P.length) {x : Pur} (hx : P[X.pg]? = some x) (ht : x.ti = X.no) : X.next C R E P L lim .pur = some (.pur, X.yG x.ke) := by
 unfold Xd.next
 dsimp only
 rw [getD_at hx, if_pos ⟨hp, ht⟩]
theorem BG (h : ¬ (X.pg < P.length ∧ (P.getD X.pg default).ti = X.no)) : X.next C R E P L lim .pur = some (.bak, X) := by
 unfold Xd.next
 dsimp only
 rw [if_neg h]
end
def Ik (C : List Cch) : Prop := ∀ (i : Nat) (x : Cch), C[i]? = some x → (x.pa = ⟨#[]⟩ → fC C x.pa = -1) ∧ (¬ x.pa = ⟨#[]⟩ → 0 ≤ fC C x.pa)
structure uz (w W : World) (v6 v7 : Value) (l6 l7 : List Nat) : Prop where
 b : Below w.heap.size w W
 o6 : Own W w.heap.size 3 1 mD v6 l6
 o7 : Own W w.heap.size 3 1 mD v7 l7
 d : ∀ g n c g' n' c', v6 = .slice (some ⟨g, 0, none⟩) n c → v7 = .slice (some ⟨g', 0, none⟩) n' c' → g ≠ g'
theorem uz.nil (w : World) : uz w w (.slice none 0 0) (.slice none 0 0) [] [] := ⟨LD _ _, Own.nil, Own.nil, fun _ _ _ _ _ _ h => by cases h⟩
theorem uz.al {w W : World} {v6 v7 : Value} {l6 l7 : List Nat} (h : uz w W v6 v7 l6 l7) (o : Obj) : uz w (W.alloc o) v6 v7 l6 l7 := ⟨h.b.alloc h.b.size o, h.o6.al o, h.o7.al o, h.d⟩
theorem wO {W W' : World} {N : Nat} {v v2 v2' : Value} {l : List Nat} (h : Own W N 3 1 mD v l) (hk : dm W W' v2 v2') (hd : ∀ g n c, v = .slice (some ⟨g, 0, none⟩) n c → df g v2) : Own W' N 3 1 mD v l ∧ ∀ g n c, v = .slice (some ⟨g, 0, none⟩) n c → df g v2' := by
 obtain ⟨h1, h2⟩ := h; rcases h2 with h2 | ⟨g, cap, cur, rfl, hg, hh, r⟩
 ·exact ⟨⟨h1, .inl h2⟩, fun g n c e => by rw [h2.1] at e; cases e⟩
 ·obtain ⟨k1, k2⟩ := hk g (Array.getElem?_eq_some_iff.1 hh).1 (hd _ _ _ rfl); refine ⟨⟨h1, .inr ⟨g, cap, cur, rfl, hg, k1.trans hh, r⟩⟩, fun g' n c e => ?_⟩; cases e
  exact k2
theorem FT {g : Nat} {v : Value} (h : ∀ g' n c, v = .slice (some ⟨g', 0, none⟩) n c → g ≠ g') {W : World} {N : Nat} {l : List Nat} (ho : Own W N 3 1 mD v l) : df g v := by
 rcases Own.slw ho with ⟨rfl, _⟩ | ⟨g', cap, rfl⟩
 ·exact df.nil g
 ·exact df.mk (fun e => h g' _ _ rfl e.symm)
theorem uz.Jz {w W W' : World} {v6 v7 v' : Value} {l6 l7 l' : List Nat} (h : uz w W v6 v7 l6 l7) (ho : Own W' w.heap.size 3 1 mD v' l') (hb : Below w.heap.size W W') (hk : dm W W' v6 v') : uz w W' v' v7 l' l7 := by
 obtain ⟨k1, k2⟩ := wO h.o7 hk fun g n c e => FT (fun g' n' c' e' => Ne.symm (h.d g' n' c' g n c e' e)) h.o6
 exact ⟨h.b.trans hb, ho, k1, fun g n c g' n' c' e e' => k2 g' n' c' e' ⟨g, 0, none⟩ n c e⟩
theorem uz.Jy {w W W' : World} {v6 v7 v' : Value} {l6 l7 l' : List Nat} (h : uz w W v6 v7 l6 l7) (ho : Own W' w.heap.size 3 1 mD v' l') (hb : Below w.heap.size W W') (hk : dm W W' v7 v') : uz w W' v6 v' l6 l' := by
 obtain ⟨k1, k2⟩ := wO h.o6 hk fun g n c e => FT (fun g' n' c' e' => h.d g n c g' n' c' e e') h.o7
 exact ⟨h.b.trans hb, k1, ho, fun g n c g' n' c' e e' => Ne.symm (k2 g n c e ⟨g', 0, none⟩ n' c' e')⟩
section
variable {C : List Cch} {R : List Crl} {E : List Rel} {P : List Pur} {L : List Gt} {X X' X0 : Xd} {lim : Int} {m : Mod}
theorem Hl {w : Xw} {a : Ans} (hj : ∀ j, w.ak = some j → j < X.ak.length) (b : Nat) : ((X.aI C w a).K b).ws = (X.K b).ws ∧ ((X.aI C w a).K b).ca = (X.K b).ca := by
 unfold Xd.aI; cases hw : w.ak with
 | none => exact ⟨rfl, rfl⟩
 | some j =>
  show ((X.bT j { X.K j with kn := true, go := a, bk := X.no + deO C (X.K j).ca }).K b).ws = _ ∧ ((X.bT j _).K b).ca = _
  rw [Xd.dB (hj j hw)]; split
  ·rename_i e; rw [e]; exact ⟨rfl, rfl⟩
  ·exact ⟨rfl, rfl⟩
theorem xK {w : Xw} {a : Ans} (b : Nat) : ((X.aI C w a).K b).ws = (X.K b).ws ∧ ((X.aI C w a).K b).ca = (X.K b).ca := by
 by_cases h : ∀ j, w.ak = some j → j < X.ak.length
 ·exact Hl h b
 ·cases hw : w.ak with
  | none => exact absurd (fun j hj => by rw [hw] at hj; cases hj) h
  | some j =>
   have hj : ¬ j < X.ak.length := fun hl => h fun j' hj' => by rw [hw] at hj'; cases hj'; exact hl
   have e : X.aI C w a = X := by
    unfold Xd.aI; rw [hw]; show X.bT j _ = X
    unfold Xd.bT; rw [List.set_eq_of_length_le (by omega)]
   rw [e]; exact ⟨rfl, rfl⟩
theorem xI {a : Ans} : ∀ (ws : List Xw) (X : Xd), (X.bQ C ws a).ak.length = X.ak.length ∧ ∀ b, ((X.bQ C ws a).K b).ws = (X.K b).ws ∧ ((X.bQ C ws a).K b).ca = (X.K b).ca
 | [], X => ⟨rfl, fun b => ⟨rfl, rfl⟩⟩
 | w :: ws, X => by
  obtain ⟨h1, h2⟩ := xI (a := a) ws (X.aI C w a); exact ⟨h1.trans fM, fun b => ⟨(h2 b).1.trans (xK b).1, (h2 b).2.trans (xK b).2⟩⟩
theorem xJ {a : Ans} : ∀ (ws : List Xw) (X : Xd), (X.bQ C ws a).no = X.no
 | [], _ => rfl
 | w :: ws, X => (xJ (a := a) ws (X.aI C w a)).trans mf
def DT (C : List Cch) (R : List Crl) (E : List Rel) (P : List Pur) (L : List Gt) (lim : Int) (w : World) (B : Nat) (A : Rdr) (X : Xd) : Ending → World → Prop := fun e w' => ∃ A' X', e = .returned (.tuple #[]) ∧ RD w' B A' X' ∧ bW A A' ∧ Below B w w' ∧ RInv C R E P L lim .out X' ∧ muX C P L X' < muX C P L X
end
set_option linter.unusedSimpArgs false in
theorem Aw (w0 w : World) (B : Nat) (A : Rdr) (X : Xd) (h : RD w B A X) (C : List Cch) (R : List Crl) (E : List Rel) (P : List Pur) (L : List Gt) (hE : oK w0 B A C R E P L) (hw : Below w0.heap.size w0 w) (hv : Val C R E P L) (hpa : Ik C) (lim : Int) (hi : RInv C R E P L lim .out X) (t : Int) (ht : pX (X.times P L) = some t) (hlt : ¬ lim < t) :
 Calls Tryz.prog 65 #[.pointer (some ⟨A.q, 0, none⟩), .int .i64 t] w (DT C R E P L lim w B A X) := by
 obtain ⟨X0, hX0⟩ : ∃ X0, X0 = ({ X with no := t } : Xd) := ⟨_, rfl⟩
 have hi0 : RInv C R E P L lim .pur X0 := hX0 ▸ hi.next hv (by unfold Xd.next; dsimp only; rw [ht]; dsimp only; rw [if_neg hlt]); obtain ⟨w1, hw1⟩ : ∃ w1, w1 = w.setCell ⟨A.q, 11, none⟩ (.int .i64 t) := ⟨_, rfl⟩
 have hs0 : StX w B A A.x w1 A X0 := by
  have h1 : StX w B A A.x w A X := ⟨h, bW.refl _, LD _ _⟩
  rw [hX0, hw1]; exact h1.sW 11 _ _ rfl rfl rfl rfl rfl
 have hq11 : w.cell? ⟨A.q, 11, none⟩ = some (.int .i64 X.no) := af h.qb.2 11 rfl; have hqf : w.frozen? ⟨A.q, 11, none⟩ = false := cO h.qb.2 11; have hmu0 : muX C P L X0 = muX C P L X := by rw [hX0]; rfl
 have hno0 : X0.no = t := by rw [hX0]
 have htm : ∀ F : Prop, (F → ¬ (X0.pg < P.length ∧ (P.getD X0.pg default).ti = X0.no)) → (F → X0.gV = none) → (F → ¬ (X0.nx < L.length ∧ (L.getD X0.nx default).ti = X0.no)) → (F → X0.lN = none) → F → False := fun F f1 f2 f3 f4 hF => by
  have h1 := (fK ht).1; rcases bD.1 h1 with ⟨x, hx, e⟩ | ⟨x, hx, e⟩ | ⟨j, k, hk, e⟩
  ·refine f3 hF ?_; rw [hno0, hX0]; exact ⟨(List.getElem?_eq_some_iff.1 hx).1, by rw [getD_at hx]; exact e.symm⟩
  ·refine f1 hF ?_; rw [hno0, hX0]; exact ⟨(List.getElem?_eq_some_iff.1 hx).1, by rw [getD_at hx]; exact e.symm⟩
  ·have hjl := (List.getElem?_eq_some_iff.1 hk).1; have hK : X0.K j = k := by rw [hX0]; exact Xd.zK hk
   have hjl0 : j < X0.ak.length := by rw [hX0]; exact hjl
   rcases e with ⟨e1, e2⟩ | ⟨e1, e2, e3⟩
   ·exact pW (f4 hF) j hjl0 (by rw [hK]; exact e1) (by rw [hK, hno0]; exact e2.symm)
   ·exact kQ (f2 hF) j hjl0 (by rw [hK]; exact e1) (by rw [hK]; exact e2) (by rw [hK, hno0]; exact e3.symm)
 obtain ⟨po, pc, e3, -, -, -, pel⟩ := hE.p; obtain ⟨lo, lc, e4, -, -, -, lel⟩ := hE.l; obtain ⟨co, cc, e0, -, -, -, cel⟩ := hE.c; obtain ⟨so, sn, sc, e8⟩ := Own.slv dV h.rows; have HPE : Hid (∀ (n : Nat) (x : Pur), P[n]? = some x → ∃ b off, po = some ⟨b, off, none⟩ ∧ ∀ W : World, Below w0.heap.size w0 W → W.cell? ⟨b, off + n * 2, none⟩ = some (.int .i64 x.ti) ∧ W.cell? ⟨b, off + n * 2 + 1, none⟩ = some (.string x.ke)) := Lr fun n x hx => by
  obtain ⟨b, off, rfl, hc⟩ := pel n x hx; have hl := LC w0 _ (hc 1 _ rfl); refine ⟨b, off, rfl, fun W hW => ⟨?_, (hW.cell (p := ⟨b, off + n * 2 + 1, none⟩) hl).trans (hc 1 _ rfl)⟩⟩; have h1 := (hW.cell (p := ⟨b, off + n * 2 + 0, none⟩) hl).trans (hc 0 _ rfl)
  simpa using h1
 have HLE : Hid (∀ (n : Nat) (x : Gt), L[n]? = some x → ∃ b off, lo = some ⟨b, off, none⟩ ∧ ∀ W : World, Below w0.heap.size w0 W → W.cell? ⟨b, off + n * 3, none⟩ = some (.int .i64 x.ti) ∧ W.cell? ⟨b, off + n * 3 + 1, none⟩ = some (.string x.ca) ∧ W.cell? ⟨b, off + n * 3 + 2, none⟩ = some (.string x.ke)) := Lr fun n x hx => by
  obtain ⟨b, off, rfl, hc⟩ := lel n x hx; have hl := LC w0 _ (hc 1 _ rfl); refine ⟨b, off, rfl, fun W hW => ⟨?_, (hW.cell (p := ⟨b, off + n * 3 + 1, none⟩) hl).trans (hc 1 _ rfl), (hW.cell (p := ⟨b, off + n * 3 + 2, none⟩) hl).trans (hc 2 _ rfl)⟩⟩; have h1 := (hW.cell (p := ⟨b, off + n * 3 + 0, none⟩) hl).trans (hc 0 _ rfl)
  simpa using h1
 have HCE : Hid (∀ (n : Nat) (x : Cch), C[n]? = some x → ∃ b off, co = some ⟨b, off, none⟩ ∧ ∀ W : World, Below w0.heap.size w0 W → W.cell? ⟨b, off + n * 4 + 1, none⟩ = some (.string x.pa)) := Lr fun n x hx => by
  obtain ⟨b, off, rfl, hc⟩ := cel n x hx; have hl := LC w0 _ (hc 1 _ rfl); exact ⟨b, off, rfl, fun W hW => (hW.cell (p := ⟨b, off + n * 4 + 1, none⟩) hl).trans (hc 1 _ rfl)⟩
 have HWB : Hid (∀ (xs : List (Nat × Obj)) (W : World) (A' : Rdr) (X' : Xd), StX w B A xs W A' X' → Below w0.heap.size w0 W) := Lr fun xs W A' X' hs => hw.trans (hs.be.mono hE.b)
 have HQC : Hid (∀ (xs : List (Nat × Obj)) (W : World) (A' : Rdr) (X' : Xd), StX w B A xs W A' X' → ∀ V : World, Below W.heap.size W V → (V.cell? ⟨A.q, 0, none⟩ = some (.slice co C.length cc) ∧ V.cell? ⟨A.q, 3, none⟩ = some (.slice po P.length pc) ∧ V.cell? ⟨A.q, 4, none⟩ = some (.slice lo L.length lc)) ∧ V.cell? ⟨A.q, 5, none⟩ = some (.int .i64 (X'.nx : Nat)) ∧ V.cell? ⟨A.q, 6, none⟩ = some (.int .i64 (X'.pg : Nat)) ∧ V.cell? ⟨A.q, 7, none⟩ = some A'.kv ∧ V.cell? ⟨A.q, 8, none⟩ = some (.slice so sn sc) ∧ V.cell? ⟨A.q, 10, none⟩ = some A.lv ∧ (V.frozen? ⟨A.q, 5, none⟩ = false ∧ V.frozen? ⟨A.q, 6, none⟩ = false)) := Lr fun xs W A' X' hs V hV => by
  have hb := (hV.block _ hs.ql).trans hs.qb; exact ⟨⟨by rw [af hb 0 rfl, ← e0]; rfl, by rw [af hb 3 rfl, ← e3]; rfl, by rw [af hb 4 rfl, ← e4]; rfl⟩, af hb 5 rfl, af hb 6 rfl, af hb 7 rfl, by rw [af hb 8 rfl, ← e8]; rfl, af hb 10 rfl, cO hb 5, cO hb 6⟩
 have HSN : Hid (∀ (xs : List (Nat × Obj)) (W : World) (A' : Rdr) (X' : Xd), StX w B A xs W A' X' → sn = X'.he.length) := Lr fun xs W A' X' hs => by
  have h1 := hs.rd.rows; obtain ⟨ao, cap, e, -⟩ := h1.sl dV; rw [hs.le.hh] at e; have e' : Value.slice so sn sc = .slice ao A'.hs.length cap := e8.symm.trans e; simp only [Value.slice.injEq] at e'
  rw [e'.2.1, hs.rd.hl]
 have HE := Lr hE; have HW := Lr hw; have HV := Lr hv; have HPA := Lr hpa; have HI0 := Lr hi0; have HS0 := Lr hs0; have HMU0 := Lr hmu0; have HNO0 := Lr hno0; have HTM := Lr htm; have HW1 := Lr hw1; have HE8 := Lr e8; have HE0 := Lr e0; clear h hE hw hv hpa hi hX0 hi0 hs0 hmu0 hno0 ht hlt htm e3 e4 e8 pel lel cel hw1
 go_enter Tryz.func65, Tryz.ntmps65
 go_wp2_with fail
 rw [← HW1.out]; clear hq11 hqf
 go_loopg [4, 5] P.length (fun gg s4 s5 wr => ∃ (Xc : Xd) (Ac : Rdr), P.length - Xc.pg ≤ gg ∧ Aside (StX w B A A.x wr Ac Xc ∧ RInv C R E P L lim .pur Xc ∧ Lee C P L True X0 Xc ∧ Xc.no = t))
 case atStart => exact ⟨X0, A, Nat.sub_le _ _, (show Aside (_ ∧ _ ∧ _ ∧ _) from ⟨HS0.out, HI0.out, .inr ⟨rfl, trivial⟩, HNO0.out⟩)⟩
 case round =>
  obtain ⟨wz, rfl⟩ : ∃ wz, wz = wr := ⟨_, rfl⟩
  obtain ⟨Xc, Ac, hgg, ST⟩ := hrel; have HST := Lr ST.out.1; have HRI := Lr ST.out.2.1; have HLE0 := Lr ST.out.2.2.1; have HNC := Lr ST.out.2.2.2; clear ST; obtain ⟨⟨-, q3, -⟩, -, q6, -⟩ := HQC.out _ _ _ _ HST.out wz (LD _ _); have hpl := HRI.out.inv.le.2.2.2.2; by_cases hp : Xc.pg < P.length ∧ (P.getD Xc.pg default).ti = t
  ·as_aux_lemma =>
    obtain ⟨hp1, hp2⟩ := hp; obtain ⟨x, hx⟩ : ∃ x, P[Xc.pg]? = some x := ⟨_, Lu hp1⟩
    rw [getD_at hx] at hp2; have HNX : Hid (Xc.next C R E P L lim .pur = some (.pur, Xc.yG x.ke)) := Lr (Ez hp1 hx (hp2.trans HNC.out.symm)); obtain ⟨pb, poff, rfl, hpx⟩ := HPE.out _ _ hx; have HPX := Lr hpx; obtain ⟨p0, -⟩ := hpx wz (HWB.out _ _ _ _ HST.out); have hpz : (Xc.pg : Int) < (P.length : Int) := by omega
    have hp0 : (0 : Int) ≤ (Xc.pg : Int) := by omega
    have htb : (x.ti == t) = true := beq_iff_eq.2 hp2; clear hx hpx hp2
    go_upto_region 1 with (fail)
    go_quiet (fail)
    obtain ⟨w2, hw2⟩ : ∃ w2, w2 = wz.drewN nq := ⟨_, rfl⟩
    have HS2 : Hid (StX w B A A.x w2 Ac Xc) := Lr (by rw [hw2]; exact HST.out.below (below_drewN (LD _ _) _)); rw [← hw2]; clear hw2 q3 q6 p0 htb; obtain ⟨-, -, -, -, q8, -⟩ := HQC.out _ _ _ _ HS2.out w2 (LD _ _); have hsn := HSN.out _ _ _ _ HS2.out; rw [hsn] at q8; have HSNE := Lr hsn; clear hsn; have hcb : Xc.he.length ≤ 30 := by rw [HRI.out.inv.le.1]; exact HV.out.c
    go_wp2_with fail
    clear q8
    go_loopg [4, 5, 62] Xc.he.length (fun gg s4 s5 s62 wr => ∃ (c : Nat) (Ad : Rdr), c ≤ Xc.he.length ∧ Xc.he.length - c ≤ gg ∧ s62 = .int .i64 c ∧ Aside (StX w B A A.x wr Ad (jJ Xc x.ke c)))
    case atStart => exact ⟨0, Ac, Nat.zero_le _, by omega, rfl, (show Aside _ from HS2.out)⟩
    case round =>
     obtain ⟨wy, rfl⟩ : ∃ wy, wy = wr := ⟨_, rfl⟩
     obtain ⟨c, Ad, hc, hcg, rfl, SY⟩ := hrel; have HSY := Lr SY.out; clear SY; by_cases hlc : c < Xc.he.length
     ·have hlcz : (c : Int) < (Xc.he.length : Int) := by omega
      obtain ⟨g1, g2, g3, g4, g5, g6, g7, g8⟩ := iE (X := Xc) (key := x.ke) c; have hcy : c < (jJ Xc x.ke c).he.length := by rw [g7]; exact hlc
      have HNY : Hid (jJ Xc x.ke (c + 1) = (jJ Xc x.ke c).setH c (eH ((jJ Xc x.ke c).H c) x.ke)) := Lr rfl; have HND : Hid ((((jJ Xc x.ke c).H c).map Xh.ke).Nodup ∧ ((jJ Xc x.ke c).H c).length ≤ 61200) := Lr (by
       rw [g8 c (Ls _)]; obtain ⟨n, hcn, hn⟩ := HRI.out.cap; exact ⟨(HRI.out.inv.held c).1, by have := hcn.he c; omega⟩)
      have hpgy := g6; obtain ⟨Y, hY⟩ : ∃ Y, Y = jJ Xc x.ke c := ⟨_, rfl⟩
      rw [← hY] at hcy HNY HND HSY hpgy; clear g1 g2 g3 g4 g5 g6 g7 g8 hY; have HQY : Hid (∀ V : World, Below wy.heap.size wy V → V.cell? ⟨A.q, 3, none⟩ = some (.slice (some ⟨pb, poff, none⟩) P.length pc) ∧ V.cell? ⟨A.q, 6, none⟩ = some (.int .i64 (Xc.pg : Nat)) ∧ V.cell? ⟨pb, poff + Xc.pg * 2 + 1, none⟩ = some (.string x.ke)) := Lr fun V hV => by
       obtain ⟨⟨-, z3, -⟩, -, z6, -⟩ := HQC.out _ _ _ _ HSY.out V hV; rw [hpgy] at z6; exact ⟨z3, z6, (HPX.out V ((HWB.out _ _ _ _ HSY.out).bf hV)).2⟩
      have HPLC : Hid (∀ V : World, Below wy.heap.size wy V → Calls Tryz.prog 98 #[.pointer (some ⟨A.q, 0, none⟩), .int .i64 (c : Nat), .string x.ke] V fun e w' => e = .returned (.int .i64 (numO (plI (Y.H c) x.ke))) ∧ Below V.heap.size V w') := Lr fun V hV => Et (HSY.out.below hV) c x.ke hcy
      have HBQ : Hid (Below wy.heap.size wy wy.drew) := Lr (LD _ wy).drew; obtain ⟨F, hF⟩ : ∃ F, F = plI (Y.H c) x.ke := ⟨_, rfl⟩
      rw [← hF] at HPLC; have HF := Lr hF; clear hF hpgy
      go_upto_region 6 with (fail)
      refine wp_region_held_drew (S := fun W => Below wy.heap.size wy W) (by kernel_rfl) HBQ.out (fun hHeld => ?_); have HB9 := HBQ; refine tkI 0 65 hHeld (h := ?_)
      try simp only [pu]
      refine tkI 1 66 hHeld (h := ?_)
      try simp only [pu]
      refine tkI 2 67 hHeld (h := ?_)
      try simp only [pu]
      refine tkI 3 68 hHeld (h := ?_)
      try simp only [pu]
      refine tkI 4 69 hHeld (h := ?_)
      try simp only [pu]
      refine tkI 5 70 hHeld (h := ?_)
      try simp only [pu]
      refine tkI 6 71 hHeld (hy := by (intro w' hSw; have z1 := (HQY.out _ hSw).1; go_simp) <;> with_reducible rfl) (h := ?_)
      try simp only [pu]
      refine tkI 7 72 hHeld (h := ?_)
      try simp only [pu]
      refine tkI 8 73 hHeld (h := ?_)
      try simp only [pu]
      refine tkI 9 74 hHeld (h := ?_)
      try simp only [pu]
      refine tkI 10 75 hHeld (hy := by (intro w' hSw; have z1 := (HQY.out _ hSw).2.1; go_simp) <;> with_reducible rfl) (h := ?_)
      try simp only [pu]
      refine tkI 11 76 hHeld (h := ?_)
      try simp only [pu]
      refine tkI 12 77 hHeld (h := ?_)
      try simp only [pu]
      refine tkI 13 78 hHeld (hy := by (intro w' hSw; have z1 := (HQY.out _ hSw).2.2; go_simp) <;> with_reducible rfl) (h := ?_)
      try simp only [pu]
      refine iK (f := 98) (args := #[.pointer (some ⟨A.q, 0, none⟩), .int .i64 (c : Nat), .string x.ke]) 14 79 rfl rfl (by kernel_rfl) (by rfl) (by go_simp) ?_; clear hHeld; refine (HPLC.out _ HB9.out).mono ?_; rintro e w9 ⟨rfl, hb9⟩; replace HB9 := Lr (HB9.out.bf hb9)
      clear hb9; have hHeld : Below wy.heap.size wy w9 := HB9.out; refine ⟨_, rfl, hHeld, ?_⟩
      try simp only [pu]
      refine tkI 15 5 hHeld (h := ?_)
      try simp only [pu]
      refine wpAnyH_done (by kernel_rfl) ?_ _; clear hHeld; have HS7 := Lr (HSY.out.below HB9.out); rcases Option.eq_none_or_eq_some F with hFe | ⟨n, hFe⟩
      ·have hdl : eH (Y.H c) x.ke = Y.H c := xX (lU (HF.out.symm.trans hFe)); have HYE : Hid (jJ Xc x.ke (c + 1) = Y) := Lr (by rw [HNY.out, hdl, sV]); have hnf : numO F = -1 := by rw [hFe]; rfl
       clear hdl hFe
       go_wp2_with fail
       go_roundg (Xc.he.length - (c + 1))
       case measure => omega
       case rel => exact ⟨c + 1, Ad, by omega, by omega, by go_num, (show Aside _ from by rw [HYE.out]; exact HS7.out)⟩
      ·have hnf : numO F = (n : Int) := by rw [hFe]; rfl
       obtain ⟨v, hvv⟩ : ∃ v, Ad.hs[c]? = some v := ⟨_, Lu (by rw [HS7.out.rd.hl]; exact hcy)⟩
       have hne : Ad.hs ≠ [] := fun e => by rw [e] at hvv; cases hvv
       obtain ⟨sb, sc', hsv, hs1, hs2, hs3, hs4, hsc, hsf⟩ := Own.gZ dV HS7.out.rd.rows hne; have hA : A.hh = .slice (some ⟨sb, 0, none⟩) Ad.hs.length sc' := by rw [← HS7.out.le.hh]; exact hsv
       have hso := HE8.out.symm.trans hA; simp only [Value.slice.injEq] at hso
       obtain ⟨rfl, rfl, rfl⟩ := hso; obtain ⟨va, vn, vc, rfl⟩ := Own.slv aJ (HS7.out.rd.held hvv); obtain ⟨xh, hxh, -⟩ := jO HND.out.1 (HF.out.symm.trans hFe); have hnl := (List.getElem?_eq_some_iff.1 hxh).1; have HDE : Hid ((Y.H c).eraseIdx n = eH (Y.H c) x.ke) := Lr (Bi HND.out.1 (HF.out.symm.trans hFe)); have sv : w9.cell? ⟨sb, c, none⟩ = some (.slice va vn vc) := by have h := hsc c _ 0 _ hvv rfl; simpa using h
       have sf : w9.frozen? ⟨sb, c, none⟩ = false := hsf c; have hsq : ¬ sb = A.q := fun e => by have := HS7.out.rd.Ew.2.1 _ _ _ hsv; rw [HS7.out.aq] at this; exact this e
       have HSS : Hid (∀ W : World, Below w9.heap.size w9 W → W.cell? ⟨A.q, 8, none⟩ = some (.slice (some ⟨sb, 0, none⟩) Ad.hs.length sc)) := Lr fun W hW => (HQC.out _ _ _ _ HS7.out W hW).2.2.2.2.1
       have HKV : Hid (∀ W : World, Below w9.heap.size w9 W → W.cell? ⟨sb, c, none⟩ = some (.slice va vn vc)) := Lr fun W hW => (hW.cell (p := ⟨sb, c, none⟩) hs2).trans sv
       have HFZ : Hid (∀ W : World, Below w9.heap.size w9 W → W.frozen? ⟨sb, c, none⟩ = false) := Lr fun W hW => (hW.frozen (p := ⟨sb, c, none⟩) hs2).trans sf
       have HNL := Lr hnl; have HCL : Hid (∀ W : World, Below w9.heap.size w9 W → Calls Tryz.prog 100 #[.slice va vn vc] W (gI W 107 6 jG (Y.H c))) := Lr fun W hW => jd W (Y.H c) _ ((((HS7.out.below hW).rd.held hvv)).sl aJ) (by have := HND.out.2; omega)
       have HDL : Hid (∀ (W : World) (v' : Value) (N : Nat), Own W N 107 6 jG v' (Y.H c) → Calls Tryz.prog 99 #[v', .int .i64 (n : Nat), .int .i64 ((n : Int) + 1)] W fun e w' => ∃ v2, e = .returned v2 ∧ Own w' N 107 6 jG v2 ((Y.H c).eraseIdx n) ∧ Below N W w') := Lr fun W v' N ho => rG W N (Y.H c) v' ho n HNL.out
       have HFN : Hid (∀ (W : World) (v' : Value), Own W w9.heap.size 107 6 jG v' ((Y.H c).eraseIdx n) → Below w9.heap.size w9 W → ∃ A', StX w B A A.x (W.setCell ⟨sb, c, none⟩ v') A' (jJ Xc x.ke (c + 1))) := Lr fun W v' ho hb => by
        rw [HNY.out, ← HDE.out]; exact HS7.out.putRow hvv hA rfl hs1 (.inr ho) hb
       have HST8 : Hid (∀ (W : World) (u : Value), W.cell? ⟨A.q, 8, none⟩ = some (.slice (some ⟨sb, 0, none⟩) Ad.hs.length sc) → (W.setCell ⟨sb, c, none⟩ u).cell? ⟨A.q, 8, none⟩ = some (.slice (some ⟨sb, 0, none⟩) Ad.hs.length sc)) := Lr fun W u hS => (World.cell?_setCell_far W _ _ u hsq).trans hS
       have hn0 : (0 : Int) ≤ (n : Int) := by omega
       have hcz2 : (c : Int) < (Ad.hs.length : Int) := by have := (List.getElem?_eq_some_iff.1 hvv).1; omega
       have hwn : IntKind.i64.wrap ((n : Int) + 1) = (n : Int) + 1 := IntWalk.i64_in _ (by have := HND.out.2; omega); have HB8 : Hid (Below w9.heap.size w9 w9.drew) := Lr (LD _ w9).drew; clear hFe hvv hne hsv hs3 hs4 hsc hsf hA hxh hnl sv sf
       go_upto_region 8 with (fail)
       refine wp_region_held_drew (S := fun W => W.cell? ⟨A.q, 8, none⟩ = some (.slice (some ⟨sb, 0, none⟩) Ad.hs.length sc)) (by kernel_rfl) (HSS.out _ HB8.out) (fun hHeld => ?_); refine tkS 0 82 hHeld ?_
       try simp only [pu]
       refine tkS 1 83 hHeld ?_
       try simp only [pu]
       refine tkS 2 84 hHeld ?_
       try simp only [pu]
       refine tkS 3 85 hHeld ?_
       try simp only [pu]
       refine tkS 4 86 hHeld ?_
       try simp only [pu]
       refine tkS 5 87 hHeld ?_
       try simp only [pu]
       refine tkS 6 88 hHeld ?_
       try simp only [pu]
       refine tkS 7 89 hHeld ?_
       try simp only [pu]
       refine tkS 8 90 hHeld ?_
       try simp only [pu]
       refine tkS 9 91 hHeld ?_
       try simp only [pu]
       refine tkS 10 92 hHeld ?_
       try simp only [pu]
       refine tkS 13 95 hHeld ?_
       try simp only [pu]
       refine tkS 14 96 hHeld ?_
       try simp only [pu]
       refine tkS 15 97 hHeld ?_
       try simp only [pu]
       refine wpAnyH_ready (rs := [11]) (by kernel_rfl) (by simp) (AllReadyH.cons rfl (fun K hK => ?_) AllReadyH.nil); have yv := HKV.out _ HB8.out
       go_simp
       refine hK.out _ _ (HSS.out _ HB8.out) (fun hHeld => ?_); clear hK K
       try simp only [pu]
       refine wpAnyH_ready (rs := [12]) (by kernel_rfl) (by simp) (AllReadyH.cons rfl (fun K hK => ?_) AllReadyH.nil); rw [if_pos (by rfl)]
       go_simp
       go_at_call 100
       refine (HCL.out _ HB8.out).mono ?_; rintro e w11 ⟨v11, rfl, ho11, hb11⟩; have HB11 := Lr (HB8.out.bf hb11); have HO11 := Lr (Own.jm ho11 HB8.out.size); clear ho11 hb11; refine hK.out _ _ (HSS.out _ HB11.out) (fun hHeld => ?_); clear hK K
       try simp only [pu]
       refine wpAnyH_ready (rs := [16]) (by kernel_rfl) (by simp) (AllReadyH.cons rfl (fun K hK => ?_) AllReadyH.nil); rw [if_pos (by rfl)]
       go_simp
       go_at_call 99
       refine (HDL.out _ _ _ HO11.out).mono ?_; rintro e w12 ⟨v12, rfl, ho12, hb12⟩; have HB12 := Lr (HB11.out.trans hb12); have HO12 := Lr ho12; clear ho12 hb12; obtain ⟨a12, n12, c12, rfl⟩ := Own.slv aJ HO12.out; refine hK.out _ _ (HSS.out _ HB12.out) (fun hHeld => ?_); clear hK K
       try simp only [pu]
       refine tkS 17 99 hHeld ?_
       try simp only [pu]
       refine wpAnyH_ready (rs := [18]) (by kernel_rfl) (by simp) (AllReadyH.cons rfl (fun K hK => ?_) AllReadyH.nil); have yf := HFZ.out _ HB12.out; have yk := HKV.out _ HB12.out
       go_simp
       refine hK.out _ _ (HST8.out _ _ (HSS.out _ HB12.out)) (fun hHeld => ?_); clear hK K
       try simp only [pu]
       refine wpAnyH_done (by kernel_rfl) ?_ _; clear hHeld; obtain ⟨A8, h8⟩ := HFN.out _ _ HO12.out HB12.out; have HS8 := Lr h8; clear h8
       go_wp2_with fail
       go_roundg (Xc.he.length - (c + 1))
       case measure => omega
       case rel => exact ⟨c + 1, A8, by omega, by omega, by go_num, (show Aside _ from HS8.out)⟩
     ·obtain rfl : c = Xc.he.length := by omega
      have hlcz : ¬ (Xc.he.length : Int) < (Xc.he.length : Int) := by omega
      have hpgy := (iE (X := Xc) (key := x.ke) Xc.he.length).2.2.2.2.2.1; obtain ⟨-, -, z6, -, -, -, -, zf⟩ := HQC.out _ _ _ _ HSY.out wy (LD _ _); rw [hpgy] at z6; have hwp : IntKind.i64.wrap ((Xc.pg : Int) + 1) = (Xc.pg : Int) + 1 := IntWalk.i64_in _ (by have := HV.out.p; omega); have hs9 : StX w B A A.x (wy.setCell ⟨A.q, 6, none⟩ (.int .i64 ((Xc.pg : Int) + 1))) Ad (Xc.yG x.ke) := by
       have h1 := HSY.out.sW 6 (.int .i64 ((Xc.pg : Int) + 1)) ({ jJ Xc x.ke Xc.he.length with pg := Xc.pg + 1 } : Xd) rfl rfl rfl rfl rfl; rw [Es] at h1; exact h1
      have HS9 := Lr hs9; have hri := HRI.out.next HV.out HNX.out; have hmu := qN HRI.out HV.out HNX.out (by simp); have HR9 := Lr hri; have HM9 := Lr hmu; clear hs9 hri hmu hpgy
      go_wp2_with fail
      go_roundg (P.length - (Xc.pg + 1))
      case measure => omega
      case rel => exact ⟨Xc.yG x.ke, Ad, Ls _, (show Aside (_ ∧ _ ∧ _ ∧ _) from ⟨HS9.out, HR9.out, HLE0.out.step HM9.out, HNC.out⟩)⟩
  ·
   have HNX : Hid (Xc.next C R E P L lim .pur = some (.bak, Xc)) := Lr (BG (by rw [HNC.out]; exact hp)); have HRB := Lr (HRI.out.next HV.out HNX.out); have HL1 : Hid (Lee C P L (¬ (X0.pg < P.length ∧ (P.getD X0.pg default).ti = X0.no)) X0 Xc) := Lr (HLE0.out.exit fun e _ => by rw [← e, HNC.out]; exact hp)
   go_upto_region 1 with (fail)
   go_cut [49] (fun s49 W => s49 = .bool false ∧ Aside (Below wz.heap.size wz W))
   case first =>
    by_cases hp1 : Xc.pg < P.length
    ·obtain ⟨x, hx⟩ : ∃ x, P[Xc.pg]? = some x := ⟨_, Lu hp1⟩
     have hne : ¬ x.ti = t := fun e => hp ⟨hp1, by rw [getD_at hx]; exact e⟩
     obtain ⟨pb, poff, rfl, hpx⟩ := HPE.out _ _ hx; obtain ⟨p0, -⟩ := hpx wz (HWB.out _ _ _ _ HST.out); have hpz : (Xc.pg : Int) < (P.length : Int) := by omega
     have hp0 : (0 : Int) ≤ (Xc.pg : Int) := by omega
     have htb : (x.ti == t) = false := beq_eq_false_iff_ne.2 hne; clear hx hpx hne hp
     go_quiet (fail)
     go_wp2_with fail
     go_meet
     exact ⟨rfl, below_drewN (LD _ _) _⟩
    ·have hpz : ¬ (Xc.pg : Int) < (P.length : Int) := by omega
     clear hp
     go_quiet (fail)
     go_wp2_with fail
     go_meet
     exact ⟨rfl, below_drewN (LD _ _) _⟩
   obtain ⟨rfl, BC⟩ := hcut; obtain ⟨w10, rfl⟩ : ∃ w10, w10 = wc := ⟨_, rfl⟩
   have HS10 := Lr (HST.out.below BC.out); clear BC q3 q6 HNX hp hgg hpl HRI HLE0 HST HS0 HW1 HPE HSN; have hkl := HS10.out.rd.akl; obtain ⟨nk, hnk⟩ : ∃ nk, nk = Xc.ak.length := ⟨_, rfl⟩
   have hak1 : nk ≤ 61200 := by
    obtain ⟨n, hcn, hn⟩ := HRB.out.cap; have := hcn.ak; omega
   rw [← hnk] at hkl; obtain ⟨ko, kc, e7, -, hkmax, -, hkel⟩ := HS10.out.rd.asks.sl bn; rw [hkl] at e7; have q7 : w10.cell? ⟨A.q, 7, none⟩ = some (.slice ko nk kc) := by rw [(HQC.out _ _ _ _ HS10.out w10 (LD _ _)).2.2.2.1, e7]
   have HKE : Hid (∀ (j : Nat), j < nk → ∃ b off v, ko = some ⟨b, off, none⟩ ∧ (∃ a n c, v = .slice a n c) ∧ ∀ W : World, Below w10.heap.size w10 W → DX W b (off + j * 14) (Xc.K j, v)) := Lr fun j hj => by
    obtain ⟨v, hjv⟩ := HS10.out.rd.at_ (by rw [← hnk]; exact hj); obtain ⟨b, off, e, hc⟩ := hkel j _ hjv; exact ⟨b, off, v, e, Own.slv bU (HS10.out.rd.wait hjv), fun W hW => (DX.of hc).below hW⟩
   obtain ⟨BL, hBL⟩ : ∃ BL : Nat → List Nat, BL = fun kk => (List.range kk).filter Xc.qR := ⟨_, rfl⟩
   obtain ⟨AL, hAL⟩ : ∃ AL : Nat → List Nat, AL = fun kk => (List.range kk).filter Xc.lY := ⟨_, rfl⟩
   have HLS : Hid (∀ kk, BL (kk + 1) = (if Xc.qR kk = true then BL kk ++ [kk] else BL kk) ∧ AL (kk + 1) = (if Xc.lY kk = true then AL kk ++ [kk] else AL kk) ∧ (BL kk).length ≤ kk ∧ (AL kk).length ≤ kk) := Lr fun kk => by
    have hl : ∀ p : Nat → Bool, ((List.range kk).filter p).length ≤ kk := fun p => by
     have := List.length_filter_le p (List.range kk)
     rwa [List.length_range] at this
    have hs : ∀ p : Nat → Bool, (List.range (kk + 1)).filter p = if p kk = true then (List.range kk).filter p ++ [kk] else (List.range kk).filter p := fun p => by
     rw [List.range_succ, List.filter_append]; cases h : p kk <;> simp [h]
    rw [hBL, hAL]; exact ⟨hs _, hs _, hl _, hl _⟩
   have HL0 : Hid (BL 0 = [] ∧ AL 0 = []) := Lr (by rw [hBL, hAL]; exact ⟨rfl, rfl⟩); have HBA : Hid (yz Xc Xc.qR (BL nk) ∧ yz Xc Xc.lY (AL nk)) := Lr (by rw [hBL, hAL, hnk]; exact ⟨yz.of, yz.of⟩); have HNK := Lr hnk; have HIB : Hid (∀ j, Xc.qR j = ((Xc.K j).kn && (!(Xc.K j).dn && ((Xc.K j).bk == t))) ∧ Xc.lY j = (!(Xc.K j).cm && ((Xc.K j).ar == t))) := Lr fun j => by
    unfold Xd.qR Xd.lY; rw [HNC.out]; exact ⟨by congr 2, by congr 1⟩
   clear hkl e7 hkel hBL hAL hnk; unfold maxLen at hkmax
   go_wp2_with fail
   clear q7
   go_loopg [6, 7, 8, 9, 106] nk (fun gg s6 s7 s8 s9 s106 wr => ∃ kk : Nat, kk ≤ nk ∧ nk - kk ≤ gg ∧ s106 = .int .i64 kk ∧ ∃ a6 n6 c6 a7 n7 c7, s6 = .slice a6 n6 c6 ∧ s7 = .slice a7 n7 c7 ∧ Aside (uz w10 wr (.slice a6 n6 c6) (.slice a7 n7 c7) (BL kk) (AL kk)))
   case atStart => exact ⟨0, Nat.zero_le _, by omega, rfl, none, 0, 0, none, 0, 0, rfl, rfl, (show Aside _ from by rw [HL0.out.1, HL0.out.2]; exact uz.nil _)⟩
   case round =>
    obtain ⟨wz, rfl⟩ : ∃ wz, wz = wr := ⟨_, rfl⟩
    obtain ⟨kk, hkk, hgk, rfl, a6, n6, c6, a7, n7, c7, rfl, rfl, TL⟩ := hrel; have HTL := Lr TL.out; clear TL; by_cases hlk : kk < nk
    ·as_aux_lemma =>
      have hlkz : (kk : Int) < (nk : Int) := by omega
      obtain ⟨b, off, v, rfl, ⟨va, vn, vc, rfl⟩, hck⟩ := HKE.out kk hlk; obtain ⟨k0, k1, k2, k3, k4, k5, k6, k7, k8, k9, k10, k11, k12, k13⟩ := hck wz HTL.out.b; obtain ⟨hB1, hA1, hbl, hal⟩ := HLS.out kk; obtain ⟨hib, hia⟩ := HIB.out kk; rw [hib] at hB1; rw [hia] at hA1; generalize Xc.K kk = xk at k0 k1 k2 k3 k4 k5 k6 k7 k8 k9 k10 k11 k12 k13 hB1 hA1; obtain ⟨xca, xke, xma, xar, xcm, xkn, xbk, xgo, xdn, xal, xws⟩ := xk
      dsimp only at k0 k1 k2 k3 k4 k5 k6 k7 k8 k9 k10 k11 k12 k13 hB1 hA1
      have HB1 := Lr hB1; have HA1 := Lr hA1; have HBL := Lr (And.intro hbl hal); obtain ⟨wb, hwb⟩ : ∃ wb, wb = wz.alloc (.cells #[.int .i64 (xca : Nat), .string xke, .int .i64 xma, .int .i64 xar, .bool xcm, .bool xkn, .int .i64 xbk, .int .i64 xgo.ve, .int .i64 xgo.bo, .int .i64 xgo.si, .string xgo.fr, .bool xdn, .bool xal, .slice va vn vc] 171) := ⟨_, rfl⟩
      obtain ⟨bx, hbx⟩ : ∃ bx, bx = wz.heap.size := ⟨_, rfl⟩
      have HTB : Hid (uz w10 wb (.slice a6 n6 c6) (.slice a7 n7 c7) (BL kk) (AL kk)) := Lr (by rw [hwb]; exact HTL.out.al _); have HBO : Hid (bx < wb.heap.size ∧ df bx (.slice a6 n6 c6) ∧ df bx (.slice a7 n7 c7)) := Lr ⟨by rw [hwb, hbx]; simp, nC HTL.out.o6 (by omega), nC HTL.out.o7 (by omega)⟩; have hbb : wb.heap[bx]? = some (.cells #[.int .i64 (xca : Nat), .string xke, .int .i64 xma, .int .i64 xar, .bool xcm, .bool xkn, .int .i64 xbk, .int .i64 xgo.ve, .int .i64 xgo.bo, .int .i64 xgo.si, .string xgo.fr, .bool xdn, .bool xal, .slice va vn vc] 171 (0, 0)) := by rw [hwb, hbx]; exact ag _ _
      have b5 : wb.cell? ⟨bx, 5, none⟩ = some (.bool xkn) := af hbb 5 rfl; have b6 : wb.cell? ⟨bx, 6, none⟩ = some (.int .i64 xbk) := af hbb 6 rfl; have b11 : wb.cell? ⟨bx, 11, none⟩ = some (.bool xdn) := af hbb 11 rfl; have HBB := Lr hbb; have HWB' := Lr hwb; have HBX := Lr hbx; clear hck hB1 hA1 hbl hal hib hia hwb hbx hbb
      go_upto_region 14 with (fail)
      rw [← HWB'.out, ← HBX.out]; clear k0 k1 k2 k3 k4 k5 k6 k7 k8 k9 k10 k11 k12 k13
      go_cut [123] from 111 to 140 (fun s123 W => s123 = .bool (xkn && (!xdn && (xbk == t))) ∧ wb = W)
      case first =>
       cases xkn
       ·go_wp2_with fail
        go_meet
        exact ⟨rfl, rfl⟩
       ·cases xdn
        ·go_wp2_with fail
         go_meet
         exact ⟨rfl, rfl⟩
        ·go_wp2_with fail
         go_meet
         exact ⟨rfl, rfl⟩
      obtain ⟨rfl, rfl⟩ := hcut; generalize (xkn && (!xdn && (xbk == t))) = tb at HB1 ⊢
      go_upto_if 123 with (fail)
      go_cut [6] from 111 to 140 (fun s6 W => ∃ a n c, s6 = .slice a n c ∧ Aside (uz w10 W (.slice a n c) (.slice a7 n7 c7) (BL (kk + 1)) (AL kk) ∧ W.heap[bx]? = some (.cells #[.int .i64 (xca : Nat), .string xke, .int .i64 xma, .int .i64 xar, .bool xcm, .bool xkn, .int .i64 xbk, .int .i64 xgo.ve, .int .i64 xgo.bo, .int .i64 xgo.si, .string xgo.fr, .bool xdn, .bool xal, .slice va vn vc] 171 (0, 0)) ∧ df bx (.slice a7 n7 c7)))
      case first =>
       have hnb : (BL kk).length * 8 ≤ 140737488355328 := by have := HBL.out.1; omega
       have HOA : Hid (Own (wb.alloc (.cells #[.int .i64 (kk : Nat)] 3 (0, 0))) w10.heap.size 3 1 mD (.slice a6 n6 c6) (BL kk)) := Lr (HTB.out.o6.al _); have hszb : w10.heap.size ≤ (wb.alloc (.cells #[.int .i64 (kk : Nat)] 3 (0, 0))).heap.size := by have := HTB.out.b.size; simp; omega
       cases tb
       ·have HE1 : Hid (BL (kk + 1) = BL kk) := Lr (by rw [HB1.out, if_neg (by simp)])
        go_wp2_with fail
        go_meet
        exact ⟨a6, n6, c6, rfl, (show Aside (_ ∧ _ ∧ _) from ⟨by rw [HE1.out]; exact HTB.out, HBB.out, HBO.out.2.2⟩)⟩
       ·have HE1 : Hid (BL (kk + 1) = BL kk ++ [kk]) := Lr (by rw [HB1.out, if_pos rfl])
        go_wp2_with (at_builtin; refine dM rfl (.tmp 124) (.tmp 126) 168 rfl slI (by decide) rfl rfl (kk : Nat) rfl rfl HOA.out (ag _ _) hnb hszb ?_; intro v7 w7 ho7 hb7 hk7; have HO7 := Lr ho7; have HB7 := Lr hb7; have HK7 := Lr hk7; clear ho7 hb7 hk7)
        go_meet
        obtain ⟨a, n, c, rfl⟩ := Own.slv dI HO7.out; obtain ⟨e1, -⟩ := HK7.out bx (by have := HBO.out.1; simp; omega) HBO.out.2.1; have hT : uz w10 (wb.alloc (.cells #[.int .i64 (kk : Nat)] 3 (0, 0))) (.slice a6 n6 c6) (.slice a7 n7 c7) (BL kk) (AL kk) := HTB.out.al _; exact ⟨a, n, c, rfl, (show Aside (_ ∧ _ ∧ _) from ⟨by rw [HE1.out]; exact hT.Jz HO7.out HB7.out HK7.out, e1.trans ((Below.heap_alloc wb _ _ HBO.out.1).trans HBB.out), HBO.out.2.2⟩)⟩
      obtain ⟨a8, n8, c8, rfl, TC⟩ := hcut; have HTC := Lr TC.out.1; have hbb := TC.out.2.1; have d3 : wc.cell? ⟨bx, 3, none⟩ = some (.int .i64 xar) := af hbb 3 rfl; have d4 : wc.cell? ⟨bx, 4, none⟩ = some (.bool xcm) := af hbb 4 rfl; clear TC hbb b5 b6 b11 HTB HBO HBB; have hnb : (AL kk).length * 8 ≤ 140737488355328 := by have := HBL.out.2; omega
      have HOA : Hid (Own (wc.alloc (.cells #[.int .i64 (kk : Nat)] 3 (0, 0))) w10.heap.size 3 1 mD (.slice a7 n7 c7) (AL kk)) := Lr (HTC.out.o7.al _); have hszb : w10.heap.size ≤ (wc.alloc (.cells #[.int .i64 (kk : Nat)] 3 (0, 0))).heap.size := by have := HTC.out.b.size; simp; omega
      cases xcm
      ·cases htb : (xar == t)
       ·have HE1 : Hid (AL (kk + 1) = AL kk) := Lr (by rw [HA1.out, htb]; rfl)
        go_wp2_with fail
        go_roundg (nk - (kk + 1))
        case measure => omega
        case rel => exact ⟨kk + 1, by omega, by omega, by go_num, a8, n8, c8, a7, n7, c7, rfl, rfl, (show Aside _ from by rw [HE1.out]; exact HTC.out)⟩
       ·have HE1 : Hid (AL (kk + 1) = AL kk ++ [kk]) := Lr (by rw [HA1.out, htb]; rfl)
        go_wp2_with (at_builtin; refine dM rfl (.tmp 137) (.tmp 139) 168 rfl slI (by decide) rfl rfl (kk : Nat) rfl rfl HOA.out (ag _ _) hnb hszb ?_; intro v7 w7 ho7 hb7 hk7; have HO7 := Lr ho7; have HB7 := Lr hb7; have HK7 := Lr hk7; clear ho7 hb7 hk7)
        obtain ⟨a, n, c, rfl⟩ := Own.slv dI HO7.out; have hT : uz w10 (wc.alloc (.cells #[.int .i64 (kk : Nat)] 3 (0, 0))) (.slice a8 n8 c8) (.slice a7 n7 c7) (BL (kk + 1)) (AL kk) := HTC.out.al _; have HTN := Lr (hT.Jy HO7.out HB7.out HK7.out); clear hT
        go_roundg (nk - (kk + 1))
        case measure => omega
        case rel => exact ⟨kk + 1, by omega, by omega, by go_num, a8, n8, c8, a, n, c, rfl, rfl, (show Aside _ from by rw [HE1.out]; exact HTN.out)⟩
      ·have HE1 : Hid (AL (kk + 1) = AL kk) := Lr (by rw [HA1.out]; rfl)
       go_wp2_with fail
       go_roundg (nk - (kk + 1))
       case measure => omega
       case rel => exact ⟨kk + 1, by omega, by omega, by go_num, a8, n8, c8, a7, n7, c7, rfl, rfl, (show Aside _ from by rw [HE1.out]; exact HTC.out)⟩
    ·obtain rfl : kk = nk := by omega
     have hlkz : ¬ (kk : Int) < (kk : Int) := by omega
     have HBK : Hid ((BL kk).length ≤ kk) := Lr (HLS.out kk).2.2.1; have HAK : Hid ((AL kk).length ≤ 1000000) := Lr (by have := (HLS.out kk).2.2.2; omega); clear HLS HL0 HIB HKE; obtain ⟨o7, A7, hs7, hn7⟩ := HS10.out.num HTL.out.o7 (Ls _) HTL.out.b; have HS7 := Lr hs7; have HN7 := Lr hn7; have hbl : (BL kk).length ≤ 1000000 := by
      have h1 := HBA.out.1.m; have h2 : (BL kk).length ≤ kk := HBK.out; omega
     have hor := wQ hs7 (BL kk) (.slice a6 n6 c6) (HTL.out.o6.sl dI) (fun j hj => ((HBA.out.1.m j).1 hj).1) hbl; have HOR := Lr hor; have HSR : Hid (Srt Xc Xc.qR (rZ Xc (BL kk)) ∧ (rZ Xc (BL kk)).length ≤ 61200) := Lr ⟨HBA.out.1.srt, by
      have h1 := (jP (X := Xc) HBA.out.1.o (k := (BL kk).length) (Ls _)).2.2; rw [List.take_length] at h1; have h2 : (BL kk).length ≤ kk := HBK.out; omega⟩
     obtain ⟨S, hS⟩ : ∃ S, S = rZ Xc (BL kk) := ⟨_, rfl⟩
     rw [← hS] at HOR HSR; have HAR : Hid (yz Xc Xc.lY (AL kk) ∧ (AL kk).length ≤ 1000000) := Lr ⟨HBA.out.2, by have := HAK.out; omega⟩; obtain ⟨l7, hl7⟩ : ∃ l7, l7 = AL kk := ⟨_, rfl⟩
     rw [← hl7] at HAR HN7; clear hs7 hn7 hbl hor hS hl7 HTL HBA HS10 HNK HBK HAK hak1
     go_wp2_with (go_at_call 101; (with_reducible refine HOR.out.mono ?_); rintro e w11 ⟨v11, rfl, ho11, hb11⟩; obtain ⟨o11, A11, hs11, hn11⟩ := HS7.out.num ho11 (Ls _) hb11; obtain ⟨a11, c11, rfl, -⟩ := ho11.sl dI; have HS11 := Lr hs11; have HN11 := Lr hn11; clear ho11 hb11 hs11 hn11)
     obtain ⟨xs2, hxs2⟩ : ∃ xs2, xs2 = (A.x ++ o7) ++ o11 := ⟨_, rfl⟩
     rw [← hxs2] at HS11; have HX2 : Hid ((∀ p, p ∈ o7 → p ∈ xs2) ∧ ∀ p, p ∈ o11 → p ∈ xs2) := Lr (by
      rw [hxs2]; exact ⟨fun p hp => List.mem_append_left _ (List.mem_append_right _ hp), fun p hp => List.mem_append_right _ hp⟩)
     have HX3 : Hid (∃ ys, xs2 = A.x ++ ys) := Lr ⟨o7 ++ o11, by rw [hxs2, List.append_assoc]⟩; have hsl : S.length ≤ 61200 := HSR.out.2; clear hxs2 HS7 HOR
     go_loopg [11, 12, 14, 146] S.length (fun gg s11 s12 s14 s146 wr => ∃ (kb : Nat) (Xd' : Xd) (Ad : Rdr), kb ≤ S.length ∧ S.length - kb ≤ gg ∧ s146 = .int .i64 kb ∧ Aside ((StX w B A xs2 wr Ad Xd' ∧ RInv C R E P L lim .bak Xd' ∧ Lee C P L (¬ (X0.pg < P.length ∧ (P.getD X0.pg default).ti = X0.no)) X0 Xd') ∧ Xd'.no = t ∧ Srt Xd' Xd'.qR (S.drop kb) ∧ yz Xd' Xd'.lY l7))
     case atStart => exact ⟨0, Xc, A11, Nat.zero_le _, by omega, rfl, (show Aside (_ ∧ _ ∧ _ ∧ _) from ⟨⟨HS11.out, HRB.out, HL1.out⟩, HNC.out, HSR.out.1, HAR.out.1⟩)⟩
     case round =>
      obtain ⟨wy, rfl⟩ : ∃ wy, wy = wr := ⟨_, rfl⟩
      obtain ⟨kb, Y, Ad, hkb, hkbg, rfl, ST⟩ := hrel; have HST := Lr ST.out.1.1; have HRI := Lr ST.out.1.2.1; have HLE1 := Lr ST.out.1.2.2; have HNY := Lr ST.out.2.1; have HSY := Lr ST.out.2.2.1; have HAY := Lr ST.out.2.2.2; clear ST; by_cases hlb : kb < S.length
      ·as_aux_lemma =>
        have hlbz : (kb : Int) < (S.length : Int) := by omega
        have hsd := List.drop_eq_getElem_cons hlb; obtain ⟨i, hi⟩ : ∃ i, S[kb]? = some i := ⟨_, Lu hlb⟩
        have hi' : S[kb] = i := by rw [Lu hlb] at hi; exact Option.some.inj hi
        rw [hi'] at hsd; have hsr := HSY.out; rw [hsd] at hsr; have hnb : Y.gV = some i := hsr.least; obtain ⟨⟨b1, b2, b3, b4⟩, -⟩ := fF hnb; have HNX : Hid (Y.next C R E P L lim .bak = some (.bak, Y.dR C R P i)) := Lr (by unfold Xd.next; dsimp only; rw [hnb]); have HSRI := Lr hsr; have HBI := Lr (And.intro b1 (And.intro b2 (And.intro b3 b4))); have hV : ∀ (i : Nat) (x : Cch), C[i]? = some x → 1 ≤ x.de ∧ x.de ≤ 100000 := fun i x hx => (HV.out.cd i x hx).1
        have HVV := Lr hV; obtain ⟨ab, abc, eS, -, -, -, nel⟩ := HN11.out wy fun p hp => HST.out.all p (HX2.out.2 p hp)
        simp only [Value.slice.injEq, true_and] at eS
        obtain ⟨rfl, rfl⟩ := eS; obtain ⟨sb, soff, rfl, hsc⟩ := nel kb i hi; have s0 : wy.cell? ⟨sb, soff + kb, none⟩ = some (.int .i64 (i : Nat)) := by have h := hsc 0 _ rfl; simpa using h
        have HKK : Hid ((Y.K i).ca < C.length) := Lr (HRI.out.inv.kk i _ (Xd.at_ b1)).1; have HAO : Hid (dF (Y.K i).go) := Lr (HRI.out.inv.an i _ (Xd.at_ b1) b2); have hxd := HRI.out.inv.done b1 b2 b3; have HXD := Lr hxd; have HHN := Lr (yu HRI.out.inv b1 b2 b3 b4); obtain ⟨v, hiv⟩ := HST.out.rd.at_ b1; obtain ⟨va, vc, hve, -⟩ := (HST.out.rd.wait hiv).sl bU; have hve : v = .slice va (Y.K i).ws.length vc := hve; subst hve; obtain ⟨nw, hnw⟩ : ∃ nw, nw = (Y.K i).ws.length := ⟨_, rfl⟩
        rw [← hnw] at hiv; obtain ⟨k, hk⟩ : ∃ k, k = Y.K i := ⟨_, rfl⟩
        have HK := Lr hk; rw [← hk] at hiv; have HNE : Hid (Ad.ks ≠ []) := Lr (fun e => by rw [e] at hiv; cases hiv); obtain ⟨g, cap, hgv, hg1, hg2, hg3, hg4, hgc, hgf⟩ := Own.gZ bn HST.out.rd.asks HNE.out; have q7 : wy.cell? ⟨A.q, 7, none⟩ = some (.slice (some ⟨g, 0, none⟩) Ad.ks.length cap) := by rw [(HQC.out _ _ _ _ HST.out wy (LD _ _)).2.2.2.1, hgv]
        have k0 : wy.cell? ⟨g, i * 14, none⟩ = some (.int .i64 (k.ca : Nat)) := by have h := hgc i _ 0 _ hiv rfl; simpa using h
        have k1 : wy.cell? ⟨g, i * 14 + 1, none⟩ = some (.string k.ke) := hgc i _ 1 _ hiv rfl; have k2 : wy.cell? ⟨g, i * 14 + 2, none⟩ = some (.int .i64 k.ma) := hgc i _ 2 _ hiv rfl; have k3 : wy.cell? ⟨g, i * 14 + 3, none⟩ = some (.int .i64 k.ar) := hgc i _ 3 _ hiv rfl; have k4 : wy.cell? ⟨g, i * 14 + 4, none⟩ = some (.bool k.cm) := hgc i _ 4 _ hiv rfl; have k5 : wy.cell? ⟨g, i * 14 + 5, none⟩ = some (.bool k.kn) := hgc i _ 5 _ hiv rfl; have k6 : wy.cell? ⟨g, i * 14 + 6, none⟩ = some (.int .i64 k.bk) := hgc i _ 6 _ hiv rfl; have k7 : wy.cell? ⟨g, i * 14 + 7, none⟩ = some (.int .i64 k.go.ve) := hgc i _ 7 _ hiv rfl; have k8 : wy.cell? ⟨g, i * 14 + 8, none⟩ = some (.int .i64 k.go.bo) := hgc i _ 8 _ hiv rfl; have k9 : wy.cell? ⟨g, i * 14 + 9, none⟩ = some (.int .i64 k.go.si) := hgc i _ 9 _ hiv rfl; have k10 : wy.cell? ⟨g, i * 14 + 10, none⟩ = some (.string k.go.fr) := hgc i _ 10 _ hiv rfl; have k11 : wy.cell? ⟨g, i * 14 + 11, none⟩ = some (.bool k.dn) := hgc i _ 11 _ hiv rfl; have k12 : wy.cell? ⟨g, i * 14 + 12, none⟩ = some (.bool k.al) := hgc i _ 12 _ hiv rfl; have k13 : wy.cell? ⟨g, i * 14 + 13, none⟩ = some (.slice va nw vc) := hgc i _ 13 _ hiv rfl; have hiz : (i : Int) < (Ad.ks.length : Int) := by have := (List.getElem?_eq_some_iff.1 hiv).1; omega
        have hi0 : (0 : Int) ≤ (i : Int) := by omega
        have HNW : Hid (nw = k.ws.length ∧ nw ≤ 61200) := Lr ⟨by rw [hnw, hk], by
         obtain ⟨n, hcn, hn⟩ := HRI.out.cap; have h1 := Ai b1 b3; have h2 := hcn.wt; omega⟩
        obtain ⟨wb, hwb⟩ : ∃ wb, wb = wy.alloc (.cells #[.int .i64 (k.ca : Nat), .string k.ke, .int .i64 k.ma, .int .i64 k.ar, .bool k.cm, .bool k.kn, .int .i64 k.bk, .int .i64 k.go.ve, .int .i64 k.go.bo, .int .i64 k.go.si, .string k.go.fr, .bool k.dn, .bool k.al, .slice va nw vc] 171) := ⟨_, rfl⟩
        obtain ⟨bx, hbx⟩ : ∃ bx, bx = wy.heap.size := ⟨_, rfl⟩
        obtain ⟨oB, hoB⟩ : ∃ oB : Obj, oB = .cells #[.int .i64 (k.ca : Nat), .string k.ke, .int .i64 k.ma, .int .i64 k.ar, .bool k.cm, .bool k.kn, .int .i64 k.bk, .int .i64 k.go.ve, .int .i64 k.go.bo, .int .i64 k.go.si, .string k.go.fr, .bool k.dn, .bool k.al, .slice va nw vc] 171 (0, 0) := ⟨_, rfl⟩
        have hsb := HST.out.add oB; rw [hoB, ← hwb, ← hbx, ← hoB] at hsb; have HOB := Lr hoB; obtain ⟨AB, hAB⟩ : ∃ AB, AB = { Ad with x := Ad.x ++ [(bx, oB)] } := ⟨_, rfl⟩
        rw [← hAB] at hsb; have hkv2 : AB.kv = .slice (some ⟨g, 0, none⟩) AB.ks.length cap := by rw [hAB]; exact hgv
        have hks2 : AB.ks = Ad.ks := by rw [hAB]
        obtain ⟨AD, hsd2, hsnd⟩ := hsb.bT b1 hkv2 rfl hg1 11 (.bool true) { Y.K i with dn := true } rfl (by decide) (fun v => rfl); obtain ⟨ws, hws⟩ : ∃ ws, ws = wb.setCell ⟨g, i * 14 + 11, none⟩ (.bool true) := ⟨_, rfl⟩
        rw [← hws] at hsd2; have HSD := Lr hsd2; have HSND : Hid ((AD.ks.map Prod.snd)[i]? = some (.slice va nw vc)) := Lr (by rw [hsnd, hks2, List.getElem?_map, hiv]; rfl); have HWB' := Lr hwb; have HBX := Lr hbx; have HWS := Lr hws; have hgl : g < wb.heap.size := by rw [hwb]; simp; omega
        have hgal : ∀ c, wb.cell? ⟨g, c, none⟩ = wy.cell? ⟨g, c, none⟩ := fun c => by rw [hwb]; exact ((LD wy.heap.size wy).alloc (Ls _) _).cell (p := ⟨g, c, none⟩) hg2
        have kw11 : wb.cell? ⟨g, i * 14 + 11, none⟩ = some (.bool k.dn) := (hgal _).trans k11; have kwf : wb.frozen? ⟨g, i * 14 + 11, none⟩ = false := by
         obtain ⟨g', cap', hgv', -, -, -, -, -, hf⟩ := Own.gZ bn hsb.rd.asks (by rw [hks2]; exact HNE.out); rw [hkv2] at hgv'; simp only [Value.slice.injEq, Option.some.injEq, Addr.mk.injEq, and_true] at hgv'
         obtain ⟨rfl, -, -⟩ := hgv'; exact hf _
        have q7b : wb.cell? ⟨A.q, 7, none⟩ = some (.slice (some ⟨g, 0, none⟩) Ad.ks.length cap) := by rw [(HQC.out _ _ _ _ hsb wb (LD _ _)).2.2.2.1, hkv2, hks2]
        have hbb := hsd2.all (bx, oB) (List.mem_append_right _ (List.mem_singleton.2 rfl)); have hbb : ws.heap[bx]? = some oB := hbb; rw [hoB] at hbb; have d0 : ws.cell? ⟨bx, 0, none⟩ = some (.int .i64 (k.ca : Nat)) := af hbb 0 rfl; have d9 : ws.cell? ⟨bx, 9, none⟩ = some (.int .i64 k.go.si) := af hbb 9 rfl; have hil : (Y.K i).ca < Y.ld.length := by rw [HRI.out.inv.le.2.1]; exact HKK.out
        have hln : Y.ld ≠ [] := fun e => by rw [e] at hil; cases hil
        obtain ⟨gl, lcp, hlv, hl1, hl2, hl3, hl4, hlc, hlf⟩ := Own.gZ fZ hsd2.rd.lds hln; have hla : A.lv = .slice (some ⟨gl, 0, none⟩) Y.ld.length lcp := by rw [← hsd2.le.lv]; exact hlv
        obtain ⟨z, hz⟩ : ∃ z, z = Y.Ld (Y.K i).ca := ⟨_, rfl⟩
        have hle : Y.ld[(Y.K i).ca]? = some z := by rw [hz]; exact getD_some hil
        have l5 : ws.cell? ⟨gl, (Y.K i).ca * 6 + 5, none⟩ = some (.int .i64 z.bs) := hlc _ z 5 _ hle rfl; have lf5 := hlf ((Y.K i).ca * 6 + 5); have q10 : ws.cell? ⟨A.q, 10, none⟩ = some (.slice (some ⟨gl, 0, none⟩) Y.ld.length lcp) := by rw [(HQC.out _ _ _ _ hsd2 ws (LD _ _)).2.2.2.2.2.1, hla]
        have hilz : (k.ca : Int) < (Y.ld.length : Int) := by rw [hk]; omega
        have hil0 : (0 : Int) ≤ (k.ca : Int) := by omega
        have hbg : ¬ bx = gl := fun e => by
         have h1 := hsd2.rd.JB (k := xs2.length) (b := bx) (o := oB) (by rw [hsd2.le.x]; simp); exact h1.2.2.2.1 _ _ _ hlv e.symm
        have hgq : ¬ A.q = gl := fun e => by
         have h1 := hsd2.rd.Ew.2.2.2 _ _ _ hlv; rw [hsd2.aq] at h1; exact h1 e.symm
        have hsi := DN HAO.out; rw [← hk] at hsi l5 lf5; have hbs : 0 ≤ z.bs ∧ z.bs ≤ 61200000000000 := by
         obtain ⟨n, hcn, hn⟩ := HRI.out.cap; have h1 := (hcn.ld (Y.K i).ca).2.2.2; rw [← hz] at h1; omega
        have hwn : IntKind.i64.wrap (z.bs + k.go.si) = z.bs + k.go.si := IntWalk.i64_in _ (by omega); have hsl2 : StX w B A (xs2 ++ [(bx, oB)]) (ws.setCell ⟨gl, k.ca * 6 + 5, none⟩ (.int .i64 (z.bs + k.go.si))).drew AD (Y.bP i) := by
         have h1 := hsd2.aO (i := (Y.K i).ca) hil hla hl1 5 (.int .i64 (z.bs + k.go.si)) (GY (Y.K i).go.si) (by decide) (by
          show lL (GY (Y.K i).go.si (Y.Ld (Y.K i).ca)) = (lL (Y.Ld (Y.K i).ca)).set 5 _
          rw [← hz, ← hk]; rfl)
         rw [← hk] at h1; have h2 := h1.below (LD _ _).drew; have e : ((Y.bT i { k with dn := true }).aO k.ca (GY k.go.si)) = Y.bP i := by rw [hk]; rfl
         rw [e] at h2; exact h2
        obtain ⟨wl, hwl⟩ : ∃ wl, wl = (ws.setCell ⟨gl, k.ca * 6 + 5, none⟩ (.int .i64 (z.bs + k.go.si))).drew := ⟨_, rfl⟩
        rw [← hwl] at hsl2; have HSL := Lr hsl2; have HWL := Lr hwl; clear hsd hi hi' hsr hnb b1 b2 b3 b4 hV nel hsc hxd hiv hgv hg3 hg4 hgc hgf hk hnw hwb hbx hsb hAB hoB hkv2 hks2 hsd2 hsnd hws hgal hbb hil hln hlv hl3 hl4 hlc hlf hla hz hle hsl2 hwl hbs hsi hg2 hl2 hg1 hl1
        go_upto_region 23 with (fail)
        rw [← HWB'.out, ← HBX.out]; clear s0 q7 k0 k1 k2 k3 k4 k5 k6 k7 k8 k9 k10 k11 k12 k13
        go_upto_region 24 with (fail)
        rw [← HWS.out]; clear kw11 kwf q7b
        go_big_region
        rw [← HWL.out]; clear l5 lf5 q10 d0 d9; obtain ⟨xs3, hxs3⟩ : ∃ xs3, xs3 = xs2 ++ [(bx, oB)] := ⟨_, rfl⟩
        rw [← hxs3] at HSL; have HX4 : Hid ((bx, oB) ∈ xs3 ∧ xs3 = xs2 ++ [(bx, oB)]) := Lr ⟨by rw [hxs3]; exact List.mem_append_right _ (List.mem_singleton.2 rfl), hxs3⟩; have HBXW : Hid (∀ (W : World) (A' : Rdr) (X' : Xd), StX w B A xs3 W A' X' → ∀ V : World, Below W.heap.size W V → (V.cell? ⟨bx, 0, none⟩ = some (.int .i64 (k.ca : Nat)) ∧ V.cell? ⟨bx, 1, none⟩ = some (.string k.ke)) ∧ (V.cell? ⟨bx, 7, none⟩ = some (.int .i64 k.go.ve) ∧ V.cell? ⟨bx, 8, none⟩ = some (.int .i64 k.go.bo) ∧ V.cell? ⟨bx, 9, none⟩ = some (.int .i64 k.go.si) ∧ V.cell? ⟨bx, 10, none⟩ = some (.string k.go.fr)) ∧ V.cell? ⟨bx, 12, none⟩ = some (.bool k.al) ∧ V.cell? ⟨bx, 13, none⟩ = some (.slice va nw vc)) := Lr fun W A' X' hs V hV => by
         have h0 := hs.all _ HX4.out.1; have hb : V.heap[bx]? = some oB := (hV.block bx (Array.getElem?_eq_some_iff.1 h0).1).trans h0; rw [HOB.out] at hb; exact ⟨⟨af hb 0 rfl, af hb 1 rfl⟩, ⟨af hb 7 rfl, af hb 8 rfl, af hb 9 rfl, af hb 10 rfl⟩, af hb 12 rfl, af hb 13 rfl⟩
        obtain ⟨-, -, -, y13⟩ := HBXW.out _ _ _ HSL.out wl (LD _ _); clear hxs3
        go_wp2_with fail
        clear y13; have hnw : nw ≤ 61200 := HNW.out.2
        go_loopg [14, 182] nw (fun gg s14 s182 wr => ∃ (kq : Nat) (Ae : Rdr), kq ≤ nw ∧ nw - kq ≤ gg ∧ s182 = .int .i64 kq ∧ Aside (StX w B A xs3 wr Ae ((Y.bP i).bQ C (k.ws.take kq) k.go) ∧ Ae.ks.map Prod.snd = AD.ks.map Prod.snd ∧ aP C P L (k.ws.drop kq) ((Y.bP i).bQ C (k.ws.take kq) k.go)))
        case atStart => exact ⟨0, AD, Nat.zero_le _, by omega, rfl, (show Aside (_ ∧ _ ∧ _) from ⟨HSL.out, rfl, by have h1 := HXD.out; rw [List.append_nil] at h1; rw [HK.out]; exact h1⟩)⟩
        case round =>
         obtain ⟨wq, rfl⟩ : ∃ wq, wq = wr := ⟨_, rfl⟩
         obtain ⟨kq, Ae, hkq, hkqg, rfl, SQ⟩ := hrel; have HSQ := Lr SQ.out.1; have HSQ2 := Lr SQ.out.2.1; have HSQ3 := Lr SQ.out.2.2; clear SQ; by_cases hlq : kq < nw
         ·have hlqz : (kq : Int) < (nw : Int) := by omega
          have hlk2 : kq < k.ws.length := by rw [← HNW.out.1]; exact hlq
          obtain ⟨wt, hwt⟩ : ∃ wt, k.ws[kq]? = some wt := ⟨_, Lu hlk2⟩
          have hwd : k.ws.drop kq = wt :: k.ws.drop (kq + 1) := by
           rw [List.drop_eq_getElem_cons hlk2]; rw [Lu hlk2] at hwt; rw [Option.some.inj hwt]
          obtain ⟨Z, hZ⟩ : ∃ Z, Z = (Y.bP i).bQ C (k.ws.take kq) k.go := ⟨_, rfl⟩
          have HZN : Hid ((Y.bP i).bQ C (k.ws.take (kq + 1)) k.go = Z.aI C wt k.go) := Lr (by rw [hZ]; unfold Xd.bQ; exact oh hwt); have hzw := xI (C := C) (a := k.go) (k.ws.take kq) (Y.bP i); rw [← hZ] at hzw HSQ HSQ3; have HXI : Hid (aP C P L (wt :: k.ws.drop (kq + 1)) Z) := Lr (by rw [← hwd]; exact HSQ3.out); have hiZ : i < Z.ak.length := by rw [hzw.1]; show i < (Y.ak.set _ _).length; rw [List.length_set]; exact HBI.out.1
          have hzk : (Z.K i).ws = k.ws := by
           rw [(hzw.2 i).1]; show ((Y.bT i { Y.K i with dn := true }).K i).ws = _
           rw [Xd.dB HBI.out.1, if_pos rfl, HK.out]
          have hzc : ∀ j, (Z.K j).ca = ((Y.bP i).K j).ca := fun j => (hzw.2 j).2
          have hzn : Z.no = Y.no := (xJ (C := C) (a := k.go) (k.ws.take kq) (Y.bP i)).symm ▸ by rw [hZ]
          obtain ⟨v, hv'⟩ := HSQ.out.rd.at_ hiZ; have hvv : v = .slice va nw vc := by
           have h1 := HSND.out; rw [← HSQ2.out, List.getElem?_map, hv'] at h1; exact Option.some.inj h1
          have how := HSQ.out.rd.wait hv'; rw [hvv] at how; have how : Own wq B 177 3 oM (.slice va nw vc) (Z.K i).ws := how; rw [hzk] at how; obtain ⟨wa, wcp, eW, -, -, -, wel⟩ := how.sl bU; simp only [Value.slice.injEq] at eW
          obtain ⟨rfl, -, rfl⟩ := eW; obtain ⟨b, off, rfl, hwc⟩ := wel kq wt hwt; have c0 : wq.cell? ⟨b, off + kq * 3, none⟩ = some (.int .i64 (wgI wt)) := by have h := hwc 0 _ rfl; simpa using h
          have c1 : wq.cell? ⟨b, off + kq * 3 + 1, none⟩ = some (.int .i64 wt.ho) := hwc 1 _ rfl; have c2 : wq.cell? ⟨b, off + kq * 3 + 2, none⟩ = some (.int .i64 (waI wt)) := hwc 2 _ rfl; have hno : ∀ j, wt.ak = some j → X0.no ≤ 1000000000000 + 100000 * (30 + ((Z.K j).ca : Int)) := fun j hj => by
           have h1 := HHN.out wt (by rw [← HK.out]; exact List.mem_of_getElem? hwt) j hj; rw [hzc j]; have h2 := HNY.out; have h3 := HNO0.out; omega
          have HZ1 : Hid (aP C P L (k.ws.drop (kq + 1)) (Z.aI C wt k.go)) := Lr (aP.give HXI.out HVV.out (by rw [HK.out]; exact HAO.out) (fun j hj => by
           have h1 := hno j hj; have h2 := HNY.out; have h3 := HNO0.out; rw [hzn]; omega))
          obtain ⟨wx, hwx⟩ : ∃ wx, wx = wq.alloc (.cells #[.int .i64 (wgI wt), .int .i64 wt.ho, .int .i64 (waI wt)] 177) := ⟨_, rfl⟩
          obtain ⟨N, hN⟩ : ∃ N, N = wq.heap.size := ⟨_, rfl⟩
          have hbx2 : Below wq.heap.size wq wx := by rw [hwx]; exact (LD _ wq).alloc (Ls _) _
          have hnn : wx.heap[N]? = some (.cells #[.int .i64 (wgI wt), .int .i64 wt.ho, .int .i64 (waI wt)] 177 (0, 0)) := by rw [hN, hwx]; exact ag _ _
          have n0 : wx.cell? ⟨N, 0, none⟩ = some (.int .i64 (wgI wt)) := af hnn 0 rfl; have n1 : wx.cell? ⟨N, 1, none⟩ = some (.int .i64 wt.ho) := af hnn 1 rfl; have n2 : wx.cell? ⟨N, 2, none⟩ = some (.int .i64 (waI wt)) := af hnn 2 rfl; have hsx := HSQ.out.below hbx2; obtain ⟨-, ⟨y7, y8, y9, y10⟩, -⟩ := HBXW.out _ _ _ hsx wx (LD _ _); have hgo : Z.go.length = L.length := HSQ3.out.le.2.2.1; have hnx : Z.nx ≤ L.length := HSQ3.out.le.2.2.2.1; have hzno := HSQ3.out.no; have HGV := Lr (Hg hsx HE.out HW.out wt k.go (fun hw => by have := HXI.out.wg wt (List.mem_cons_self ..) hw; omega) (fun j hj => by
           obtain ⟨g1, -, -⟩ := HXI.out.wk wt (List.mem_cons_self ..) j hj; exact ⟨g1, (HSQ3.out.kk j _ (Xd.at_ g1)).1⟩) ⟨hzno.1, by have := hzno.2; omega⟩ (Am HV.out))
          have HWX := Lr hwx; have HN := Lr hN; clear hwt hwd hZ hzw hiZ hzk hzc hzn hv' hvv how wel hwc hno hwx hN hbx2 hnn hsx hgo hnx hzno; generalize wgI wt = x0 at c0 n0 HGV HWX; generalize waI wt = x2 at c2 n2 HGV HWX; generalize wt.ho = x1 at c1 n1 HGV HWX
          go_upto_region 28 with (fail)
          rw [← HWX.out, ← HN.out]; clear c0 c1 c2
          go_wp2_with (go_at_call 102; (with_reducible refine HGV.out.mono ?_); rintro e w13 ⟨A13, rfl, h13, s13⟩; have HS13 := Lr h13; have HN13 := Lr s13; clear h13 s13)
          go_roundg (nw - (kq + 1))
          case measure => omega
          case rel => exact ⟨kq + 1, A13, by omega, by omega, by go_num, (show Aside (_ ∧ _ ∧ _) from ⟨by rw [HZN.out]; exact HS13.out, HN13.out.trans HSQ2.out, by rw [HZN.out]; exact HZ1.out⟩)⟩
         ·obtain rfl : kq = nw := by omega
          have hlqz : ¬ (kq : Int) < (kq : Int) := by omega
          obtain ⟨Z, hZ⟩ : ∃ Z, Z = (Y.bP i).bQ C k.ws k.go := ⟨_, rfl⟩
          have HSZ : Hid (StX w B A xs3 wq Ae Z) := Lr (by
           have h1 := HSQ.out; rw [HNW.out.1, List.take_length, ← hZ] at h1; exact h1)
          have HXZ : Hid (aP C P L [] Z) := Lr (by
           have h1 := HSQ3.out; rw [HNW.out.1, List.take_length, List.drop_length, ← hZ] at h1; exact h1)
          have hbk : Y.dR C R P i = if k.al = false then Z.dS C R P k.ca k.ke k.go else Z := by
           unfold Xd.dR; rw [← HK.out, ← hZ]
          have HBK2 := Lr hbk; have hgz := jC (C := C) (a := k.go) k.ws (Y.bP i); rw [← hZ] at hgz; have HRN := Lr (HRI.out.next HV.out HNX.out); have HMN := Lr (qN HRI.out HV.out HNX.out (by simp)); have hst := Sta.back (R := R) HRI.out.inv HVV.out HBI.out.1 HBI.out.2.1 HBI.out.2.2.1 HBI.out.2.2.2; have HSB := Lr (HSRI.out.back hst); have HAB := Lr (HAY.out.ar hst); have HNN : Hid ((Y.dR C R P i).no = t) := Lr (hst.no.trans HNY.out); obtain ⟨⟨y0, y1⟩, ⟨y7, y8, y9, y10⟩, y12, -⟩ := HBXW.out _ _ _ HSZ.out wq (LD _ _); have hkr : k.al = false → FH C R P Z k.ca k.ke k.go := fun hal => by
           have hrl := HRI.out.al i _ (Xd.at_ HBI.out.1); rw [← HK.out] at hrl; obtain ⟨n, hcn, hn⟩ := HRI.out.cap; have hca := HKK.out; have hao := HAO.out; rw [← HK.out] at hca hao; have hH : Z.H k.ca = Y.H k.ca := by unfold Xd.H; rw [hgz.2.2]; rfl
           exact EF HV.out HXZ.out (by rw [hH]; exact hcn.he k.ca) (by omega) hca hao (hrl hal)
          have HKR := Lr hkr; clear hZ hbk hgz hst hkr; cases hal : k.al with
          | true =>
           have HDR : Hid (∃ A', StX w B A xs2 wq A' (Y.dR C R P i)) := Lr (by
            rw [HBK2.out, hal, if_neg (by simp)]; have h1 := HSZ.out; rw [HX4.out.2] at h1; exact ⟨_, h1.drop⟩)
           obtain ⟨A14, h14⟩ := HDR.out; have HS14 := Lr h14; rw [hal] at y12; clear hal h14 HDR
           go_wp2_with fail
           go_roundg (S.length - (kb + 1))
           case measure => omega
           case rel => exact ⟨kb + 1, Y.dR C R P i, A14, by omega, by omega, by go_num, (show Aside (_ ∧ _ ∧ _ ∧ _) from ⟨⟨HS14.out, HRN.out, HLE1.out.step HMN.out⟩, HNN.out, HSB.out, HAB.out⟩)⟩
          | false =>
           have HKP := Lr (GZ HSZ.out HE.out HW.out k.ca k.ke k.go (HKR.out hal)); have HBE : Hid (Y.dR C R P i = Z.dS C R P k.ca k.ke k.go) := Lr (by rw [HBK2.out, hal, if_pos rfl]); rw [hal] at y12; clear hal
           go_wp2_with (go_at_call 103; (with_reducible refine HKP.out.mono ?_); rintro e w15 ⟨A15, rfl, h15⟩; have HS15 := Lr h15; clear h15)
           have HDR : Hid (∃ A', StX w B A xs2 w15 A' (Y.dR C R P i)) := Lr (by
            rw [HBE.out]; have h1 := HS15.out; rw [HX4.out.2] at h1; exact ⟨_, h1.drop⟩)
           obtain ⟨A14, h14⟩ := HDR.out; have HS14 := Lr h14; clear h14 HDR
           go_roundg (S.length - (kb + 1))
           case measure => omega
           case rel => exact ⟨kb + 1, Y.dR C R P i, A14, by omega, by omega, by go_num, (show Aside (_ ∧ _ ∧ _ ∧ _) from ⟨⟨HS14.out, HRN.out, HLE1.out.step HMN.out⟩, HNN.out, HSB.out, HAB.out⟩)⟩
      ·obtain rfl : kb = S.length := by omega
       have hlbz : ¬ (S.length : Int) < (S.length : Int) := by omega
       have hnb : Y.gV = none := by
        have h1 := HSY.out; rw [List.drop_length] at h1; exact h1.least
       have HNX : Hid (Y.next C R E P L lim .bak = some (.get, Y)) := Lr (by unfold Xd.next; dsimp only; rw [hnb]); have HRG := Lr (HRI.out.next HV.out HNX.out); have HL2 : Hid (Lee C P L ((¬ (X0.pg < P.length ∧ (P.getD X0.pg default).ti = X0.no)) ∧ X0.gV = none) X0 Y) := Lr (HLE1.out.exit fun e f => ⟨f, by rw [← e]; exact hnb⟩); clear hnb HNX HRI HSY HLE1 HN11 HSR HS11 HRB HL1
       go_wp2_with fail
       go_loopg [15] L.length (fun gg s15 wr => ∃ (Xg : Xd) (Ag : Rdr), L.length - Xg.nx ≤ gg ∧ Aside ((StX w B A xs2 wr Ag Xg ∧ RInv C R E P L lim .get Xg ∧ Lee C P L ((¬ (X0.pg < P.length ∧ (P.getD X0.pg default).ti = X0.no)) ∧ X0.gV = none) X0 Xg) ∧ Xg.no = t ∧ yz Xg Xg.lY l7))
       case atStart => exact ⟨Y, Ad, Nat.sub_le _ _, (show Aside (_ ∧ _ ∧ _) from ⟨⟨HST.out, HRG.out, HL2.out⟩, HNY.out, HAY.out⟩)⟩
       case round =>
        obtain ⟨wz, rfl⟩ : ∃ wz, wz = wr := ⟨_, rfl⟩
        obtain ⟨Xg, Ag, hgg, ST⟩ := hrel; have HSG := Lr ST.out.1.1; have HRI := Lr ST.out.1.2.1; have HLG := Lr ST.out.1.2.2; have HNG := Lr ST.out.2.1; have HAG := Lr ST.out.2.2; clear ST HST HRG HL2 HNY HAY; obtain ⟨⟨-, -, q4⟩, q5, -⟩ := HQC.out _ _ _ _ HSG.out wz (LD _ _); have hnl := HRI.out.inv.le.2.2.2.1; by_cases hp : Xg.nx < L.length ∧ (L.getD Xg.nx default).ti = t
        ·as_aux_lemma =>
          obtain ⟨hp1, hp2⟩ := hp; obtain ⟨x, hx⟩ : ∃ x, L[Xg.nx]? = some x := ⟨_, Lu hp1⟩
          rw [getD_at hx] at hp2; obtain ⟨-, hks, i, hci, hil⟩ := HV.out.lt x (List.mem_of_getElem? hx); obtain ⟨X2, hX2⟩ : ∃ X2, X2 = ({ Xg with nx := Xg.nx + 1 } : Xd).aY C R P i x.ke Xg.nx none := ⟨_, rfl⟩
          have HNX : Hid (Xg.next C R E P L lim .get = some (.get, X2)) := Lr (by
           unfold Xd.next
           dsimp only
           rw [getD_at hx, if_pos ⟨hp1, hp2.trans HNG.out.symm⟩, hX2, hci]
           rfl)
          have HX2E : Hid (X2 = { Xg.aY C R P i x.ke Xg.nx none with nx := Xg.nx + 1 }) := Lr (hX2.trans Hw); have HRN := Lr (HRI.out.next HV.out HNX.out); have HMN := Lr (qN HRI.out HV.out HNX.out (by simp)); have hde : 1 ≤ deO C i := (HV.out.cd i (C.getD i default) (by rw [Lt, Lu hil]; rfl)).1.1; have hst : Sta none none Xg X2 := by
           rw [hX2]; exact (Sta.same (X := Xg) (X' := ({ Xg with nx := Xg.nx + 1 } : Xd)) rfl rfl).trans (Sta.come (C := C) (R := R) (P := P) (i := i) (key := x.ke) (ge := Xg.nx) (ak := none) hde fun j h => by cases h)
          have HAN := Lr (HAG.out.ar hst); have HNN : Hid (X2.no = t) := Lr (hst.no.trans HNG.out); have HCR : Hid (DW C R P Xg i x.ke Xg.nx none) := Lr (by
           obtain ⟨n, hcn, hn⟩ := HRI.out.cap; exact x9 HV.out HRI.out.inv hcn (by omega) hil (fun _ => by rw [HRI.out.inv.le.2.2.1]; exact hp1) (fun j h => by cases h))
          obtain ⟨lb, loff, rfl, hlx⟩ := HLE.out _ _ hx; obtain ⟨l0, l1, l2⟩ := hlx wz (HWB.out _ _ _ _ HSG.out); have HLX := Lr hlx; have hpz : (Xg.nx : Int) < (L.length : Int) := by omega
          have hp0 : (0 : Int) ≤ (Xg.nx : Int) := by omega
          have htb : (x.ti == t) = true := beq_iff_eq.2 hp2; have HCI := Lr hci; clear hx hlx hp2 hX2 hst hde hci
          go_upto_region 33 with (fail)
          go_quiet (fail)
          obtain ⟨w2, hw2⟩ : ∃ w2, w2 = wz.drewN nq := ⟨_, rfl⟩
          have HS2 : Hid (StX w B A xs2 w2 Ag Xg) := Lr (by rw [hw2]; exact HSG.out.below (below_drewN (LD _ _) _)); rw [← hw2]; clear hw2 q4 q5 l0 l1 l2 htb; have HQY : Hid (∀ V : World, Below w2.heap.size w2 V → V.cell? ⟨A.q, 4, none⟩ = some (.slice (some ⟨lb, loff, none⟩) L.length lc) ∧ V.cell? ⟨A.q, 5, none⟩ = some (.int .i64 (Xg.nx : Nat)) ∧ V.cell? ⟨lb, loff + Xg.nx * 3, none⟩ = some (.int .i64 x.ti) ∧ V.cell? ⟨lb, loff + Xg.nx * 3 + 1, none⟩ = some (.string x.ca) ∧ V.cell? ⟨lb, loff + Xg.nx * 3 + 2, none⟩ = some (.string x.ke)) := Lr fun V hV => by
           obtain ⟨⟨-, -, z4⟩, z5, -⟩ := HQC.out _ _ _ _ HS2.out V hV; obtain ⟨m0, m1, m2⟩ := HLX.out V ((HWB.out _ _ _ _ HS2.out).bf hV); exact ⟨z4, z5, m0, m1, m2⟩
          have HBQ : Hid (Below w2.heap.size w2 w2.drew) := Lr (LD _ w2).drew
          go_upto_region 35 with (fail)
          obtain ⟨N, hN⟩ : ∃ N, N = w2.heap.size := ⟨_, rfl⟩
          refine wp_region_held_drew (S := fun W => W.cell? ⟨A.q, 4, none⟩ = some (.slice (some ⟨lb, loff, none⟩) L.length lc) ∧ W.cell? ⟨A.q, 5, none⟩ = some (.int .i64 (Xg.nx : Nat)) ∧ W.cell? ⟨lb, loff + Xg.nx * 3, none⟩ = some (.int .i64 x.ti) ∧ W.cell? ⟨lb, loff + Xg.nx * 3 + 1, none⟩ = some (.string x.ca) ∧ W.cell? ⟨lb, loff + Xg.nx * 3 + 2, none⟩ = some (.string x.ke)) (by kernel_rfl) (HQY.out _ HBQ.out) (fun hHeld => ?_); refine tkS 0 236 hHeld ?_
          try simp only [pu]
          refine tkS 1 237 hHeld ?_
          try simp only [pu]
          refine tkS 2 238 hHeld ?_
          try simp only [pu]
          refine tkS 3 239 hHeld ?_
          try simp only [pu]
          refine tkS 4 240 hHeld ?_
          try simp only [pu]
          refine tkS 5 241 hHeld ?_
          try simp only [pu]
          refine tkS 6 242 hHeld ?_
          try simp only [pu]
          refine tkS 7 243 hHeld ?_
          try simp only [pu]
          refine tkS 8 244 hHeld ?_
          try simp only [pu]
          refine tkS 9 245 hHeld ?_
          try simp only [pu]
          have HBA := Lr (HBQ.out.alloc HBQ.out.size (.cells #[.int .i64 0, .string ⟨#[]⟩, .string ⟨#[]⟩] 37 (0, 0))); have HBN := Lr (ag w2.drew (.cells #[.int .i64 0, .string ⟨#[]⟩, .string ⟨#[]⟩] 37 (0, 0))); have HBF := Lr ((LD w2.heap.size w2).alloc (Ls _) (.cells #[.int .i64 x.ti, .string x.ca, .string x.ke] 37 (0, 0))).drew; refine wpAnyH_ready (rs := [10]) (by kernel_rfl) (by simp) (AllReadyH.cons rfl (fun K hK => ?_) AllReadyH.nil)
          go_simp
          refine hK.out _ _ (HQY.out _ HBA.out) (fun hHeld => ?_); clear hK K
          try simp only [pu]
          have e0 := af HBN.out 0 (v := .int .i64 0) rfl; have e1 := af HBN.out 1 (v := .string ⟨#[]⟩) rfl; have e2 := af HBN.out 2 (v := .string ⟨#[]⟩) rfl; have f0 := cO HBN.out 0; have f1 := cO HBN.out 1; have f2 := cO HBN.out 2; refine wpAnyH_ready (rs := [11]) (by kernel_rfl) (by simp) (AllReadyH.cons rfl (fun K hK => ?_) AllReadyH.nil)
          go_simp
          refine hK.out _ _ (HQY.out _ HBF.out) (fun hHeld => ?_); clear hK K
          try simp only [pu]
          clear e0 e1 e2 f0 f1 f2; refine wpAnyH_done (by kernel_rfl) ?_ _; clear hHeld; rw [← hN]; obtain ⟨w6, hw6⟩ : ∃ w6, w6 = (w2.alloc (.cells #[.int .i64 x.ti, .string x.ca, .string x.ke] 37)).drew := ⟨_, rfl⟩
          have hb6 : Below w2.heap.size w2 w6 := by rw [hw6]; exact HBF.out
          have hn6 : w6.heap[N]? = some (.cells #[.int .i64 x.ti, .string x.ca, .string x.ke] 37 (0, 0)) := by rw [hw6, hN]; exact ag w2 _
          obtain ⟨oG, hoG⟩ : ∃ oG : Obj, oG = .cells #[.int .i64 x.ti, .string x.ca, .string x.ke] 37 (0, 0) := ⟨_, rfl⟩
          rw [← hoG] at hn6; have hs6 : StX w B A (xs2 ++ [(N, oG)]) w6 { Ag with x := Ag.x ++ [(N, oG)] } Xg :=
           ⟨HS2.out.rd.Gj (by rw [hN]; exact Ls _) hn6 hb6, ⟨HS2.out.le.q, HS2.out.le.d0, HS2.out.le.d1, HS2.out.le.d2, HS2.out.le.d3, HS2.out.le.gt, HS2.out.le.hh, HS2.out.le.gv, HS2.out.le.lv, by show Ag.x ++ _ = xs2 ++ _; rw [HS2.out.le.x]⟩, HS2.out.be.trans (hb6.mono HS2.out.rd.base)⟩
          have HS6 := Lr hs6; have HOG := Lr hoG; have HSC : Hid (∀ (W : World) (A' : Rdr) (X' : Xd), StX w B A (xs2 ++ [(N, oG)]) W A' X' → X'.nx = Xg.nx → ∀ V : World, Below W.heap.size W V → V.cell? ⟨A.q, 0, none⟩ = some (.slice co C.length cc) ∧ V.cell? ⟨A.q, 5, none⟩ = some (.int .i64 (Xg.nx : Nat)) ∧ V.cell? ⟨N, 1, none⟩ = some (.string x.ca) ∧ V.cell? ⟨N, 2, none⟩ = some (.string x.ke)) := Lr fun W A' X' hs hnx V hV => by
           obtain ⟨⟨z0, -, -⟩, z5, -⟩ := HQC.out _ _ _ _ hs V hV; rw [hnx] at z5; have h0 := hs.all (N, oG) (List.mem_append_right _ (List.mem_singleton.2 rfl)); have hb : V.heap[N]? = some oG := (hV.block N (Array.getElem?_eq_some_iff.1 h0).1).trans h0; rw [HOG.out] at hb; exact ⟨z0, z5, af hb 1 rfl, af hb 2 rfl⟩
          have HCO : Hid (∀ V : World, Below w6.heap.size w6 V → Calls Tryz.prog 43 #[.slice co C.length cc, .string x.ca] V fun e w' => e = .returned (.int .i64 (i : Nat)) ∧ Below V.heap.size V w') := Lr fun V hV => by
           have hsl := HE.out.c.below ((HWB.out _ _ _ _ HS6.out).bf hV) (Ls _); rw [HE0.out] at hsl; have h1 := fP V C _ x.ca hsl; rw [show Dq C x.ca = (i : Int) from HCI.out] at h1; exact h1
          have HCM : Hid (∀ V : World, Below w6.heap.size w6 V → Calls Tryz.prog 104 #[.pointer (some ⟨A.q, 0, none⟩), .int .i64 (i : Nat), .string x.ke, .int .i64 (Xg.nx : Nat), .int .i64 (-1)] V fun e w' => ∃ A', e = .returned (.tuple #[]) ∧ StX w B A (xs2 ++ [(N, oG)]) w' A' (Xg.aY C R P i x.ke Xg.nx none)) := Lr fun V hV => Dl (HS6.out.below hV) HE.out HW.out i x.ke Xg.nx none HCR.out
          have HNXC : Hid ((Xg.aY C R P i x.ke Xg.nx none).nx = Xg.nx) := Lr (Lf.come (C := C) (R := R) (P := P) (X := Xg) (i := i) (key := x.ke) (ge := Xg.nx) (ak := none) (fun i x hx => (HV.out.cd i x hx).1) (fun j h => by cases h)).nx; have HB6 : Hid (Below w6.heap.size w6 w6.drew) := Lr (LD _ w6).drew; rw [← hw6]; clear hw6 hN hb6 hn6 hs6 hoG
          go_upto_region 36 with (fail)
          refine wp_region_held_drew (S := fun W => W.cell? ⟨A.q, 0, none⟩ = some (.slice co C.length cc) ∧ W.cell? ⟨A.q, 5, none⟩ = some (.int .i64 (Xg.nx : Nat)) ∧ W.cell? ⟨N, 1, none⟩ = some (.string x.ca) ∧ W.cell? ⟨N, 2, none⟩ = some (.string x.ke)) (by kernel_rfl) (HSC.out _ _ _ HS6.out rfl _ HB6.out) (fun hHeld => ?_); refine tkS 0 246 hHeld ?_
          try simp only [pu]
          refine tkS 1 247 hHeld ?_
          try simp only [pu]
          refine tkS 2 248 hHeld ?_
          try simp only [pu]
          refine tkS 3 249 hHeld ?_
          try simp only [pu]
          refine tkS 4 250 hHeld ?_
          try simp only [pu]
          refine tkS 5 251 hHeld ?_
          try simp only [pu]
          refine tkS 6 252 hHeld ?_
          try simp only [pu]
          refine tkS 7 253 hHeld ?_
          try simp only [pu]
          refine tkS 9 255 hHeld ?_
          try simp only [pu]
          refine tkS 10 256 hHeld ?_
          try simp only [pu]
          refine tkS 11 257 hHeld ?_
          try simp only [pu]
          refine tkS 12 258 hHeld ?_
          try simp only [pu]
          refine tkS 13 259 hHeld ?_
          try simp only [pu]
          refine tkS 14 260 hHeld ?_
          try simp only [pu]
          refine iK (f := 43) (args := #[.slice co C.length cc, .string x.ca]) 8 254 rfl rfl (by kernel_rfl) (by rfl) (by go_simp) ?_; clear hHeld; refine (HCO.out _ HB6.out).mono ?_; rintro e w7 ⟨rfl, hb7⟩; have HB7 := Lr (HB6.out.bf hb7); clear hb7; have hHeld : w7.cell? ⟨A.q, 0, none⟩ = some (.slice co C.length cc) ∧ w7.cell? ⟨A.q, 5, none⟩ = some (.int .i64 (Xg.nx : Nat)) ∧ w7.cell? ⟨N, 1, none⟩ = some (.string x.ca) ∧ w7.cell? ⟨N, 2, none⟩ = some (.string x.ke) := HSC.out _ _ _ HS6.out rfl _ HB7.out; refine ⟨_, rfl, hHeld, ?_⟩
          try simp only [pu]
          refine iK (f := 104) (args := #[.pointer (some ⟨A.q, 0, none⟩), .int .i64 (i : Nat), .string x.ke, .int .i64 (Xg.nx : Nat), .int .i64 (-1)]) 15 261 rfl rfl (by kernel_rfl) (by rfl) (by go_simp) ?_; clear hHeld; refine (HCM.out _ HB7.out).mono ?_; rintro e w8 ⟨A8, rfl, h8⟩; have HS8 := Lr h8; clear h8; have hHeld : w8.cell? ⟨A.q, 0, none⟩ = some (.slice co C.length cc) ∧ w8.cell? ⟨A.q, 5, none⟩ = some (.int .i64 (Xg.nx : Nat)) ∧ w8.cell? ⟨N, 1, none⟩ = some (.string x.ca) ∧ w8.cell? ⟨N, 2, none⟩ = some (.string x.ke) := HSC.out _ _ _ HS8.out HNXC.out _ (LD _ _); refine ⟨_, rfl, hHeld, ?_⟩
          try simp only [pu]
          refine wpAnyH_done (by kernel_rfl) ?_ _; clear hHeld; have hs8 := HS8.out.drop; obtain ⟨A9, hA9⟩ : ∃ A9 : Rdr, A9 = { A8 with x := xs2 } := ⟨_, rfl⟩
          rw [← hA9] at hs8; obtain ⟨-, z5, -, -, -, -, zf, -⟩ := HQC.out _ _ _ _ hs8 w8 (LD _ _); rw [HNXC.out] at z5; have hwp : IntKind.i64.wrap ((Xg.nx : Int) + 1) = (Xg.nx : Int) + 1 := IntWalk.i64_in _ (by have := HV.out.l; omega); have hs9 : StX w B A xs2 (w8.setCell ⟨A.q, 5, none⟩ (.int .i64 ((Xg.nx : Int) + 1))) A9 X2 := by
           rw [HX2E.out]; exact hs8.sW 5 (.int .i64 ((Xg.nx : Int) + 1)) ({ Xg.aY C R P i x.ke Xg.nx none with nx := Xg.nx + 1 } : Xd) rfl rfl rfl rfl rfl
          have HS9 := Lr hs9; have HXN : Hid (X2.nx = Xg.nx + 1) := Lr (by rw [HX2E.out]); clear hs8 hA9 hs9
          go_wp2_with fail
          go_roundg (L.length - (Xg.nx + 1))
          case measure => omega
          case rel => exact ⟨X2, A9, by rw [HXN.out]; exact Ls _, (show Aside (_ ∧ _ ∧ _) from ⟨⟨HS9.out, HRN.out, HLG.out.step HMN.out⟩, HNN.out, HAN.out⟩)⟩
        ·
         have HNX : Hid (Xg.next C R E P L lim .get = some (.arr, Xg)) := Lr (by
          unfold Xd.next
          dsimp only
          rw [if_neg (by rw [HNG.out]; exact hp)])
         have HRA := Lr (HRI.out.next HV.out HNX.out); have HL3 : Hid (Lee C P L (((¬ (X0.pg < P.length ∧ (P.getD X0.pg default).ti = X0.no)) ∧ X0.gV = none) ∧ ¬ (X0.nx < L.length ∧ (L.getD X0.nx default).ti = X0.no)) X0 Xg) := Lr (HLG.out.exit fun e f => ⟨f, by rw [← e, HNG.out]; exact hp⟩)
         go_upto_region 33 with (fail)
         go_cut [228] (fun s228 W => s228 = .bool false ∧ Aside (Below wz.heap.size wz W))
         case first =>
          by_cases hp1 : Xg.nx < L.length
          ·obtain ⟨x, hx⟩ : ∃ x, L[Xg.nx]? = some x := ⟨_, Lu hp1⟩
           have hne : ¬ x.ti = t := fun e => hp ⟨hp1, by rw [getD_at hx]; exact e⟩
           obtain ⟨lb, loff, rfl, hlx⟩ := HLE.out _ _ hx; obtain ⟨l0, -⟩ := hlx wz (HWB.out _ _ _ _ HSG.out); have hpz : (Xg.nx : Int) < (L.length : Int) := by omega
           have hp0 : (0 : Int) ≤ (Xg.nx : Int) := by omega
           have htb : (x.ti == t) = false := beq_eq_false_iff_ne.2 hne; clear hx hlx hne hp
           go_quiet (fail)
           go_wp2_with fail
           go_meet
           exact ⟨rfl, below_drewN (LD _ _) _⟩
          ·have hpz : ¬ (Xg.nx : Int) < (L.length : Int) := by omega
           clear hp
           go_quiet (fail)
           go_wp2_with fail
           go_meet
           exact ⟨rfl, below_drewN (LD _ _) _⟩
         obtain ⟨rfl, BC⟩ := hcut; obtain ⟨w20, rfl⟩ : ∃ w20, w20 = wc := ⟨_, rfl⟩
         have HS20 := Lr (HSG.out.below BC.out); clear BC q4 q5 HNX hp hgg hnl HRI HLG HSG HLE; have hsv := HN7.out w20 fun p hp => HS20.out.all p (HX2.out.1 p hp)
         have HOR := Lr (wQ HS20.out l7 (.slice a7 n7 c7) hsv (fun j hj => ((HAG.out.m j).1 hj).1) HAR.out.2); have HSR : Hid (Srt Xg Xg.lY (rZ Xg l7) ∧ (rZ Xg l7).length ≤ 1000000) := Lr ⟨HAG.out.srt, by
          have h1 := (jP (X := Xg) HAG.out.o (k := l7.length) (Ls _)).2.2; rw [List.take_length] at h1; have := HAR.out.2; omega⟩
         obtain ⟨S2, hS2⟩ : ∃ S2, S2 = rZ Xg l7 := ⟨_, rfl⟩
         rw [← hS2] at HOR HSR; clear hsv hS2
         go_wp2_with (go_at_call 101; (with_reducible refine HOR.out.mono ?_); rintro e w21 ⟨v21, rfl, ho21, hb21⟩; obtain ⟨o21, A21, hs21, hn21⟩ := HS20.out.num ho21 (Ls _) hb21; obtain ⟨a21, c21, rfl, -⟩ := ho21.sl dI; have HS21 := Lr hs21; have HN21 := Lr hn21; clear ho21 hb21 hs21 hn21)
         obtain ⟨xs5, hxs5⟩ : ∃ xs5, xs5 = xs2 ++ o21 := ⟨_, rfl⟩
         rw [← hxs5] at HS21; have HX5 : Hid ((∀ p, p ∈ o21 → p ∈ xs5) ∧ ∃ ys, xs5 = A.x ++ ys) := Lr (by
          obtain ⟨ys, hys⟩ := HX3.out; exact ⟨fun p hp => by rw [hxs5]; exact List.mem_append_right _ hp, ys ++ o21, by rw [hxs5, hys, List.append_assoc]⟩)
         have hsl2 : S2.length ≤ 1000000 := HSR.out.2; clear hxs5 HS20 HOR HN7 HAR HX2 HX3
         go_loopg [17, 18, 266] S2.length (fun gg s17 s18 s266 wr => ∃ (kc : Nat) (Xa : Xd) (Aa : Rdr), kc ≤ S2.length ∧ S2.length - kc ≤ gg ∧ s266 = .int .i64 kc ∧ Aside ((StX w B A xs5 wr Aa Xa ∧ RInv C R E P L lim .arr Xa ∧ Lee C P L (((¬ (X0.pg < P.length ∧ (P.getD X0.pg default).ti = X0.no)) ∧ X0.gV = none) ∧ ¬ (X0.nx < L.length ∧ (L.getD X0.nx default).ti = X0.no)) X0 Xa) ∧ Srt Xa Xa.lY (S2.drop kc)))
         case atStart => exact ⟨0, Xg, A21, Nat.zero_le _, by omega, rfl, (show Aside (_ ∧ _) from ⟨⟨HS21.out, HRA.out, HL3.out⟩, HSR.out.1⟩)⟩
         case round =>
          obtain ⟨wy, rfl⟩ : ∃ wy, wy = wr := ⟨_, rfl⟩
          obtain ⟨kc, Y, Ad, hkb, hkbg, rfl, ST⟩ := hrel; have HST := Lr ST.out.1.1; have HRI := Lr ST.out.1.2.1; have HLE1 := Lr ST.out.1.2.2; have HSY := Lr ST.out.2; clear ST; by_cases hlb : kc < S2.length
          ·as_aux_lemma =>
            have hlbz : (kc : Int) < (S2.length : Int) := by omega
            have hsd := List.drop_eq_getElem_cons hlb; obtain ⟨i, hi⟩ : ∃ i, S2[kc]? = some i := ⟨_, Lu hlb⟩
            have hi' : S2[kc] = i := by rw [Lu hlb] at hi; exact Option.some.inj hi
            rw [hi'] at hsd; have hsr := HSY.out; rw [hsd] at hsr; have hna : Y.lN = some i := hsr.least; obtain ⟨⟨b1, b2, b3⟩, -⟩ := gG hna; have HNX : Hid (Y.next C R E P L lim .arr = some (.arr, Y.jv C R E P i)) := Lr (by unfold Xd.next; dsimp only; rw [hna]); have HRN := Lr (HRI.out.next HV.out HNX.out); have HMN := Lr (qN HRI.out HV.out HNX.out (by simp)); have HSB := Lr (hsr.arr (Sta.Jg (R := R) (E := E) HRI.out.inv HV.out b1 b2)); obtain ⟨ab, abc, eS, -, -, -, nel⟩ := HN21.out wy fun p hp => HST.out.all p (HX5.out.1 p hp)
            simp only [Value.slice.injEq, true_and] at eS
            obtain ⟨rfl, rfl⟩ := eS; obtain ⟨sb, soff, rfl, hsc⟩ := nel kc i hi; have s0 : wy.cell? ⟨sb, soff + kc, none⟩ = some (.int .i64 (i : Nat)) := by have h := hsc 0 _ rfl; simpa using h
            have hca := (HRI.out.inv.kk i _ (Xd.at_ b1)).1; obtain ⟨v, hiv⟩ := HST.out.rd.at_ b1; have hne : Ad.ks ≠ [] := fun e => by rw [e] at hiv; cases hiv
            obtain ⟨g, cap, hgv, hg1, hg2, -, -, hgc, hgf⟩ := Own.gZ bn HST.out.rd.asks hne; have q7 : wy.cell? ⟨A.q, 7, none⟩ = some (.slice (some ⟨g, 0, none⟩) Ad.ks.length cap) := by rw [(HQC.out _ _ _ _ HST.out wy (LD _ _)).2.2.2.1, hgv]
            have k4 : wy.cell? ⟨g, i * 14 + 4, none⟩ = some (.bool (Y.K i).cm) := hgc i _ 4 _ hiv rfl; have kf := hgf (i * 14 + 4); have hiz : (i : Int) < (Ad.ks.length : Int) := by have := (List.getElem?_eq_some_iff.1 hiv).1; omega
            have hi0 : (0 : Int) ≤ (i : Int) := by omega
            obtain ⟨AC, hsc2, hsnd⟩ := HST.out.bT b1 hgv rfl hg1 4 (.bool true) { Y.K i with cm := true } rfl (by decide) (fun v => rfl); obtain ⟨wc2, hwc2⟩ : ∃ wc2, wc2 = wy.setCell ⟨g, i * 14 + 4, none⟩ (.bool true) := ⟨_, rfl⟩
            rw [← hwc2] at hsc2; have hsc2 : StX w B A xs5 wc2 AC (Y.cZ i) := hsc2; have hl2 : i < (Y.cZ i).ak.length := by show i < (Y.ak.set _ _).length; rw [List.length_set]; exact b1
            have hK2 : (Y.cZ i).K i = { Y.K i with cm := true } := by
             show (Y.bT i _).K i = _
             rw [Xd.dB b1, if_pos rfl]
            obtain ⟨v2, hiv2⟩ := hsc2.rd.at_ hl2; rw [hK2] at hiv2; have hne2 : AC.ks ≠ [] := fun e => by rw [e] at hiv2; cases hiv2
            obtain ⟨g2, cap2, hgv2, -, hg22, -, -, hgc2, -⟩ := Own.gZ bn hsc2.rd.asks hne2; have HQA : Hid (∀ V : World, Below wc2.heap.size wc2 V → V.cell? ⟨A.q, 0, none⟩ = some (.slice co C.length cc) ∧ V.cell? ⟨A.q, 7, none⟩ = some (.slice (some ⟨g2, 0, none⟩) AC.ks.length cap2) ∧ V.cell? ⟨g2, i * 14, none⟩ = some (.int .i64 ((Y.K i).ca : Nat)) ∧ V.cell? ⟨g2, i * 14 + 1, none⟩ = some (.string (Y.K i).ke)) := Lr fun V hV => by
             obtain ⟨⟨z0, -, -⟩, -, -, z7, -⟩ := HQC.out _ _ _ _ hsc2 V hV; refine ⟨z0, by rw [z7, hgv2], ?_, (hV.cell (p := ⟨g2, i * 14 + 1, none⟩) hg22).trans (hgc2 i _ 1 _ hiv2 rfl)⟩; have h1 := (hV.cell (p := ⟨g2, i * 14 + 0, none⟩) hg22).trans (hgc2 i _ 0 _ hiv2 rfl)
             simpa using h1
            have hiz2 : (i : Int) < (AC.ks.length : Int) := by have := (List.getElem?_eq_some_iff.1 hiv2).1; omega
            obtain ⟨xc, hxc⟩ : ∃ xc, C[(Y.K i).ca]? = some xc := ⟨_, Lu hca⟩
            obtain ⟨cb, coff, rfl, hcc⟩ := HCE.out _ _ hxc; have hcaz : ((Y.K i).ca : Int) < (C.length : Int) := by omega
            have hca0 : (0 : Int) ≤ ((Y.K i).ca : Int) := by omega
            have HPO0 : Hid (qK C (Y.K i).ca = fC C xc.pa) := Lr (by unfold qK; rw [getD_at hxc]); obtain ⟨hpa1, hpa2⟩ := HPA.out _ _ hxc; obtain ⟨pv, hpv⟩ : ∃ pv, pv = xc.pa := ⟨_, rfl⟩
            rw [← hpv] at hcc hpa1 hpa2; have HCC := Lr hcc; have HPA1 := Lr hpa1; have HPA2 := Lr hpa2; have HPO : Hid (qK C (Y.K i).ca = fC C pv) := Lr (by rw [hpv]; exact HPO0.out); clear HPO0 hpv; have hno := HRI.out.inv.no; have hxi := HRI.out.inv.came b1 b2 0; have HXI := Lr hxi; have HC2 : Hid (∃ n, Cap n (Y.cZ i) ∧ n ≤ 61200) := Lr (by
             obtain ⟨n, hcn, hn⟩ := HRI.out.cap; exact ⟨n, hcn.came b1, by omega⟩)
            have HB1 := Lr b1; have HL2 := Lr hl2; have HK2 := Lr hK2; have HCA := Lr hca; have HNO := Lr hno; have HSC2 := Lr hsc2; have HWC2 := Lr hwc2; obtain ⟨ka, hka⟩ : ∃ ka, ka = (Y.K i).ca := ⟨_, rfl⟩
            rw [← hka] at HQA HCC hcaz hca0 HPO; have HKA := Lr hka; obtain ⟨kk', hkk'⟩ : ∃ kk', kk' = (Y.K i).ke := ⟨_, rfl⟩
            rw [← hkk'] at HQA; have HKK := Lr hkk'; clear hsd hi hi' hsr hna b1 b2 b3 nel hsc hca hiv hne hgv hgc hgf hsc2 hsnd hwc2 hl2 hK2 hiv2 hne2 hgv2 hgc2 hxc hcc hpa1 hpa2 hno hxi hka hkk' hg1 hg2 hg22
            go_upto_region 41 with (fail)
            rw [← HWC2.out]; clear s0 q7 k4 kf; obtain ⟨z0, z7, za, zk⟩ := HQA.out wc2 (LD _ _); have zp := HCC.out wc2 (HWB.out _ _ _ _ HSC2.out)
            go_quiet (fail)
            go_upto_region 42 with (fail)
            obtain ⟨w3, hw3⟩ : ∃ w3, w3 = wc2.drewN nq := ⟨_, rfl⟩
            have HB3 : Hid (Below wc2.heap.size wc2 w3) := Lr (by rw [hw3]; exact below_drewN (LD _ _) _); rw [← hw3]; clear hw3 z0 z7 za zk zp; by_cases hpa : pv = ⟨#[]⟩
            ·
             have hpn : qK C ka = -1 := by rw [HPO.out]; exact HPA1.out hpa
             have HAX : Hid (Y.jv C R E P i = (Y.cZ i).aI C ⟨0, some i, 0⟩ (oV E ((Y.cZ i).K i).ke (Y.cZ i).no)) := Lr (by
              unfold Xd.jv; rw [← HKA.out, hpn, if_neg (by omega), HK2.out]
              rfl)
             have HOC : Hid (∀ V : World, Below wc2.heap.size wc2 V → Calls Tryz.prog 105 #[.pointer (some ⟨A.q, 0, none⟩), .int .i64 (i : Nat)] V fun e w' => ∃ A', e = .returned (.tuple #[]) ∧ StX w B A xs5 w' A' (Y.jv C R E P i)) := Lr fun V hV => by
              have h1 := Bq (HSC2.out.below hV) HE.out HW.out i HL2.out (by rw [HK2.out]; exact HCA.out) ⟨HNO.out.1, by have := HNO.out.2; show Y.no ≤ _; omega⟩ (Am HV.out); rw [← HAX.out] at h1; exact h1
             clear hpn HPA1 HPA2 HPO HCC; subst hpa
             go_wp2_with (go_at_call 105; (with_reducible refine (HOC.out _ HB3.out).mono ?_); rintro e w22 ⟨A22, rfl, h22⟩; have HS22 := Lr h22; clear h22)
             go_roundg (S2.length - (kc + 1))
             case measure => omega
             case rel => exact ⟨kc + 1, Y.jv C R E P i, A22, by omega, by omega, by go_num, (show Aside (_ ∧ _) from ⟨⟨HS22.out, HRN.out, HLE1.out.step HMN.out⟩, HSB.out⟩)⟩
            ·
             have hpn : 0 ≤ qK C ka := by rw [HPO.out]; exact HPA2.out hpa
             have hpc : qK C ka < (ka : Int) := by
              rw [HKA.out]; exact (HV.out.cp (Y.K i).ca (C.getD (Y.K i).ca default) (by rw [Lt, Lu HCA.out]; rfl)).1
             obtain ⟨pn, hpnn⟩ : ∃ pn : Nat, qK C ka = (pn : Int) := ⟨(qK C ka).toNat, by omega⟩
             have HAX : Hid (Y.jv C R E P i = (Y.cZ i).aY C R P pn kk' 0 (some i)) := Lr (by
              unfold Xd.jv; rw [← HKA.out, if_pos hpn, hpnn, HKK.out]
              rfl)
             have hpl2 : pn < C.length := by have := HCA.out; rw [← HKA.out] at this; omega
             have HCR : Hid (DW C R P (Y.cZ i) pn kk' 0 (some i)) := Lr (by
              obtain ⟨n, hcn, hn⟩ := HC2.out; exact x9 HV.out HXI.out hcn hn hpl2 (fun h => by cases h) (fun j h => by cases h; exact HL2.out))
             have HCM : Hid (∀ V : World, Below wc2.heap.size wc2 V → Calls Tryz.prog 104 #[.pointer (some ⟨A.q, 0, none⟩), .int .i64 (pn : Nat), .string kk', .int .i64 (-1), .int .i64 (i : Nat)] V fun e w' => ∃ A', e = .returned (.tuple #[]) ∧ StX w B A xs5 w' A' (Y.jv C R E P i)) := Lr fun V hV => by
              have h1 := Dl (HSC2.out.below hV) HE.out HW.out pn kk' 0 (some i) HCR.out; rw [← HAX.out] at h1; exact h1
             have HCO : Hid (∀ V : World, Below wc2.heap.size wc2 V → Calls Tryz.prog 43 #[.slice (some ⟨cb, coff, none⟩) C.length cc, .string pv] V fun e w' => e = .returned (.int .i64 (pn : Nat)) ∧ Below V.heap.size V w') := Lr fun V hV => by
              have hsl := HE.out.c.below ((HWB.out _ _ _ _ HSC2.out).bf hV) (Ls _); rw [HE0.out] at hsl; have h1 := fP V C _ pv hsl; rw [show Dq C pv = (pn : Int) from HPO.out.symm.trans hpnn] at h1; exact h1
             have HS0 : Hid (∀ (W : World) (A' : Rdr) (X' : Xd), StX w B A xs5 W A' X' → W.cell? ⟨A.q, 0, none⟩ = some (.slice (some ⟨cb, coff, none⟩) C.length cc)) := Lr fun W A' X' hs => (HQC.out _ _ _ _ hs W (LD _ _)).1.1
             obtain ⟨p1, p2, p3⟩ := uG hpa; have HBQ : Hid (Below wc2.heap.size wc2 w3.drew) := Lr HB3.out.drew; clear hpn hpc hpnn hpl2
             go_upto_region 43 with (fail)
             refine wp_region_held_drew (S := fun W => W.cell? ⟨A.q, 0, none⟩ = some (.slice (some ⟨cb, coff, none⟩) C.length cc)) (by kernel_rfl) (HS0.out _ _ _ (HSC2.out.below HBQ.out)) (fun hHeld => ?_); refine tkS 0 295 hHeld ?_
             try simp only [pu]
             refine tkS 1 296 hHeld ?_
             try simp only [pu]
             refine tkS 2 297 hHeld ?_
             try simp only [pu]
             refine tkS 3 298 hHeld ?_
             try simp only [pu]
             refine tkS 4 299 hHeld ?_
             try simp only [pu]
             refine tkS 5 300 hHeld ?_
             try simp only [pu]
             refine tkS 6 301 hHeld ?_
             try simp only [pu]
             refine tkS 8 303 hHeld ?_
             try simp only [pu]
             refine tkS 9 304 hHeld ?_
             try simp only [pu]
             refine tkS 10 305 hHeld ?_
             try simp only [pu]
             refine tkS 12 307 hHeld ?_
             try simp only [pu]
             refine tkS 16 311 hHeld ?_
             try simp only [pu]
             refine wpAnyH_ready (rs := [7, 11]) (by kernel_rfl) (by simp) (AllReadyH.cons rfl (fun K hK => ?_) (AllReadyH.cons rfl (fun K hK => ?_) AllReadyH.nil))
             ·rw [if_pos (by rfl)]
              go_simp
              go_at_call 43
              refine (HCO.out _ HBQ.out).mono ?_; rintro e w9 ⟨rfl, hb9⟩; have HB9 := Lr (HBQ.out.bf hb9); clear hb9; refine hK.out _ _ (HS0.out _ _ _ (HSC2.out.below HB9.out)) (fun hHeld => ?_); clear hK K
              try simp only [pu]
              refine wpAnyH_ready (rs := [11]) (by kernel_rfl) (by simp) (AllReadyH.cons rfl (fun K hK => ?_) AllReadyH.nil); have yv := (HQA.out _ HB9.out).2.1
              go_simp
              refine hK.out _ _ (HS0.out _ _ _ (HSC2.out.below HB9.out)) (fun hHeld => ?_); clear hK K
              try simp only [pu]
              clear yv; refine tkS 13 308 hHeld ?_
              try simp only [pu]
              refine tkS 14 309 hHeld ?_
              try simp only [pu]
              refine wpAnyH_ready (rs := [15]) (by kernel_rfl) (by simp) (AllReadyH.cons rfl (fun K hK => ?_) AllReadyH.nil); have yv := (HQA.out _ HB9.out).2.2.2
              go_simp
              refine hK.out _ _ (HS0.out _ _ _ (HSC2.out.below HB9.out)) (fun hHeld => ?_); clear hK K
              try simp only [pu]
              clear yv; refine wpAnyH_ready (rs := [17]) (by kernel_rfl) (by simp) (AllReadyH.cons rfl (fun K hK => ?_) AllReadyH.nil); rw [if_pos (by rfl)]
              go_simp
              go_at_call 104
              refine (HCM.out _ HB9.out).mono ?_; rintro e w22 ⟨A22, rfl, h22⟩; have HS22 := Lr h22; clear h22; refine hK.out _ _ (HS0.out _ _ _ HS22.out) (fun hHeld => ?_); clear hK K
              try simp only [pu]
              refine wpAnyH_done (by kernel_rfl) ?_ _; clear hHeld
              go_wp2_with fail
              go_roundg (S2.length - (kc + 1))
              case measure => omega
              case rel => exact ⟨kc + 1, Y.jv C R E P i, A22, by omega, by omega, by go_num, (show Aside (_ ∧ _) from ⟨⟨HS22.out, HRN.out, HLE1.out.step HMN.out⟩, HSB.out⟩)⟩
             ·have yv := (HQA.out _ HBQ.out).2.1
              go_simp
              refine hK.out _ _ (HS0.out _ _ _ (HSC2.out.below HBQ.out)) (fun hHeld => ?_); clear hK K
              try simp only [pu]
              clear yv; refine tkS 13 308 hHeld ?_
              try simp only [pu]
              refine tkS 14 309 hHeld ?_
              try simp only [pu]
              refine wpAnyH_ready (rs := [7, 15]) (by kernel_rfl) (by simp) (AllReadyH.cons rfl (fun K hK => ?_) (AllReadyH.cons rfl (fun K hK => ?_) AllReadyH.nil))
              ·rw [if_pos (by rfl)]
               go_simp
               go_at_call 43
               refine (HCO.out _ HBQ.out).mono ?_; rintro e w9 ⟨rfl, hb9⟩; have HB9 := Lr (HBQ.out.bf hb9); clear hb9; refine hK.out _ _ (HS0.out _ _ _ (HSC2.out.below HB9.out)) (fun hHeld => ?_); clear hK K
               try simp only [pu]
               refine wpAnyH_ready (rs := [15]) (by kernel_rfl) (by simp) (AllReadyH.cons rfl (fun K hK => ?_) AllReadyH.nil); have yv := (HQA.out _ HB9.out).2.2.2
               go_simp
               refine hK.out _ _ (HS0.out _ _ _ (HSC2.out.below HB9.out)) (fun hHeld => ?_); clear hK K
               try simp only [pu]
               clear yv; refine wpAnyH_ready (rs := [17]) (by kernel_rfl) (by simp) (AllReadyH.cons rfl (fun K hK => ?_) AllReadyH.nil); rw [if_pos (by rfl)]
               go_simp
               go_at_call 104
               refine (HCM.out _ HB9.out).mono ?_; rintro e w22 ⟨A22, rfl, h22⟩; have HS22 := Lr h22; clear h22; refine hK.out _ _ (HS0.out _ _ _ HS22.out) (fun hHeld => ?_); clear hK K
               try simp only [pu]
               refine wpAnyH_done (by kernel_rfl) ?_ _; clear hHeld
               go_wp2_with fail
               go_roundg (S2.length - (kc + 1))
               case measure => omega
               case rel => exact ⟨kc + 1, Y.jv C R E P i, A22, by omega, by omega, by go_num, (show Aside (_ ∧ _) from ⟨⟨HS22.out, HRN.out, HLE1.out.step HMN.out⟩, HSB.out⟩)⟩
              ·have yv := (HQA.out _ HBQ.out).2.2.2
               go_simp
               refine hK.out _ _ (HS0.out _ _ _ (HSC2.out.below HBQ.out)) (fun hHeld => ?_); clear hK K
               try simp only [pu]
               clear yv; refine wpAnyH_ready (rs := [7]) (by kernel_rfl) (by simp) (AllReadyH.cons rfl (fun K hK => ?_) AllReadyH.nil); rw [if_pos (by rfl)]
               go_simp
               go_at_call 43
               refine (HCO.out _ HBQ.out).mono ?_; rintro e w9 ⟨rfl, hb9⟩; have HB9 := Lr (HBQ.out.bf hb9); clear hb9; refine hK.out _ _ (HS0.out _ _ _ (HSC2.out.below HB9.out)) (fun hHeld => ?_); clear hK K
               try simp only [pu]
               refine wpAnyH_ready (rs := [17]) (by kernel_rfl) (by simp) (AllReadyH.cons rfl (fun K hK => ?_) AllReadyH.nil); rw [if_pos (by rfl)]
               go_simp
               go_at_call 104
               refine (HCM.out _ HB9.out).mono ?_; rintro e w22 ⟨A22, rfl, h22⟩; have HS22 := Lr h22; clear h22; refine hK.out _ _ (HS0.out _ _ _ HS22.out) (fun hHeld => ?_); clear hK K
               try simp only [pu]
               refine wpAnyH_done (by kernel_rfl) ?_ _; clear hHeld
               go_wp2_with fail
               go_roundg (S2.length - (kc + 1))
               case measure => omega
               case rel => exact ⟨kc + 1, Y.jv C R E P i, A22, by omega, by omega, by go_num, (show Aside (_ ∧ _) from ⟨⟨HS22.out, HRN.out, HLE1.out.step HMN.out⟩, HSB.out⟩)⟩
          ·obtain rfl : kc = S2.length := by omega
           have hlbz : ¬ (S2.length : Int) < (S2.length : Int) := by omega
           have hna : Y.lN = none := by
            have h1 := HSY.out; rw [List.drop_length] at h1; exact h1.least
           have HRO := Lr (HRI.out.next HV.out (show Y.next C R E P L lim .arr = some (.out, Y) by unfold Xd.next; dsimp only; rw [hna])); have HMU : Hid (muX C P L Y < muX C P L X) := Lr (by
            rcases HLE1.out with h1 | ⟨e, h1⟩
            ·rw [← HMU0.out]; exact h1
            ·exact absurd trivial (fun _ => HTM.out _ (fun h => h.1.1) (fun h => h.1.2) (fun h => h.2) (fun _ => by rw [← e]; exact hna) h1))
           have HFIN : Hid (DT C R E P L lim w B A X (.returned (.tuple #[])) wy) := Lr (by
            obtain ⟨ys, hys⟩ := HX5.out.2; have h1 := HST.out; rw [hys] at h1; have h2 := h1.drop; exact ⟨_, Y, rfl, h2.rd, h2.le, h2.be, HRO.out, HMU.out⟩)
           clear hna HRO HMU HST HSY HRI HLE1
           go_wp2_with fail
           go_end0
           exact HFIN.out
theorem vK (w : World) (l : List Crl) (v : Value) (hl : Sl w 4 xU v l) (hw : ∀ x, x ∈ l → WfU x) :
 Calls Tryz.prog 95 #[v] w fun e w' => e = .returned (.int .i64 (dO l)) ∧ Below w.heap.size w w' := by
 obtain ⟨ao, cap, rfl, hcap, hmax, hnil, hel⟩ := hl; unfold maxLen at hmax; by_cases hbig : 100 < l.length
 ·have hv : Hid (2 = dO l) := Lr (by simp [dO, hbig]); have hbz : (100 : Int) < (l.length : Int) := by omega
  clear hel
  go_enter Tryz.func95, Tryz.ntmps95
  go_wp2
  go_ret
  exact ⟨ah hv.out, LD _ _⟩
 have hbz : ¬ (100 : Int) < (l.length : Int) := by omega
 have HF : Hid (dO l = FF (zS l) l.length) := Lr (by simp [dO, hbig]); generalize dO l = F at HF ⊢; have HW := Lr hw; have HEL := Lr hel; clear hw hel
 go_enter Tryz.func95, Tryz.ntmps95
 go_wp2
 go_loopg [3, 4, 10] l.length (fun gg s3 s4 s10 wr => ∃ kk : Nat, kk ≤ l.length ∧ l.length - kk ≤ gg ∧ s10 = .int .i64 kk ∧ Aside (Below w.heap.size w wr) ∧ Aside (∀ j, j < kk → zS l j = 0))
 case atStart => exact ⟨0, Nat.zero_le _, by omega, rfl, LD _ w, fun j hj => absurd hj (Nat.not_lt_zero _)⟩
 case round =>
  obtain ⟨kk, hkk, hg, rfl, BW, A⟩ := hrel; by_cases hlt : kk < l.length
  ·have hltz : (kk : Int) < (l.length : Int) := by omega
   obtain ⟨x, hx⟩ : ∃ x, l[kk]? = some x := ⟨l[kk], by simp [hlt]⟩
   obtain ⟨p, hp⟩ : ∃ x, l[kk - 1]? = some x := ⟨l[kk - 1]'(by omega), by simp⟩
   obtain ⟨b, off, hao, hc⟩ := HEL.out kk x hx; subst hao; obtain ⟨b', off', hao', hc'⟩ := HEL.out (kk - 1) p hp; simp only [Option.some.injEq, Addr.mk.injEq, and_true] at hao'
   obtain ⟨rfl, rfl⟩ := hao'; have hlt0 := LC w ⟨b, off + kk * 4 + 0, none⟩ (hc 0 _ rfl); have c0 : wr.cell? ⟨b, off + kk * 4, none⟩ = some (.string x.pr) := (BW.out.cell (p := ⟨b, off + kk * 4 + 0, none⟩) hlt0).trans (hc 0 _ rfl); have p0 : wr.cell? ⟨b, off + (kk - 1) * 4, none⟩ = some (.string p.pr) := (BW.out.cell (p := ⟨b, off + (kk - 1) * 4 + 0, none⟩) hlt0).trans (hc' 0 _ rfl); have c1 : wr.cell? ⟨b, off + kk * 4 + 1, none⟩ = some (.int .i64 x.li) := (BW.out.cell (p := ⟨b, off + kk * 4 + 1, none⟩) hlt0).trans (hc 1 _ rfl); have p1 : wr.cell? ⟨b, off + (kk - 1) * 4 + 1, none⟩ = some (.int .i64 p.li) := (BW.out.cell (p := ⟨b, off + (kk - 1) * 4 + 1, none⟩) hlt0).trans (hc' 1 _ rfl); have c2 : wr.cell? ⟨b, off + kk * 4 + 2, none⟩ = some (.int .i64 x.st) := (BW.out.cell (p := ⟨b, off + kk * 4 + 2, none⟩) hlt0).trans (hc 2 _ rfl); have p2 : wr.cell? ⟨b, off + (kk - 1) * 4 + 2, none⟩ = some (.int .i64 p.st) := (BW.out.cell (p := ⟨b, off + (kk - 1) * 4 + 2, none⟩) hlt0).trans (hc' 2 _ rfl); have c3 : wr.cell? ⟨b, off + kk * 4 + 3, none⟩ = some (.int .i64 x.go) := (BW.out.cell (p := ⟨b, off + kk * 4 + 3, none⟩) hlt0).trans (hc 3 _ rfl); have p3 : wr.cell? ⟨b, off + (kk - 1) * 4 + 3, none⟩ = some (.int .i64 p.go) := (BW.out.cell (p := ⟨b, off + (kk - 1) * 4 + 3, none⟩) hlt0).trans (hc' 3 _ rfl); have hbw : b < wr.heap.size := Nat.lt_of_lt_of_le hlt0 BW.out.size; have hsz : x.pr.size ≤ 9223372036854775807 := HW.out x (List.mem_of_getElem? hx); have hin := iU x.pr
   have hszw := BW.out.size; have hat : Hid (zS l kk = x8 x p kk) := Lr (by rw [zS, bi hx, bi hp]); have hS : Hid (∀ z, x8 x p kk = z → z ≠ 0 → z = F) := Lr (fun z h hz => by
    rw [HF.out, iM hlt A.out (by rw [hat.out, h]; exact hz), hat.out, h])
   have hC0 : Hid (x8 x p kk = if (!dG x.pr) = true then 3 else if (Bz x p kk) = true then 8 else if (aN x.li 0 1000000000 || aN x.st 0 1000000000 || aN x.go 0 1000000000) = true then 1 else 0) := Lr rfl; clear hx hp hc hc'; have HB0 := Lr (BW.out.alloc hszw (.cells #[.string x.pr, .int .i64 x.li, .int .i64 x.st, .int .i64 x.go] 126))
   go_upto_region 6 with (fail)
   go_cut [15] (fun s w4 => s = .bool (!dG x.pr) ∧ w4 = (wr.alloc (.cells #[.string x.pr, .int .i64 x.li, .int .i64 x.st, .int .i64 x.go] 126)))
   case first =>
    go_wp2_with (go_at_call 97; refine (hin _ hsz).mono ?_; rintro e w' ⟨rfl, rfl⟩)
    go_meet
    exact ⟨by simp, rfl⟩
   obtain ⟨rfl, rfl⟩ := hcut; generalize hO : (!dG x.pr) = O at hC0 ⊢; clear hO; cases O
   case true =>
    have hv : Hid (3 = F) := Lr (hS.out 3 (by rw [hC0.out]; rfl) (by decide))
    go_wp2
    go_ret
    exact ⟨ah hv.out, HB0.out⟩
   have hC1 : Hid (x8 x p kk = if (Bz x p kk) = true then 8 else if (aN x.li 0 1000000000 || aN x.st 0 1000000000 || aN x.go 0 1000000000) = true then 1 else 0) := Lr (by rw [hC0.out]; rfl); clear hC0
   go_upto_region 8 with (fail)
   have hor : Hid ((Bz x p kk) = (decide (0 < kk) && (Op.bytesLess x.pr.toList p.pr.toList || x.pr.toList == p.pr.toList))) := Lr rfl; generalize hOG : (Bz x p kk) = OG at hor hC1 ⊢; have HOG := Lr hOG; clear hOG
   go_cut [20] (fun s w4 => s = .bool OG ∧ ∃ n, w4 = (wr.alloc (.cells #[.string x.pr, .int .i64 x.li, .int .i64 x.st, .int .i64 x.go] 126)).drewN n)
   case first =>
    by_cases hk0 : kk = 0
    ·have hz : decide ((0 : Int) < (kk : Int)) = false := decide_eq_false (by omega); have hz' : ¬ (0 : Int) < (kk : Int) := by omega
     have hz2 : decide (0 < kk) = false := decide_eq_false (by omega); have hv : Hid (OG = false) := Lr (by rw [hor.out, hz2]; rfl); clear hk0
     go_quiet (fail)
     go_wp2
     go_meet
     exact ⟨by rw [hv.out], _, rfl⟩
    ·have hz : decide ((0 : Int) < (kk : Int)) = true := decide_eq_true (by omega); have hz2 : decide (0 < kk) = true := decide_eq_true (by omega); have ez2 : ((kk : Int) - 1).toNat = kk - 1 := by omega
     have hm1 : (kk : Int) - 1 < (l.length : Int) := by omega
     have hm2 : (0 : Int) ≤ (kk : Int) - 1 := by omega
     have hm3 : (1 : Int) ≤ (kk : Int) := by omega
     have hm4 : 0 < kk := by omega
     have hwk : IntKind.i64.wrap ((kk : Int) - 1) = (kk : Int) - 1 := IntWalk.i64_in _ (by omega); clear hk0; have hv : Hid (OG = ((Op.bytesLess x.pr.toList p.pr.toList || x.pr.toList == p.pr.toList))) := Lr (by rw [hor.out, hz2]; rfl)
     go_quiet (fail)
     go_wp2
     go_meet
     exact ⟨by rw [hv.out], _, rfl⟩
   obtain ⟨rfl, nq, rfl⟩ := hcut; rw [HOG.out.symm] at hC1; have HBn := Lr (below_drewN HB0.out nq); rw [HOG.out.symm]; clear hor HOG; generalize hO : (Bz x p kk) = O at hC1 ⊢; clear hO; cases O
   case true =>
    have hv : Hid (8 = F) := Lr (hS.out 8 (by rw [hC1.out]; rfl) (by decide))
    go_wp2
    go_ret
    exact ⟨ah hv.out, HBn.out⟩
   have hC2 : Hid (x8 x p kk = if (aN x.li 0 1000000000 || aN x.st 0 1000000000 || aN x.go 0 1000000000) = true then 1 else 0) := Lr (by rw [hC1.out]; rfl); clear hC1
   go_upto_region 10 with (fail)
   go_cut [34] (fun s w4 => s = .bool (aN x.li 0 1000000000 || aN x.st 0 1000000000 || aN x.go 0 1000000000) ∧ w4 = ((wr.alloc (.cells #[.string x.pr, .int .i64 x.li, .int .i64 x.st, .int .i64 x.go] 126)).drewN nq))
   case first =>
    cases o0 : aN x.li 0 1000000000
    case true =>
     go_wp2_with (go_at_call 44; refine (bC _ _ _ _).mono ?_; rintro e w' ⟨rfl, rfl⟩)
     go_meet
     exact ⟨by simp [*], rfl⟩
    cases o1 : aN x.st 0 1000000000
    case true =>
     go_wp2_with (go_at_call 44; refine (bC _ _ _ _).mono ?_; rintro e w' ⟨rfl, rfl⟩)
     go_meet
     exact ⟨by simp [*], rfl⟩
    cases o2 : aN x.go 0 1000000000
    all_goals
     go_wp2_with (go_at_call 44; refine (bC _ _ _ _).mono ?_; rintro e w' ⟨rfl, rfl⟩)
     go_meet
     exact ⟨by simp [*], rfl⟩
   obtain ⟨rfl, rfl⟩ := hcut; generalize hO : (aN x.li 0 1000000000 || aN x.st 0 1000000000 || aN x.go 0 1000000000) = O at hC2 ⊢; clear hO; cases O
   case true =>
    have hv : Hid (1 = F) := Lr (hS.out 1 (by rw [hC2.out]; rfl) (by decide))
    go_wp2
    go_ret
    exact ⟨ah hv.out, HBn.out⟩
   have hC3 : Hid (x8 x p kk = 0) := Lr (by rw [hC2.out]; rfl); clear hC2; have hz : Hid (zS l kk = 0) := Lr (by rw [hat.out, hC3.out])
   go_wp2
   go_roundg (l.length - (kk + 1))
   case measure => omega
   case rel =>
    refine ⟨kk + 1, by omega, by omega, by go_num, HBn.out, (show Aside _ from fun j hj => ?_)⟩; by_cases e : j = kk
    ·rw [e, hz.out]
    ·exact A.out j (by omega)
  ·obtain rfl : kk = l.length := by omega
   have hltz : ¬ (l.length : Int) < (l.length : Int) := by omega
   have hz : Hid (0 = F) := Lr (by rw [HF.out, eF A.out])
   go_wp2
   go_ret
   exact ⟨ah hz.out, BW.out⟩
end Go.Proofs.YtgohddfnhofjhaaGreatDoor

/- CheckRules of the reference. -/
import Derived.Test.YtgohddfnhofjhaaGreatDoorC13
import Derived.Test.YtgohddfnhofjhaaGreatDoorC27
import Derived.Test.YtgohddfnhofjhaaGreatDoorC25
import Derived.Test.YtgohddfnhofjhaaGreatDoorC26
import Derived.Test.YtgohddfnhofjhaaGreatDoorC04
import Derived.Test.YtgohddfnhofjhaaGreatDoorC03
import Derived.Test.YtgohddfnhofjhaaGreatDoorC15
namespace Go.Proofs.YtgohddfnhofjhaaGreatDoor
open Go.RowKit
def cofI (l : List Cch) (n : ByteArray) : Int := fidxC (fun o => isC o n) l
theorem cofI_has (l : List Cch) (n : ByteArray) : decide (0 ≤ cofI l n) = hasC l n := fidxC_any _ _
theorem cofI_hit {l : List Cch} {n : ByteArray} {k : Nat} {x : Cch} (hx : l[k]? = some x) (h : isC x n = true) (hn : ∀ (j : Nat) y, l[j]? = some y → j < k → isC y n = false) : cofI l n = k := (fidxC_hit hx h hn).1
theorem cofI_none {l : List Cch} {n : ByteArray} (hn : ∀ (j : Nat) y, l[j]? = some y → isC y n = false) : cofI l n = -1 := (fidxC_none hn).1
set_option maxRecDepth 100000 in
set_option maxHeartbeats 1000000 in
theorem cacheOf_any (w : World) (l : List Cch) (v : Value) (n : ByteArray) (hl : Sl w 4 encC v l) :
 Calls Tryz.prog 43 #[v, .string n] w fun e w' => e = .returned (.int .i64 (cofI l n)) ∧ Below w.heap.size w w' := by
 obtain ⟨ao, cap, rfl, hcap, hmax, hnil, hel⟩ := hl
 unfold maxLen at hmax
 have HEL := Lib.hid hel
 have HH := Lib.hid (fun k x hx h hn => @cofI_hit l n k x hx h hn)
 have HN := Lib.hid (@cofI_none l n)
 obtain ⟨I, hI⟩ : ∃ I, I = cofI l n := ⟨_, rfl⟩
 rw [← hI] at HH HN ⊢
 clear hel hI
 go_enter Tryz.func43, Tryz.ntmps43
 go_wp2
 go_loopg [9] l.length (fun gg s9 wr => ∃ kk : Nat, kk ≤ l.length ∧ l.length - kk ≤ gg ∧ s9 = .int .i64 kk ∧ Aside (Below w.heap.size w wr) ∧ Aside (∀ (j : Nat) y, l[j]? = some y → j < kk → isC y n = false))
 case atStart => exact ⟨0, Nat.zero_le _, by omega, rfl, Below.refl _ _, fun j y _ hj => absurd hj (Nat.not_lt_zero _)⟩
 case round =>
  obtain ⟨kk, hkk, hg, rfl, BW, A⟩ := hrel
  have HBW := Lib.hid BW.out
  have HA := Lib.hid A.out
  have hszw := HBW.out.size
  clear BW A
  by_cases hlt : kk < l.length
  ·have hltz : (kk : Int) < (l.length : Int) := by omega
   obtain ⟨x, hx⟩ : ∃ x, l[kk]? = some x := ⟨l[kk], by simp [hlt]⟩
   obtain ⟨b, off, rfl, hc⟩ := HEL.out kk x hx
   have hlt0 := World.block_lt_of_cell? w ⟨b, off + kk * 4 + 0, none⟩ (hc 0 _ rfl)
   have c0 : wr.cell? ⟨b, off + kk * 4, none⟩ = some (.string x.na) := (HBW.out.cell (p := ⟨b, off + kk * 4 + 0, none⟩) hlt0).trans (hc 0 _ rfl)
   have c1 : wr.cell? ⟨b, off + kk * 4 + 1, none⟩ = some (.string x.pa) := (HBW.out.cell (p := ⟨b, off + kk * 4 + 1, none⟩) hlt0).trans (hc 1 _ rfl)
   have c2 : wr.cell? ⟨b, off + kk * 4 + 2, none⟩ = some (.int .i64 x.de) := (HBW.out.cell (p := ⟨b, off + kk * 4 + 2, none⟩) hlt0).trans (hc 2 _ rfl)
   have c3 : wr.cell? ⟨b, off + kk * 4 + 3, none⟩ = some (.int .i64 x.ro) := (HBW.out.cell (p := ⟨b, off + kk * 4 + 3, none⟩) hlt0).trans (hc 3 _ rfl)
   have HBZ := Lib.hid (HBW.out.alloc hszw (.cells #[.string x.na, .string x.pa, .int .i64 x.de, .int .i64 x.ro] 47))
   have HHX := Lib.hid (HH.out kk x hx)
   have HNX : Hid (isC x n = false → ∀ (j : Nat) y, l[j]? = some y → j < kk + 1 → isC y n = false) := Lib.hid (fun h j y hy hj => by
    by_cases e : j = kk
    ·subst e
     rw [hx] at hy
     simp only [Option.some.injEq] at hy
     rw [← hy]; exact h
    ·exact HA.out j y hy (by omega))
   clear hx hc
   cases hq : (x.na.toList == n.toList)
   case true =>
    have hv : Hid ((kk : Int) = I) := Lib.hid (HHX.out hq HA.out).symm
    go_wp2
    go_ret
    exact ⟨ret_int hv.out, HBZ.out⟩
   case false =>
    have HA2 := Lib.hid (HNX.out hq)
    go_wp2
    go_roundg (l.length - (kk + 1))
    case measure => omega
    case rel => exact ⟨kk + 1, by omega, by omega, by go_num, HBZ.out, HA2.out⟩
  ·obtain rfl : kk = l.length := by omega
   have hltz : ¬ (l.length : Int) < (l.length : Int) := by omega
   have hv : Hid (-1 = I) := Lib.hid (HN.out (fun j y hy => HA.out j y hy (List.getElem?_eq_some_iff.1 hy).1)).symm
   go_wp2
   go_ret
   exact ⟨ret_int hv.out, HBW.out⟩
set_option maxRecDepth 100000 in
set_option maxHeartbeats 4000000 in
theorem checkCR_any (w : World) (l : List Cch) (v : Value) (hl : Sl w 4 encC v l) (hw : ∀ x, x ∈ l → WfC x) :
 Calls Tryz.prog 94 #[v] w fun e w' => e = .returned (.int .i64 (checkC l)) ∧ Below w.heap.size w w' := by
 have HL := Lib.hid hl
 obtain ⟨ao, cap, rfl, hcap, hmax, hnil, hel⟩ := hl
 unfold maxLen at hmax
 have HB0 := Lib.hid (Below.refl w.heap.size w)
 by_cases h0 : l.length = 0
 ·have hv : Hid (9 = checkC l) := Lib.hid (by simp [checkC, h0])
  have h0z : ((l.length : Int) == 0) = true := by simp [h0]
  clear hel h0
  go_enter Tryz.func94, Tryz.ntmps94
  go_wp2
  go_ret
  exact ⟨ret_int hv.out, HB0.out⟩
 have h0z : ((l.length : Int) == 0) = false := by rw [beq_eq_false_iff_ne]; omega
 have h0y : ¬ (l.length : Int) = 0 := by omega
 by_cases hbig : 30 < l.length
 ·have hv : Hid (2 = checkC l) := Lib.hid (by simp [checkC, h0, hbig])
  have hbz : (30 : Int) < (l.length : Int) := by omega
  clear hel h0
  go_enter Tryz.func94, Tryz.ntmps94
  go_wp2
  go_ret
  exact ⟨ret_int hv.out, HB0.out⟩
 have hbz : ¬ (30 : Int) < (l.length : Int) := by omega
 have HF : Hid (checkC l = FF (ccAt l) l.length) := Lib.hid (by simp [checkC, h0, hbig])
 generalize checkC l = F at HF ⊢
 have HW := Lib.hid hw
 have HEL := Lib.hid hel
 clear hw hel h0
 go_enter Tryz.func94, Tryz.ntmps94
 go_wp2
 go_loopg [13] l.length (fun gg s13 wr => ∃ kk : Nat, kk ≤ l.length ∧ l.length - kk ≤ gg ∧ s13 = .int .i64 kk ∧ Aside (Below w.heap.size w wr) ∧ Aside (∀ j, j < kk → ccAt l j = 0))
 case atStart => exact ⟨0, Nat.zero_le _, by omega, rfl, HB0.out, fun j hj => absurd hj (Nat.not_lt_zero _)⟩
 case round =>
  obtain ⟨kk, hkk, hg, rfl, BW, A⟩ := hrel
  have HBW := Lib.hid BW.out
  have HA := Lib.hid A.out
  have hszw := HBW.out.size
  clear BW A HB0
  by_cases hlt : kk < l.length
  ·have hltz : (kk : Int) < (l.length : Int) := by omega
   obtain ⟨x, hx⟩ : ∃ x, l[kk]? = some x := ⟨l[kk], by simp [hlt]⟩
   obtain ⟨b, off, rfl, hc⟩ := HEL.out kk x hx
   have hlt0 := World.block_lt_of_cell? w ⟨b, off + kk * 4 + 0, none⟩ (hc 0 _ rfl)
   have c0 : wr.cell? ⟨b, off + kk * 4, none⟩ = some (.string x.na) := (HBW.out.cell (p := ⟨b, off + kk * 4 + 0, none⟩) hlt0).trans (hc 0 _ rfl)
   have c1 : wr.cell? ⟨b, off + kk * 4 + 1, none⟩ = some (.string x.pa) := (HBW.out.cell (p := ⟨b, off + kk * 4 + 1, none⟩) hlt0).trans (hc 1 _ rfl)
   have c2 : wr.cell? ⟨b, off + kk * 4 + 2, none⟩ = some (.int .i64 x.de) := (HBW.out.cell (p := ⟨b, off + kk * 4 + 2, none⟩) hlt0).trans (hc 2 _ rfl)
   have c3 : wr.cell? ⟨b, off + kk * 4 + 3, none⟩ = some (.int .i64 x.ro) := (HBW.out.cell (p := ⟨b, off + kk * 4 + 3, none⟩) hlt0).trans (hc 3 _ rfl)
   have hwf := HW.out x (List.mem_of_getElem? hx)
   have HNM := Lib.hid (fun W => isName5_any x.na W hwf.1)
   obtain ⟨tw, htw⟩ : ∃ tw, tw = hasC (l.take kk) x.na := ⟨_, rfl⟩
   obtain ⟨hp, hhp⟩ : ∃ tw, tw = hasC (l.take kk) x.pa := ⟨_, rfl⟩
   have hat : Hid (ccAt l kk = ccOf x tw hp) := Lib.hid (by rw [ccAt, getD_of hx, htw, hhp])
   have hS : Hid (∀ z, ccOf x tw hp = z → z ≠ 0 → z = F) := Lib.hid (fun z h hz => by
    rw [HF.out, FF_hit hlt HA.out (by rw [hat.out, h]; exact hz), hat.out, h])
   have hC0 : Hid (ccOf x tw hp = if (!nameB x.na) = true then 5 else if tw = true then 7 else if (parB x hp) = true then 9 else if (outB x.de 1 100000 || outB x.ro 0 1000000000000) = true then 1 else 0) := Lib.hid rfl
   have HI1 := Lib.hid (cofI_has (l.take kk) x.na)
   have HI2 := Lib.hid (cofI_has (l.take kk) x.pa)
   rw [← htw] at HI1
   rw [← hhp] at HI2
   have HCO := Lib.hid (fun (W : World) (n : ByteArray) (h : Below w.heap.size w W) => cacheOf_any W (l.take kk) _ n ((HL.out.below h (Nat.le_refl _)).take rfl kk hkk))
   obtain ⟨I1, hI1⟩ : ∃ I, I = cofI (l.take kk) x.na := ⟨_, rfl⟩
   obtain ⟨I2, hI2⟩ : ∃ I, I = cofI (l.take kk) x.pa := ⟨_, rfl⟩
   rw [← hI1] at HI1
   rw [← hI2] at HI2
   have hb5 := HBW.out.alloc hszw (.cells #[.string x.na, .string x.pa, .int .i64 x.de, .int .i64 x.ro] 47)
   have hx5 : (wr.alloc (.cells #[.string x.na, .string x.pa, .int .i64 x.de, .int .i64 x.ro] 47)).heap[wr.heap.size]? = some (.cells #[.string x.na, .string x.pa, .int .i64 x.de, .int .i64 x.ro] 47 (0, 0)) := block_new wr _
   obtain ⟨w5, hw5⟩ : ∃ w5, w5 = wr.alloc (.cells #[.string x.na, .string x.pa, .int .i64 x.de, .int .i64 x.ro] 47) := ⟨_, rfl⟩
   have hs5 : w5.heap.size = wr.heap.size + 1 := by rw [hw5]; simp
   rw [← hw5] at hb5 hx5
   have HB5 := Lib.hid hb5
   have HX5 := Lib.hid hx5
   have HC1 : Hid (∀ W, Below w5.heap.size w5 W → Calls Tryz.prog 43 #[.slice (some ⟨b, off, none⟩) kk cap, .string x.na] W fun e w' => e = .returned (.int .i64 I1) ∧ Below W.heap.size W w') := Lib.hid (fun W h => by rw [hI1]; exact HCO.out W x.na (HB5.out.trans (h.mono HB5.out.size)))
   have HC2 : Hid (∀ W, Below w5.heap.size w5 W → Calls Tryz.prog 43 #[.slice (some ⟨b, off, none⟩) kk cap, .string x.pa] W fun e w' => e = .returned (.int .i64 I2) ∧ Below W.heap.size W w') := Lib.hid (fun W h => by rw [hI2]; exact HCO.out W x.pa (HB5.out.trans (h.mono HB5.out.size)))
   obtain ⟨nb, hnb⟩ : ∃ nb, nb = nameB x.na := ⟨_, rfl⟩
   rw [← hnb] at HNM hC0
   have HW5 := Lib.hid hw5
   have hkz : (kk : Int) ≤ (l.length : Int) := by omega
   have hkc : (kk : Int) ≤ (cap : Int) := by omega
   clear hx hc htw hhp hx5 HCO hb5 hw5 hnb hI1 hI2
   go_upto_region 8 with (fail)
   rw [← HW5.out]
   obtain ⟨g, hgq⟩ : ∃ g, g = wr.heap.size := ⟨_, rfl⟩
   rw [← hgq] at HX5 hs5 ⊢
   have hg5 : g < w5.heap.size := by omega
   have y0 := (cell_of_block (i := 0) HX5.out).trans rfl
   have y1 := (cell_of_block (i := 1) HX5.out).trans rfl
   have y2 := (cell_of_block (i := 2) HX5.out).trans rfl
   have y3 := (cell_of_block (i := 3) HX5.out).trans rfl
   clear c0 c1 c2 c3 hgq HW5 hs5
   cases nb
   case false =>
    have hv : Hid (5 = F) := Lib.hid (hS.out 5 (by rw [hC0.out]; rfl) (by decide))
    go_wp2_with fail
    refine (HNM.out _).mono ?_
    rintro e w6 ⟨rfl, rfl⟩
    go_wp2
    go_ret
    exact ⟨ret_int hv.out, HB5.out⟩
   go_wp2_with fail
   refine (HNM.out _).mono ?_
   rintro e w6 ⟨rfl, rfl⟩
   have hC1 : Hid (ccOf x tw hp = if tw = true then 7 else if (parB x hp) = true then 9 else if (outB x.de 1 100000 || outB x.ro 0 1000000000000) = true then 1 else 0) := Lib.hid (by rw [hC0.out]; rfl)
   clear hC0
   go_upto_region 10 with (fail)
   go_cut [23] (fun s23 w6 => s23 = .bool tw ∧ Aside (Below w5.heap.size w5 w6))
   case first =>
    cases tw
    case true =>
     have hI : (0 : Int) ≤ I1 := of_decide_eq_true HI1.out
     go_region_with (first | (go_at_call 43; refine (HC1.out _ (below_drewN (Below.refl _ w5) 1)).mono ?_; rintro e w' ⟨rfl, hb⟩))
     all_goals
      have HBQ := Lib.hid ((below_drewN (Below.refl _ w5) 1).trans hb)
      clear hb
      go_wp2_with fail
      go_meet
      exact ⟨rfl, HBQ.out⟩
    case false =>
     have hI : ¬ (0 : Int) ≤ I1 := of_decide_eq_false HI1.out
     go_region_with (first | (go_at_call 43; refine (HC1.out _ (below_drewN (Below.refl _ w5) 1)).mono ?_; rintro e w' ⟨rfl, hb⟩))
     all_goals
      have HBQ := Lib.hid ((below_drewN (Below.refl _ w5) 1).trans hb)
      clear hb
      go_wp2_with fail
      go_meet
      exact ⟨by first | rfl | (simp; omega), HBQ.out⟩
   obtain ⟨rfl, B6⟩ := hcut
   obtain ⟨w6, rfl⟩ : ∃ w6, w6 = wc := ⟨_, rfl⟩
   have hb6 := B6.out
   have HB6 := Lib.hid (HB5.out.trans (hb6.mono HB5.out.size))
   have z1 := (hb6.cell (p := ⟨g, 1, none⟩) hg5).trans y1
   have z2 := (hb6.cell (p := ⟨g, 2, none⟩) hg5).trans y2
   have z3 := (hb6.cell (p := ⟨g, 3, none⟩) hg5).trans y3
   have HC26 := Lib.hid (fun W (h : Below w6.heap.size w6 W) => HC2.out W (hb6.trans (h.mono hb6.size)))
   have hg6 : g < w6.heap.size := Nat.lt_of_lt_of_le hg5 hb6.size
   clear hb6 y0 y1 y2 y3 HC1 HC2 HX5 B6 HI1
   cases tw
   case true =>
    have hv : Hid (7 = F) := Lib.hid (hS.out 7 (by rw [hC1.out]; rfl) (by decide))
    go_wp2_with fail
    go_ret
    exact ⟨ret_int hv.out, HB6.out⟩
   have hC2 : Hid (ccOf x false hp = if (parB x hp) = true then 9 else if (outB x.de 1 100000 || outB x.ro 0 1000000000000) = true then 1 else 0) := Lib.hid (by rw [hC1.out]; rfl)
   clear hC1
   obtain ⟨PB, hPB⟩ : ∃ PB, PB = parB x hp := ⟨_, rfl⟩
   rw [← hPB] at hC2
   have HPB := Lib.hid hPB
   clear hPB
   go_upto_region 12 with (fail)
   go_cut [31] (fun s31 w7 => s31 = .bool PB ∧ Aside (Below w6.heap.size w6 w7))
   case first =>
    by_cases hpe : x.pa = ⟨#[]⟩
    ·have hv : Hid (PB = false) := Lib.hid (by rw [HPB.out]; simp [parB, hpe])
     rw [hpe] at z1
     clear hpe
     have hund : undef = Value.tuple #[] := rfl
     go_quiet (fail)
     clear hund
     go_wp2_with fail
     go_meet
     exact ⟨by rw [hv.out], below_drewN (Below.refl _ _) _⟩
    ·have hv : Hid (PB = !hp) := Lib.hid (by rw [HPB.out]; simp [parB, hpe])
     obtain ⟨f1, f2, f3⟩ := str_emp hpe
     clear hpe
     cases hp
     case true =>
      have hI : (0 : Int) ≤ I2 := of_decide_eq_true HI2.out
      have hI3 : ¬ I2 < 0 := by omega
      go_region_with (first | (go_at_call 43; refine (HC26.out _ (below_drewN (Below.refl _ w6) 1)).mono ?_; rintro e w' ⟨rfl, hb⟩))
      all_goals
       have HBQ := Lib.hid ((below_drewN (Below.refl _ w6) 1).trans hb)
       clear hb
       go_wp2_with fail
       go_meet
       exact ⟨by rw [hv.out]; first | rfl | (simp; omega), HBQ.out⟩
     case false =>
      have hI : ¬ (0 : Int) ≤ I2 := of_decide_eq_false HI2.out
      have hI3 : I2 < 0 := by omega
      go_region_with (first | (go_at_call 43; refine (HC26.out _ (below_drewN (Below.refl _ w6) 1)).mono ?_; rintro e w' ⟨rfl, hb⟩))
      all_goals
       have HBQ := Lib.hid ((below_drewN (Below.refl _ w6) 1).trans hb)
       clear hb
       go_wp2_with fail
       go_meet
       exact ⟨by rw [hv.out]; first | rfl | (simp; omega), HBQ.out⟩
   obtain ⟨rfl, B7⟩ := hcut
   obtain ⟨w7, rfl⟩ : ∃ w7, w7 = wc := ⟨_, rfl⟩
   have HB7 := Lib.hid (HB6.out.trans (B7.out.mono HB6.out.size))
   have u2 := (B7.out.cell (p := ⟨g, 2, none⟩) hg6).trans z2
   have u3 := (B7.out.cell (p := ⟨g, 3, none⟩) hg6).trans z3
   clear B7 z1 z2 z3 HC26 HPB
   cases PB
   case true =>
    have hv : Hid (9 = F) := Lib.hid (hS.out 9 (by rw [hC2.out]; rfl) (by decide))
    go_wp2_with fail
    go_ret
    exact ⟨ret_int hv.out, HB7.out⟩
   have hC3 : Hid (ccOf x false hp = if (outB x.de 1 100000 || outB x.ro 0 1000000000000) = true then 1 else 0) := Lib.hid (by rw [hC2.out]; rfl)
   clear hC2
   go_upto_region 14 with (fail)
   go_cut [44] (fun s44 w8 => s44 = .bool (outB x.de 1 100000 || outB x.ro 0 1000000000000) ∧ w7 = w8)
   case first =>
    cases o0 : outB x.de 1 100000
    case true =>
     go_wp2_with (go_at_call 44; refine (withinE_any _ _ _ _).mono ?_; rintro e w' ⟨rfl, rfl⟩)
     go_meet
     exact ⟨by simp [*], rfl⟩
    case false =>
     go_wp2_with (go_at_call 44; refine (withinE_any _ _ _ _).mono ?_; rintro e w' ⟨rfl, rfl⟩)
     go_meet
     exact ⟨by simp [*], rfl⟩
   obtain ⟨rfl, rfl⟩ := hcut
   generalize hO : (outB x.de 1 100000 || outB x.ro 0 1000000000000) = O at hC3 ⊢
   clear hO u2 u3
   cases O
   case true =>
    have hv : Hid (1 = F) := Lib.hid (hS.out 1 (by rw [hC3.out]; rfl) (by decide))
    go_wp2_with fail
    go_ret
    exact ⟨ret_int hv.out, HB7.out⟩
   have hz : Hid (ccAt l kk = 0) := Lib.hid (by rw [hat.out, hC3.out]; rfl)
   go_wp2_with fail
   go_roundg (l.length - (kk + 1))
   case measure => omega
   case rel =>
    refine ⟨kk + 1, by omega, by omega, by go_num, HB7.out, (show Aside _ from fun j hj => ?_)⟩
    by_cases e : j = kk
    ·rw [e, hz.out]
    ·exact HA.out j (by omega)
  ·obtain rfl : kk = l.length := by omega
   have hltz : ¬ (l.length : Int) < (l.length : Int) := by omega
   have hz : Hid (0 = F) := Lib.hid (by rw [HF.out, FF_zero HA.out])
   go_wp2_with fail
   go_ret
   exact ⟨ret_int hz.out, HBW.out⟩
structure StX (w : World) (B : Nat) (A0 : Rdr) (xs : List (Nat × Obj)) (W : World) (A : Rdr) (X : Xd) : Prop where
 rd : RD W B A X
 le : RdrLe { A0 with x := xs } A
 be : Below B w W
def NumS (o : List (Nat × Obj)) (v : Value) (l : List Nat) : Prop := ∀ W : World, (∀ p, p ∈ o → W.heap[p.1]? = some p.2) → Sl W 1 encJ v l
section
variable {w0 w W W' : World} {B : Nat} {A0 A : Rdr} {X : Xd} {xs : List (Nat × Obj)}
theorem StX.qb (h : StX w B A0 xs W A X) : W.heap[A0.q]? = some (.cells #[A0.d0, A0.d1, A0.d2, A0.d3, A0.gt, .int .i64 (X.nx : Nat), .int .i64 (X.pg : Nat), A.kv, A0.hh, A0.gv, A0.lv, .int .i64 X.no] 88 (0, 0)) := by
 have e := h.rd.qb.2
 unfold cellsR at e
 rw [h.le.q, h.le.d0, h.le.d1, h.le.d2, h.le.d3, h.le.gt, h.le.hh, h.le.gv, h.le.lv] at e
 exact e
theorem StX.aq (h : StX w B A0 xs W A X) : A.q = A0.q := h.le.q
theorem StX.ql (h : StX w B A0 xs W A X) : A0.q < W.heap.size := (Array.getElem?_eq_some_iff.1 h.qb).1
theorem StX.all (h : StX w B A0 xs W A X) : ∀ p, p ∈ xs → W.heap[p.1]? = some p.2 := fun p hp => by
 obtain ⟨i, hi, e⟩ := List.mem_iff_getElem.1 hp
 refine h.rd.fr (k := i) (b := p.1) (o := p.2) ?_
 rw [h.le.x]
 show xs[i]? = some (p.1, p.2)
 rw [List.getElem?_eq_getElem hi, e]
theorem StX.below (h : StX w B A0 xs W A X) (hb : Below W.heap.size W W') : StX w B A0 xs W' A X := ⟨h.rd.below hb, h.le, h.be.trans (hb.mono h.rd.base)⟩
theorem StX.add (h : StX w B A0 xs W A X) (o : Obj) : StX w B A0 (xs ++ [(W.heap.size, o)]) (W.alloc o) { A with x := A.x ++ [(W.heap.size, o)] } X :=
 ⟨h.rd.addFr o, ⟨h.le.q, h.le.d0, h.le.d1, h.le.d2, h.le.d3, h.le.gt, h.le.hh, h.le.gv, h.le.lv, by show A.x ++ _ = xs ++ _; rw [h.le.x]⟩, h.be.trans ((Below.refl _ W).alloc h.rd.base o)⟩
theorem StX.drop {ys : List (Nat × Obj)} (h : StX w B A0 (xs ++ ys) W A X) : StX w B A0 xs W { A with x := xs } X :=
 ⟨h.rd.dropFr ⟨ys, h.le.x⟩, ⟨h.le.q, h.le.d0, h.le.d1, h.le.d2, h.le.d3, h.le.gt, h.le.hh, h.le.gv, h.le.lv, rfl⟩, h.be⟩
theorem StX.env (h : StX w B A0 xs W A X) {C : List Cch} {R : List Crl} {E : List Rel} {P : List Pur} {L : List Gt} (hE : EnvR w0 B A0 C R E P L) : EnvR w0 B A C R E P L := hE.x h.le
theorem RD.addBlk (h : RD W B A X) {g : Nat} {o : Obj} (hg : W.heap.size ≤ g) (ho : W'.heap[g]? = some o) (hb : Below W.heap.size W W') : RD W' B { A with x := A.x ++ [(g, o)] } X := by
 obtain ⟨M, h1, h2⟩ := h
 refine ⟨_, h1.put hb.size (r := 7 + 3 * A.x.length) (Nat.le_trans h1.base hg) ho (fun q b p _ hq => ⟨hb.block b (h1.lt hq), Nat.ne_of_lt (Nat.lt_of_lt_of_le (h1.lt hq) hg)⟩), ?_⟩
 exact {
  wl := by rw [upM_other _ _ (by omega)]; exact h2.wl
  ak := by rw [upM_other _ _ (by omega)]; exact h2.ak
  hs := by rw [upM_other _ _ (by omega)]; exact h2.hs
  go := by rw [upM_other _ _ (by omega)]; exact h2.go
  ld := by rw [upM_other _ _ (by omega)]; exact h2.ld
  he := fun i v hv => by rw [upM_other _ _ (by omega)]; exact h2.he i v hv
  wa := fun j p hp => by rw [upM_other _ _ (by omega)]; exact h2.wa j p hp
  fx := fun k b p hx => by
   by_cases e : k = A.x.length
   ·subst e
    have hx' : (A.x ++ [(g, o)])[A.x.length]? = some (b, p) := hx
    rw [List.getElem?_append_right (Nat.le_refl _)] at hx'
    simp at hx'
    rw [upM_same, hx'.1, hx'.2]
   ·have hx' : (A.x ++ [(g, o)])[k]? = some (b, p) := hx
    have hk := (List.getElem?_eq_some_iff.1 hx').1
    simp at hk
    rw [List.getElem?_append_left (by omega)] at hx'
    rw [upM_other _ _ (by omega)]
    exact h2.fx k b p hx'
  ka := h2.ka
  hl := h2.hl }
theorem StX.num (h : StX w B A0 xs W A X) {v : Value} {l : List Nat} {N : Nat} (ho : Own W' N 3 1 encJ v l) (hN : W.heap.size ≤ N) (hb : Below W.heap.size W W') : ∃ o A', StX w B A0 (xs ++ o) W' A' X ∧ NumS o v l := by
 rcases OwnM.of_own ho with ⟨rfl, h1⟩ | ⟨g, o, cap, rfl, hg, hh, h1⟩
 ·refine ⟨[], A, by rw [List.append_nil]; exact h.below hb, fun V _ => ?_⟩
  rcases h1 with ⟨_, rfl, _⟩ | ⟨_, _, _, _, e, _⟩
  ·exact (Own.nil (w := V) (base := 0) (E := 3) (k := 1) (enc := encJ)).sl encJ_len
  ·cases e
 ·refine ⟨[(g, o)], { A with x := A.x ++ [(g, o)] }, ⟨h.rd.addBlk (Nat.le_trans hN hg) hh hb, ⟨h.le.q, h.le.d0, h.le.d1, h.le.d2, h.le.d3, h.le.gt, h.le.hh, h.le.gv, h.le.lv, by show A.x ++ _ = xs ++ _; rw [h.le.x]⟩, h.be.trans (hb.mono h.rd.base)⟩, fun V hV => ?_⟩
  rcases h1 with ⟨e, _⟩ | ⟨g', cap', cur, e1, e2, r⟩
  ·cases e
  ·cases e1
   cases e2
   exact Own.sl (base := 0) (E := 3) ⟨flatMap_len encJ_len l, .inr ⟨_, _, cur, rfl, Nat.zero_le _, hV _ (List.mem_singleton.2 rfl), r⟩⟩ encJ_len
theorem StX.setDay (h : StX w B A0 xs W A X) (k : Nat) (v : Value) (X' : Xd) (hc : (cellsR A X).setIfInBounds k v = cellsR A X') (e1 : X'.ak = X.ak) (e2 : X'.he = X.he) (e3 : X'.go = X.go) (e4 : X'.ld = X.ld) : StX w B A0 xs (W.setCell ⟨A0.q, k, none⟩ v) A X' := by
 have h1 := h.rd.setDay k v X' hc e1 e2 e3 e4
 have hq := h.rd.qb.1
 rw [h.aq] at h1 hq
 exact ⟨h1, h.le, h.be.setCell hq _⟩
theorem StX.setA (h : StX w B A0 xs W A X) {j g n cap : Nat} (hj : j < X.ak.length) (hg : A.kv = .slice (some ⟨g, 0, none⟩) n cap) (hn : n = A.ks.length) (hgb : B ≤ g) (c : Nat) (u : Value) (k' : Xk) (hk : k'.ws = (X.K j).ws) (hc : c < 14) (he : ∀ v, encK (k', v) = (encK (X.K j, v)).set c u) : ∃ A', StX w B A0 xs (W.setCell ⟨g, j * 14 + c, none⟩ u) A' (X.setA j k') ∧ A'.ks.map Prod.snd = A.ks.map Prod.snd := by
 obtain ⟨v, hv⟩ := h.rd.at_ hj
 have ho : Own (W.setCell ⟨g, j * 14 + c, none⟩ u) B 171 14 encK A.kv (A.ks.set j (k', v)) := by
  have h1 := h.rd.asks
  rw [hg] at h1 ⊢
  exact Own.store encK_len h1 hn hv hc (he v)
 refine ⟨{ A with ks := A.ks.set j (k', v) }, ⟨h.rd.setK (k' := k') hg hv hk ho (Onl.set g W _ _), ⟨h.le.q, h.le.d0, h.le.d1, h.le.d2, h.le.d3, h.le.gt, h.le.hh, h.le.gv, h.le.lv, h.le.x⟩, h.be.setCell hgb _⟩, ?_⟩
 show (A.ks.set j _).map Prod.snd = _
 exact map_set_same hv rfl
theorem StX.setL (h : StX w B A0 xs W A X) {i g cap : Nat} (hil : i < X.ld.length) (hg : A0.lv = .slice (some ⟨g, 0, none⟩) X.ld.length cap) (hgb : B ≤ g) (k : Nat) (u : Value) (f : Ldd → Ldd) (hk : k < 6) (he : encD (f (X.Ld i)) = (encD (X.Ld i)).set k u) : StX w B A0 xs (W.setCell ⟨g, i * 6 + k, none⟩ u) A (X.setL i f) :=
 ⟨h.rd.stL hil (by rw [h.le.lv]; exact hg) k u f hk he, h.le, h.be.setCell hgb _⟩
theorem StX.putRow (h : StX w B A0 xs W A X) {i : Nat} {v v' : Value} (hv : A.hs[i]? = some v) {sb n c : Nat} (hg : A0.hh = .slice (some ⟨sb, 0, none⟩) n c) (hn : n = A.hs.length) (hgb : B ≤ sb) {l' : List Xh} (hrow : RowR W.heap.size v (X.H i) W' v' l') (hb : Below W.heap.size W W') : ∃ A', StX w B A0 xs (W'.setCell ⟨sb, i, none⟩ v') A' (X.setH i l') := by
 obtain ⟨A', h1, h2⟩ := h.rd.putRow hv (by rw [h.le.hh]; exact hg) hn hrow hb
 exact ⟨A', h1, h.le.trans h2, (h.be.trans (hb.mono h.rd.base)).setCell hgb _⟩
end
section
variable {w0 w W W' : World} {B : Nat} {A0 A : Rdr} {X : Xd} {xs : List (Nat × Obj)} {C : List Cch} {R : List Crl} {E : List Rel} {P : List Pur} {L : List Gt}
theorem ComeP.st (h : StX w B A0 xs W A X) {X' : Xd} {e : Ending} (hp : ComeP W B A X' e W') : ∃ A', e = .returned (.tuple #[]) ∧ StX w B A0 xs W' A' X' := by
 obtain ⟨A', h1, h2, h3, h4⟩ := hp
 exact ⟨A', h1, h2, h.le.trans h3, h.be.trans h4⟩
theorem come_st (h : StX w B A0 xs W A X) (hE : EnvR w0 B A0 C R E P L) (hw : Below w0.heap.size w0 w) (i : Nat) (key : ByteArray) (ge : Nat) (ak : Option Nat) (hR : ComeR C R P X i key ge ak) :
 Calls Tryz.prog 104 #[.pointer (some ⟨A0.q, 0, none⟩), .int .i64 (i : Nat), .string key, .int .i64 (wgI ⟨ge, ak, 3⟩), .int .i64 (waI ⟨ge, ak, 3⟩)] W fun e w' => ∃ A', e = .returned (.tuple #[]) ∧ StX w B A0 xs w' A' (X.comeX C R P i key ge ak) := by
 have h1 := comeX_any w0 W B A X h.rd C R E P L (h.env hE) (hw.trans (h.be.mono hE.b)) i key ge ak hR
 rw [h.aq] at h1
 exact h1.mono fun e w' hp => ComeP.st h hp
theorem keep_st (h : StX w B A0 xs W A X) (hE : EnvR w0 B A0 C R E P L) (hw : Below w0.heap.size w0 w) (i : Nat) (key : ByteArray) (a : Ans) (hR : KeepR C R P X i key a) :
 Calls Tryz.prog 103 #[.pointer (some ⟨A0.q, 0, none⟩), .int .i64 (i : Nat), .string key, .agg #[.int .i64 a.ve, .int .i64 a.bo, .int .i64 a.si, .string a.fr]] W fun e w' => ∃ A', e = .returned (.tuple #[]) ∧ StX w B A0 xs w' A' (X.keepX C R P i key a) := by
 have h1 := keepX_any w0 W B A X h.rd C R E P L (h.env hE) (hw.trans (h.be.mono hE.b)) i key a hR
 rw [h.aq] at h1
 exact h1.mono fun e w' hp => ComeP.st h hp
theorem give_st (h : StX w B A0 xs W A X) (hE : EnvR w0 B A0 C R E P L) (hw : Below w0.heap.size w0 w) (wt : Xw) (a : Ans) (hg : wt.ak = none → wt.ge < X.go.length) (hj : ∀ j, wt.ak = some j → j < X.ak.length ∧ (X.K j).ca < C.length) (hno : 0 ≤ X.no ∧ X.no ≤ 1000000000000000) (hde : ∀ i, i < C.length → 0 ≤ deO C i ∧ deO C i ≤ 1000000) :
 Calls Tryz.prog 102 #[.pointer (some ⟨A0.q, 0, none⟩), .agg #[.int .i64 (wgI wt), .int .i64 wt.ho, .int .i64 (waI wt)], .agg #[.int .i64 a.ve, .int .i64 a.bo, .int .i64 a.si, .string a.fr]] W fun e w' => ∃ A', e = .returned (.tuple #[]) ∧ StX w B A0 xs w' A' (X.giveX C wt a) ∧ A'.ks.map Prod.snd = A.ks.map Prod.snd := by
 have h1 := giveXW_any w0 W B A X h.rd C R E P L (h.env hE) (hw.trans (h.be.mono hE.b)) wt a hg hj hno hde
 rw [h.aq] at h1
 refine h1.mono ?_
 rintro e w' ⟨A', rfl, g1, g2, g3, -, g4⟩
 exact ⟨A', rfl, ⟨g1, h.le.trans g2, h.be.trans g4⟩, g3⟩
theorem origin_st (h : StX w B A0 xs W A X) (hE : EnvR w0 B A0 C R E P L) (hw : Below w0.heap.size w0 w) (j : Nat) (hj : j < X.ak.length) (hca : (X.K j).ca < C.length) (hno : 0 ≤ X.no ∧ X.no ≤ 1000000000000000) (hde : ∀ i, i < C.length → 0 ≤ deO C i ∧ deO C i ≤ 1000000) :
 Calls Tryz.prog 105 #[.pointer (some ⟨A0.q, 0, none⟩), .int .i64 (j : Nat)] W fun e w' => ∃ A', e = .returned (.tuple #[]) ∧ StX w B A0 xs w' A' (X.giveX C ⟨0, some j, 0⟩ (oriM E (X.K j).ke X.no)) := by
 have h1 := originX_any w0 W B A X h.rd C R E P L (h.env hE) (hw.trans (h.be.mono hE.b)) j hj hca hno hde
 rw [h.aq] at h1
 refine h1.mono ?_
 rintro e w' ⟨A', rfl, g1, g2, -, -, g4⟩
 exact ⟨A', rfl, g1, h.le.trans g2, h.be.trans g4⟩
theorem place_st (h : StX w B A0 xs W A X) (i : Nat) (key : ByteArray) (hi : i < X.he.length) :
 Calls Tryz.prog 98 #[.pointer (some ⟨A0.q, 0, none⟩), .int .i64 (i : Nat), .string key] W fun e w' => e = .returned (.int .i64 (numO (plI (X.H i) key))) ∧ Below W.heap.size W w' := by
 have h1 := placeX_any W B A X h.rd i key hi
 rw [h.aq] at h1
 exact h1
theorem order_st (h : StX w B A0 xs W A X) (l : List Nat) (v : Value) (hl : Sl W 1 encJ v l) (hin : ∀ j, j ∈ l → j < X.ak.length) (hlen : l.length ≤ 1000000) :
 Calls Tryz.prog 101 #[.pointer (some ⟨A0.q, 0, none⟩), v] W (OwnRet W 3 1 encJ (ordA X l)) := by
 have h1 := orderX_any W B A X h.rd l v hl hin hlen
 rw [h.aq] at h1
 exact h1
theorem comeR_of {pd : List Xw} {n i : Nat} {key : ByteArray} {ge : Nat} {ak : Option Nat} (hv : Val C R E P L) (hx : XInv C P L pd X) (hc : Cap n X) (hn : n ≤ 61200) (hi : i < C.length) (hg : ak = none → ge < X.go.length) (hj : ∀ j, ak = some j → j < X.ak.length) : ComeR C R P X i key ge ak := by
 obtain ⟨⟨l1, l2, l3⟩, l4, l5, -⟩ := hc.ld i
 have hno := hx.no
 exact {
  ci := hi
  il := by rw [hx.le.2.1]; exact hi
  ih := by rw [hx.le.1]; exact hi
  no := by omega
  de := val_de hv
  ld := by refine ⟨?_, ?_, ?_, ?_, ?_⟩ <;> omega
  al := by have := hc.ak; omega
  g := hg
  j := fun j h => ⟨hj j h, (hx.kk j _ (Xd.at_ (hj j h))).1⟩
  wl := fun j h1 h2 => by have := wait_le h1 h2; have := hc.wt; omega
  nd := (hx.held i).1
  an := fun h hh => ((hx.held i).2 h hh).2
  pb := fun k => val_pb hv k X.no
  R := hv.rb }
theorem keepR_of {pd : List Xw} {n i : Nat} {key : ByteArray} {a : Ans} (hv : Val C R E P L) (hx : XInv C P L pd X) (hc : (X.H i).length ≤ n) (hn : n ≤ 61200) (hi : i < C.length) (ha : AnsOk a) (hru : (ruI R key R.length).isSome = true) : KeepR C R P X i key a :=
 { ci := hi
   ih := by rw [hx.le.1]; exact hi
   rb := hv.rb
   ru := hru
   pb := val_pb hv key X.no
   a := ha
   nd := (hx.held i).1
   an := fun h hh => ((hx.held i).2 h hh).2
   le := by omega
   ro := (hv.cd i (C.getD i default) (by rw [List.getD_eq_getElem?_getD, List.getElem?_eq_getElem hi]; rfl)).2 }
theorem Cap.came {n j : Nat} (h : Cap n X) (hj : j < X.ak.length) : Cap n (X.cameX j) := by
 have hc : Lf X (X.cameX j) true (2 * (X.K j).ca + 1) 0 := Lf.setA (k' := { X.K j with cm := true }) hj (by unfold wK; simp; exact Nat.le_trans (Nat.le_add_left _ _) (Nat.le_add_right _ _)) (Nat.le_refl _) (fun h => h)
 exact ⟨by show (X.ak.set _ _).length ≤ n; rw [List.length_set]; exact h.ak, by have := hc.wt; have := h.wt; omega, h.he, h.ld.of rfl⟩
theorem come_nx {i n : Nat} {key : ByteArray} {ge : Nat} {ak : Option Nat} : ({ X with nx := n } : Xd).comeX C R P i key ge ak = { X.comeX C R P i key ge ak with nx := n } := by
 have hg : ∀ (Y : Xd) (v : Xw) (a : Ans), ({ Y with nx := n } : Xd).giveX C v a = { Y.giveX C v a with nx := n } := fun Y v a => by
  unfold Xd.giveX
  cases v.ak <;> rfl
 have hW : ({ X with nx := n } : Xd).wayX i key (purM P key X.no) = X.wayX i key (purM P key X.no) := rfl
 unfold Xd.comeX
 by_cases h1 : (ruI R key R.length).isSome = false
 ·rw [if_pos h1, if_pos h1]; rfl
 ·rw [if_neg h1, if_neg h1]
  by_cases h2 : onH (X.H i) key = true ∧ X.no < untM (rulO R key) (hmOf (X.H i) key).an true
  ·show (if onH (X.H i) key = true ∧ X.no < untM (rulO R key) (hmOf (X.H i) key).an true then _ else _) = _
   rw [if_pos h2]
   try rw [if_pos h2]
   by_cases h3 : X.no < untM (rulO R key) (hmOf (X.H i) key).an false
   ·show (if X.no < untM (rulO R key) (hmOf (X.H i) key).an false then _ else _) = _
    rw [if_pos h3]
    try rw [if_pos h3]
    exact hg (((X.setL i ldCa).setL i ldFr).setH i (useH (X.H i) key X.no)) ⟨ge, ak, 1⟩ { (hmOf (X.H i) key).an with fr := (C.getD i default).na }
   ·show (if X.no < untM (rulO R key) (hmOf (X.H i) key).an false then _ else _) = _
    rw [if_neg h3]
    try rw [if_neg h3]
    show (match X.wayX i key (purM P key X.no) with | some _ => _ | none => _) = _
    cases X.wayX i key (purM P key X.no)
    ·exact hg ((((X.setL i ldCa).setL i ldSl).setH i (useH (X.H i) key X.no)).startX C i key false []) ⟨ge, ak, 2⟩ { (hmOf (X.H i) key).an with fr := (C.getD i default).na }
    ·exact hg (((X.setL i ldCa).setL i ldSl).setH i (useH (X.H i) key X.no)) ⟨ge, ak, 2⟩ { (hmOf (X.H i) key).an with fr := (C.getD i default).na }
  ·show (if onH (X.H i) key = true ∧ X.no < untM (rulO R key) (hmOf (X.H i) key).an true then _ else _) = _
   rw [if_neg h2]
   try rw [if_neg h2]
   show (match X.wayX i key (purM P key X.no) with | some j => _ | none => _) = _
   cases X.wayX i key (purM P key X.no) <;> rfl
def purN (X : Xd) (key : ByteArray) : Nat → Xd
 | 0 => X
 | c + 1 => (purN X key c).setH c (delH ((purN X key c).H c) key)
theorem purN_same {key : ByteArray} : ∀ (c : Nat), (purN X key c).ak = X.ak ∧ (purN X key c).go = X.go ∧ (purN X key c).ld = X.ld ∧ (purN X key c).no = X.no ∧ (purN X key c).nx = X.nx ∧ (purN X key c).pg = X.pg ∧ (purN X key c).he.length = X.he.length ∧ ∀ m, c ≤ m → (purN X key c).H m = X.H m
 | 0 => ⟨rfl, rfl, rfl, rfl, rfl, rfl, rfl, fun _ _ => rfl⟩
 | c + 1 => by
  obtain ⟨h1, h2, h3, h4, h5, h6, h7, h8⟩ := purN_same (key := key) c
  refine ⟨h1, h2, h3, h4, h5, h6, ?_, fun m hm => ?_⟩
  ·show ((purN X key c).he.set c _).length = _
   rw [List.length_set]; exact h7
  ·rw [← h8 m (by omega)]
   show ((purN X key c).he.set c _).getD m [] = (purN X key c).he.getD m []
   rw [List.getD_eq_getElem?_getD, List.getElem?_set_ne (by omega), ← List.getD_eq_getElem?_getD]
theorem purN_he {key : ByteArray} : ∀ {c : Nat}, c ≤ X.he.length → (purN X key c).he = (X.he.take c).map (fun l => delH l key) ++ X.he.drop c
 | 0, _ => rfl
 | c + 1, hc => by
  have ih := purN_he (key := key) (c := c) (by omega)
  have hx := List.getElem?_eq_getElem (show c < X.he.length by omega)
  have hH : (purN X key c).H c = X.he[c] := by rw [(purN_same c).2.2.2.2.2.2.2 c (Nat.le_refl _)]; exact Xd.H_eq hx
  show (purN X key c).he.set c (delH ((purN X key c).H c) key) = _
  rw [hH, ih, List.set_append_right _ _ (by rw [List.length_map, List.length_take]; omega), List.length_map, List.length_take, Nat.min_eq_left (by omega), Nat.sub_self, List.drop_eq_getElem_cons (by omega), List.set_cons_zero, List.take_add_one, hx, List.map_append, List.append_assoc]
  rfl
theorem purN_all {key : ByteArray} : { purN X key X.he.length with pg := X.pg + 1 } = X.purX key := by
 obtain ⟨h1, h2, h3, h4, h5, h6, -⟩ := purN_same (X := X) (key := key) X.he.length
 have h7 := purN_he (X := X) (key := key) (Nat.le_refl X.he.length)
 rw [List.take_length, List.drop_length, List.append_nil] at h7
 unfold Xd.purX
 generalize purN X key X.he.length = Y at h1 h2 h3 h4 h5 h6 h7
 obtain ⟨a, b, c, d, e, f, g⟩ := Y
 subst h1 h2 h3 h4 h5 h7
 rfl
end
def Lee (C : List Cch) (P : List Pur) (L : List Gt) (F : Prop) (X0 X : Xd) : Prop := muX C P L X < muX C P L X0 ∨ (X = X0 ∧ F)
section
variable {C : List Cch} {R : List Crl} {E : List Rel} {P : List Pur} {L : List Gt} {X X' X0 : Xd} {lim : Int} {m : Mod}
theorem Lee.le {F : Prop} (h : Lee C P L F X0 X) : muX C P L X ≤ muX C P L X0 := by
 rcases h with h | ⟨rfl, _⟩
 ·exact Nat.le_of_lt h
 ·exact Nat.le_refl _
theorem Lee.step {F F' : Prop} (h : Lee C P L F X0 X) (hm : muX C P L X' < muX C P L X) : Lee C P L F' X0 X' := .inl (Nat.lt_of_lt_of_le hm h.le)
theorem Lee.exit {F F' : Prop} (h : Lee C P L F X0 X) (hf : X = X0 → F → F') : Lee C P L F' X0 X := by
 rcases h with h | ⟨e, h⟩
 ·exact .inl h
 ·exact .inr ⟨e, hf e h⟩
theorem mu_next (h : RInv C R E P L lim m X) (hv : Val C R E P L) (hn : X.next C R E P L lim m = some (m, X')) (hm : m ≠ .out) : muX C P L X' < muX C P L X := by
 have hV : ∀ (i : Nat) (x : Cch), C[i]? = some x → 1 ≤ x.de ∧ x.de ≤ 100000 := fun i x hx => (hv.cd i x hx).1
 have hx := h.inv
 cases m with
 | out => exact absurd rfl hm
 | pur =>
  unfold Xd.next at hn
  dsimp only at hn
  split at hn
  ·rename_i hd
   cases hn
   show sumK X + ((L.drop X.nx).map (wG C)).sum + (P.length - (X.pg + 1)) < sumK X + ((L.drop X.nx).map (wG C)).sum + (P.length - X.pg)
   omega
  ·cases hn
 | bak =>
  unfold Xd.next at hn
  dsimp only at hn
  split at hn
  ·rename_i j hb
   cases hn
   obtain ⟨⟨g1, g2, g3, g4⟩, _⟩ := nextB_some hb
   obtain ⟨l1, l2, l3, l4, l5⟩ := back_left (R := R) hx hV g1 g2 g3
   unfold muX
   rw [l1, l2]
   omega
  ·cases hn
 | get =>
  unfold Xd.next at hn
  dsimp only at hn
  split at hn
  ·rename_i hd
   cases hn
   obtain ⟨hl, hti⟩ := hd
   have hxg : L[X.nx]? = some (L.getD X.nx default) := by rw [List.getD_eq_getElem?_getD, List.getElem?_eq_getElem hl]; rfl
   obtain ⟨g1, g2, i, g3, g4⟩ := hv.lt _ (List.mem_of_getElem? hxg)
   have hgi2 : (cNum C (L.getD X.nx default).ca).toNat = i := by rw [g3]; rfl
   rw [hgi2]
   have hlf := Lf.come (C := C) (R := R) (P := P) (X := { X with nx := X.nx + 1 }) (i := i) (key := (L.getD X.nx default).ke) (ge := X.nx) (ak := none) hV (fun j h => by cases h)
   unfold muX
   rw [hlf.nx, hlf.pg]
   have h1 : sumK (({ X with nx := X.nx + 1 } : Xd).comeX C R P i (L.getD X.nx default).ke X.nx none) ≤ sumK X + (2 * i + 2) := hlf.sk
   have h2 : ((L.drop X.nx).map (wG C)).sum = (2 * i + 3) + ((L.drop (X.nx + 1)).map (wG C)).sum := by
    have hcons : L.drop X.nx = L.getD X.nx default :: L.drop (X.nx + 1) := by
     rw [List.drop_eq_getElem_cons hl]
     congr 1
     rw [List.getElem?_eq_getElem hl] at hxg
     exact Option.some.inj hxg
    rw [hcons, List.map_cons, List.sum_cons]
    congr 1
    unfold wG
    rw [hgi2]
   show _ + ((L.drop (X.nx + 1)).map (wG C)).sum + (P.length - X.pg) < _
   omega
  ·cases hn
 | arr =>
  unfold Xd.next at hn
  dsimp only at hn
  split at hn
  ·rename_i j hb
   cases hn
   obtain ⟨⟨g1, g2, g3⟩, _⟩ := nextA_some hb
   obtain ⟨l1, l2, l3, l4, l5, l6⟩ := arr_left hx hv g1 g2
   unfold muX
   rw [l1, l2]
   omega
  ·cases hn
theorem next_pur (hp : X.pg < P.length) {x : Pur} (hx : P[X.pg]? = some x) (ht : x.ti = X.no) : X.next C R E P L lim .pur = some (.pur, X.purX x.ke) := by
 unfold Xd.next
 dsimp only
 rw [getD_at hx, if_pos ⟨hp, ht⟩]
theorem next_pur0 (h : ¬ (X.pg < P.length ∧ (P.getD X.pg default).ti = X.no)) : X.next C R E P L lim .pur = some (.bak, X) := by
 unfold Xd.next
 dsimp only
 rw [if_neg h]
end
def ParOk (C : List Cch) : Prop := ∀ (i : Nat) (x : Cch), C[i]? = some x → (x.pa = ⟨#[]⟩ → cNum C x.pa = -1) ∧ (¬ x.pa = ⟨#[]⟩ → 0 ≤ cNum C x.pa)
structure TwoL (w W : World) (v6 v7 : Value) (l6 l7 : List Nat) : Prop where
 b : Below w.heap.size w W
 o6 : Own W w.heap.size 3 1 encJ v6 l6
 o7 : Own W w.heap.size 3 1 encJ v7 l7
 d : ∀ g n c g' n' c', v6 = .slice (some ⟨g, 0, none⟩) n c → v7 = .slice (some ⟨g', 0, none⟩) n' c' → g ≠ g'
theorem TwoL.nil (w : World) : TwoL w w (.slice none 0 0) (.slice none 0 0) [] [] := ⟨Below.refl _ _, Own.nil, Own.nil, fun _ _ _ _ _ _ h => by cases h⟩
theorem TwoL.al {w W : World} {v6 v7 : Value} {l6 l7 : List Nat} (h : TwoL w W v6 v7 l6 l7) (o : Obj) : TwoL w (W.alloc o) v6 v7 l6 l7 := ⟨h.b.alloc h.b.size o, h.o6.al o, h.o7.al o, h.d⟩
theorem own_keep {W W' : World} {N : Nat} {v v2 v2' : Value} {l : List Nat} (h : Own W N 3 1 encJ v l) (hk : KeepB W W' v2 v2') (hd : ∀ g n c, v = .slice (some ⟨g, 0, none⟩) n c → offB g v2) : Own W' N 3 1 encJ v l ∧ ∀ g n c, v = .slice (some ⟨g, 0, none⟩) n c → offB g v2' := by
 obtain ⟨h1, h2⟩ := h
 rcases h2 with h2 | ⟨g, cap, cur, rfl, hg, hh, r⟩
 ·exact ⟨⟨h1, .inl h2⟩, fun g n c e => by rw [h2.1] at e; cases e⟩
 ·obtain ⟨k1, k2⟩ := hk g (Array.getElem?_eq_some_iff.1 hh).1 (hd _ _ _ rfl)
  refine ⟨⟨h1, .inr ⟨g, cap, cur, rfl, hg, k1.trans hh, r⟩⟩, fun g' n c e => ?_⟩
  cases e
  exact k2
theorem off_ne {g : Nat} {v : Value} (h : ∀ g' n c, v = .slice (some ⟨g', 0, none⟩) n c → g ≠ g') {W : World} {N : Nat} {l : List Nat} (ho : Own W N 3 1 encJ v l) : offB g v := by
 rcases Own.slw ho with ⟨rfl, _⟩ | ⟨g', cap, rfl⟩
 ·exact offB.nil g
 ·exact offB.mk (fun e => h g' _ _ rfl e.symm)
theorem TwoL.push6 {w W W' : World} {v6 v7 v' : Value} {l6 l7 l' : List Nat} (h : TwoL w W v6 v7 l6 l7) (ho : Own W' w.heap.size 3 1 encJ v' l') (hb : Below w.heap.size W W') (hk : KeepB W W' v6 v') : TwoL w W' v' v7 l' l7 := by
 obtain ⟨k1, k2⟩ := own_keep h.o7 hk fun g n c e => off_ne (fun g' n' c' e' => Ne.symm (h.d g' n' c' g n c e' e)) h.o6
 exact ⟨h.b.trans hb, ho, k1, fun g n c g' n' c' e e' => k2 g' n' c' e' ⟨g, 0, none⟩ n c e⟩
theorem TwoL.push7 {w W W' : World} {v6 v7 v' : Value} {l6 l7 l' : List Nat} (h : TwoL w W v6 v7 l6 l7) (ho : Own W' w.heap.size 3 1 encJ v' l') (hb : Below w.heap.size W W') (hk : KeepB W W' v7 v') : TwoL w W' v6 v' l6 l' := by
 obtain ⟨k1, k2⟩ := own_keep h.o6 hk fun g n c e => off_ne (fun g' n' c' e' => h.d g n c g' n' c' e e') h.o7
 exact ⟨h.b.trans hb, k1, ho, fun g n c g' n' c' e e' => Ne.symm (k2 g n c e ⟨g', 0, none⟩ n' c' e')⟩
section
variable {C : List Cch} {R : List Crl} {E : List Rel} {P : List Pur} {L : List Gt} {X X' X0 : Xd} {lim : Int} {m : Mod}
theorem giveX_K {w : Xw} {a : Ans} (hj : ∀ j, w.ak = some j → j < X.ak.length) (b : Nat) : ((X.giveX C w a).K b).ws = (X.K b).ws ∧ ((X.giveX C w a).K b).ca = (X.K b).ca := by
 unfold Xd.giveX
 cases hw : w.ak with
 | none => exact ⟨rfl, rfl⟩
 | some j =>
  show ((X.setA j { X.K j with kn := true, go := a, bk := X.no + deO C (X.K j).ca }).K b).ws = _ ∧ ((X.setA j _).K b).ca = _
  rw [Xd.setA_K (hj j hw)]
  split
  ·rename_i e; rw [e]; exact ⟨rfl, rfl⟩
  ·exact ⟨rfl, rfl⟩
theorem giveX_K' {w : Xw} {a : Ans} (b : Nat) : ((X.giveX C w a).K b).ws = (X.K b).ws ∧ ((X.giveX C w a).K b).ca = (X.K b).ca := by
 by_cases h : ∀ j, w.ak = some j → j < X.ak.length
 ·exact giveX_K h b
 ·cases hw : w.ak with
  | none => exact absurd (fun j hj => by rw [hw] at hj; cases hj) h
  | some j =>
   have hj : ¬ j < X.ak.length := fun hl => h fun j' hj' => by rw [hw] at hj'; cases hj'; exact hl
   have e : X.giveX C w a = X := by
    unfold Xd.giveX
    rw [hw]
    show X.setA j _ = X
    unfold Xd.setA
    rw [List.set_eq_of_length_le (by omega)]
   rw [e]
   exact ⟨rfl, rfl⟩
theorem gives_ws {a : Ans} : ∀ (ws : List Xw) (X : Xd), (X.givesX C ws a).ak.length = X.ak.length ∧ ∀ b, ((X.givesX C ws a).K b).ws = (X.K b).ws ∧ ((X.givesX C ws a).K b).ca = (X.K b).ca
 | [], X => ⟨rfl, fun b => ⟨rfl, rfl⟩⟩
 | w :: ws, X => by
  obtain ⟨h1, h2⟩ := gives_ws (a := a) ws (X.giveX C w a)
  exact ⟨h1.trans giveX_akl, fun b => ⟨(h2 b).1.trans (giveX_K' b).1, (h2 b).2.trans (giveX_K' b).2⟩⟩
theorem gives_no {a : Ans} : ∀ (ws : List Xw) (X : Xd), (X.givesX C ws a).no = X.no
 | [], _ => rfl
 | w :: ws, X => (gives_no (a := a) ws (X.giveX C w a)).trans giveX_no
def StPost (C : List Cch) (R : List Crl) (E : List Rel) (P : List Pur) (L : List Gt) (lim : Int) (w : World) (B : Nat) (A : Rdr) (X : Xd) : Ending → World → Prop := fun e w' => ∃ A' X', e = .returned (.tuple #[]) ∧ RD w' B A' X' ∧ RdrLe A A' ∧ Below B w w' ∧ RInv C R E P L lim .out X' ∧ muX C P L X' < muX C P L X
end
set_option linter.unusedSimpArgs false in
set_option maxRecDepth 100000 in
set_option maxHeartbeats 8000000 in
theorem stepX_any (w0 w : World) (B : Nat) (A : Rdr) (X : Xd) (h : RD w B A X) (C : List Cch) (R : List Crl) (E : List Rel) (P : List Pur) (L : List Gt) (hE : EnvR w0 B A C R E P L) (hw : Below w0.heap.size w0 w) (hv : Val C R E P L) (hpa : ParOk C) (lim : Int) (hi : RInv C R E P L lim .out X) (t : Int) (ht : minT (X.times P L) = some t) (hlt : ¬ lim < t) :
 Calls Tryz.prog 65 #[.pointer (some ⟨A.q, 0, none⟩), .int .i64 t] w (StPost C R E P L lim w B A X) := by
 obtain ⟨X0, hX0⟩ : ∃ X0, X0 = ({ X with no := t } : Xd) := ⟨_, rfl⟩
 have hi0 : RInv C R E P L lim .pur X0 := hX0 ▸ hi.next hv (by unfold Xd.next; dsimp only; rw [ht]; dsimp only; rw [if_neg hlt])
 obtain ⟨w1, hw1⟩ : ∃ w1, w1 = w.setCell ⟨A.q, 11, none⟩ (.int .i64 t) := ⟨_, rfl⟩
 have hs0 : StX w B A A.x w1 A X0 := by
  have h1 : StX w B A A.x w A X := ⟨h, RdrLe.refl _, Below.refl _ _⟩
  rw [hX0, hw1]
  exact h1.setDay 11 _ _ rfl rfl rfl rfl rfl
 have hq11 : w.cell? ⟨A.q, 11, none⟩ = some (.int .i64 X.no) := cellF h.qb.2 11 rfl
 have hqf : w.frozen? ⟨A.q, 11, none⟩ = false := frozF h.qb.2 11
 have hmu0 : muX C P L X0 = muX C P L X := by rw [hX0]; rfl
 have hno0 : X0.no = t := by rw [hX0]
 have htm : ∀ F : Prop, (F → ¬ (X0.pg < P.length ∧ (P.getD X0.pg default).ti = X0.no)) → (F → X0.nextB = none) → (F → ¬ (X0.nx < L.length ∧ (L.getD X0.nx default).ti = X0.no)) → (F → X0.nextA = none) → F → False := fun F f1 f2 f3 f4 hF => by
  have h1 := (minT_spec ht).1
  rcases times_mem.1 h1 with ⟨x, hx, e⟩ | ⟨x, hx, e⟩ | ⟨j, k, hk, e⟩
  ·refine f3 hF ?_
   rw [hno0, hX0]
   exact ⟨(List.getElem?_eq_some_iff.1 hx).1, by rw [getD_at hx]; exact e.symm⟩
  ·refine f1 hF ?_
   rw [hno0, hX0]
   exact ⟨(List.getElem?_eq_some_iff.1 hx).1, by rw [getD_at hx]; exact e.symm⟩
  ·have hjl := (List.getElem?_eq_some_iff.1 hk).1
   have hK : X0.K j = k := by rw [hX0]; exact Xd.K_eq hk
   have hjl0 : j < X0.ak.length := by rw [hX0]; exact hjl
   rcases e with ⟨e1, e2⟩ | ⟨e1, e2, e3⟩
   ·exact nextA_none (f4 hF) j hjl0 (by rw [hK]; exact e1) (by rw [hK, hno0]; exact e2.symm)
   ·exact nextB_none (f2 hF) j hjl0 (by rw [hK]; exact e1) (by rw [hK]; exact e2) (by rw [hK, hno0]; exact e3.symm)
 obtain ⟨po, pc, e3, -, -, -, pel⟩ := hE.p
 obtain ⟨lo, lc, e4, -, -, -, lel⟩ := hE.l
 obtain ⟨co, cc, e0, -, -, -, cel⟩ := hE.c
 obtain ⟨so, sn, sc, e8⟩ := Own.slv encV_len h.rows
 have HPE : Hid (∀ (n : Nat) (x : Pur), P[n]? = some x → ∃ b off, po = some ⟨b, off, none⟩ ∧ ∀ W : World, Below w0.heap.size w0 W → W.cell? ⟨b, off + n * 2, none⟩ = some (.int .i64 x.ti) ∧ W.cell? ⟨b, off + n * 2 + 1, none⟩ = some (.string x.ke)) := Lib.hid fun n x hx => by
  obtain ⟨b, off, rfl, hc⟩ := pel n x hx
  have hl := World.block_lt_of_cell? w0 _ (hc 1 _ rfl)
  refine ⟨b, off, rfl, fun W hW => ⟨?_, (hW.cell (p := ⟨b, off + n * 2 + 1, none⟩) hl).trans (hc 1 _ rfl)⟩⟩
  have h1 := (hW.cell (p := ⟨b, off + n * 2 + 0, none⟩) hl).trans (hc 0 _ rfl)
  simpa using h1
 have HLE : Hid (∀ (n : Nat) (x : Gt), L[n]? = some x → ∃ b off, lo = some ⟨b, off, none⟩ ∧ ∀ W : World, Below w0.heap.size w0 W → W.cell? ⟨b, off + n * 3, none⟩ = some (.int .i64 x.ti) ∧ W.cell? ⟨b, off + n * 3 + 1, none⟩ = some (.string x.ca) ∧ W.cell? ⟨b, off + n * 3 + 2, none⟩ = some (.string x.ke)) := Lib.hid fun n x hx => by
  obtain ⟨b, off, rfl, hc⟩ := lel n x hx
  have hl := World.block_lt_of_cell? w0 _ (hc 1 _ rfl)
  refine ⟨b, off, rfl, fun W hW => ⟨?_, (hW.cell (p := ⟨b, off + n * 3 + 1, none⟩) hl).trans (hc 1 _ rfl), (hW.cell (p := ⟨b, off + n * 3 + 2, none⟩) hl).trans (hc 2 _ rfl)⟩⟩
  have h1 := (hW.cell (p := ⟨b, off + n * 3 + 0, none⟩) hl).trans (hc 0 _ rfl)
  simpa using h1
 have HCE : Hid (∀ (n : Nat) (x : Cch), C[n]? = some x → ∃ b off, co = some ⟨b, off, none⟩ ∧ ∀ W : World, Below w0.heap.size w0 W → W.cell? ⟨b, off + n * 4 + 1, none⟩ = some (.string x.pa)) := Lib.hid fun n x hx => by
  obtain ⟨b, off, rfl, hc⟩ := cel n x hx
  have hl := World.block_lt_of_cell? w0 _ (hc 1 _ rfl)
  exact ⟨b, off, rfl, fun W hW => (hW.cell (p := ⟨b, off + n * 4 + 1, none⟩) hl).trans (hc 1 _ rfl)⟩
 have HWB : Hid (∀ (xs : List (Nat × Obj)) (W : World) (A' : Rdr) (X' : Xd), StX w B A xs W A' X' → Below w0.heap.size w0 W) := Lib.hid fun xs W A' X' hs => hw.trans (hs.be.mono hE.b)
 have HQC : Hid (∀ (xs : List (Nat × Obj)) (W : World) (A' : Rdr) (X' : Xd), StX w B A xs W A' X' → ∀ V : World, Below W.heap.size W V → (V.cell? ⟨A.q, 0, none⟩ = some (.slice co C.length cc) ∧ V.cell? ⟨A.q, 3, none⟩ = some (.slice po P.length pc) ∧ V.cell? ⟨A.q, 4, none⟩ = some (.slice lo L.length lc)) ∧ V.cell? ⟨A.q, 5, none⟩ = some (.int .i64 (X'.nx : Nat)) ∧ V.cell? ⟨A.q, 6, none⟩ = some (.int .i64 (X'.pg : Nat)) ∧ V.cell? ⟨A.q, 7, none⟩ = some A'.kv ∧ V.cell? ⟨A.q, 8, none⟩ = some (.slice so sn sc) ∧ V.cell? ⟨A.q, 10, none⟩ = some A.lv ∧ (V.frozen? ⟨A.q, 5, none⟩ = false ∧ V.frozen? ⟨A.q, 6, none⟩ = false)) := Lib.hid fun xs W A' X' hs V hV => by
  have hb := (hV.block _ hs.ql).trans hs.qb
  exact ⟨⟨by rw [cellF hb 0 rfl, ← e0]; rfl, by rw [cellF hb 3 rfl, ← e3]; rfl, by rw [cellF hb 4 rfl, ← e4]; rfl⟩, cellF hb 5 rfl, cellF hb 6 rfl, cellF hb 7 rfl, by rw [cellF hb 8 rfl, ← e8]; rfl, cellF hb 10 rfl, frozF hb 5, frozF hb 6⟩
 have HSN : Hid (∀ (xs : List (Nat × Obj)) (W : World) (A' : Rdr) (X' : Xd), StX w B A xs W A' X' → sn = X'.he.length) := Lib.hid fun xs W A' X' hs => by
  have h1 := hs.rd.rows
  obtain ⟨ao, cap, e, -⟩ := h1.sl encV_len
  rw [hs.le.hh] at e
  have e' : Value.slice so sn sc = .slice ao A'.hs.length cap := e8.symm.trans e
  simp only [Value.slice.injEq] at e'
  rw [e'.2.1, hs.rd.hl]
 have HE := Lib.hid hE
 have HW := Lib.hid hw
 have HV := Lib.hid hv
 have HPA := Lib.hid hpa
 have HI0 := Lib.hid hi0
 have HS0 := Lib.hid hs0
 have HMU0 := Lib.hid hmu0
 have HNO0 := Lib.hid hno0
 have HTM := Lib.hid htm
 have HW1 := Lib.hid hw1
 have HE8 := Lib.hid e8
 have HE0 := Lib.hid e0
 clear h hE hw hv hpa hi hX0 hi0 hs0 hmu0 hno0 ht hlt htm e3 e4 e8 pel lel cel hw1
 go_enter Tryz.func65, Tryz.ntmps65
 go_wp2_with fail
 rw [← HW1.out]
 clear hq11 hqf
 go_loopg [4, 5] P.length (fun gg s4 s5 wr => ∃ (Xc : Xd) (Ac : Rdr), P.length - Xc.pg ≤ gg ∧ Aside (StX w B A A.x wr Ac Xc ∧ RInv C R E P L lim .pur Xc ∧ Lee C P L True X0 Xc ∧ Xc.no = t))
 case atStart => exact ⟨X0, A, Nat.sub_le _ _, (show Aside (_ ∧ _ ∧ _ ∧ _) from ⟨HS0.out, HI0.out, .inr ⟨rfl, trivial⟩, HNO0.out⟩)⟩
 case round =>
  obtain ⟨wz, rfl⟩ : ∃ wz, wz = wr := ⟨_, rfl⟩
  obtain ⟨Xc, Ac, hgg, ST⟩ := hrel
  have HST := Lib.hid ST.out.1
  have HRI := Lib.hid ST.out.2.1
  have HLE0 := Lib.hid ST.out.2.2.1
  have HNC := Lib.hid ST.out.2.2.2
  clear ST
  obtain ⟨⟨-, q3, -⟩, -, q6, -⟩ := HQC.out _ _ _ _ HST.out wz (Below.refl _ _)
  have hpl := HRI.out.inv.le.2.2.2.2
  by_cases hp : Xc.pg < P.length ∧ (P.getD Xc.pg default).ti = t
  ·as_aux_lemma =>
    obtain ⟨hp1, hp2⟩ := hp
    obtain ⟨x, hx⟩ : ∃ x, P[Xc.pg]? = some x := ⟨_, List.getElem?_eq_getElem hp1⟩
    rw [getD_at hx] at hp2
    have HNX : Hid (Xc.next C R E P L lim .pur = some (.pur, Xc.purX x.ke)) := Lib.hid (next_pur hp1 hx (hp2.trans HNC.out.symm))
    obtain ⟨pb, poff, rfl, hpx⟩ := HPE.out _ _ hx
    have HPX := Lib.hid hpx
    obtain ⟨p0, -⟩ := hpx wz (HWB.out _ _ _ _ HST.out)
    have hpz : (Xc.pg : Int) < (P.length : Int) := by omega
    have hp0 : (0 : Int) ≤ (Xc.pg : Int) := by omega
    have htb : (x.ti == t) = true := beq_iff_eq.2 hp2
    clear hx hpx hp2
    go_upto_region 1 with (fail)
    go_quiet (fail)
    obtain ⟨w2, hw2⟩ : ∃ w2, w2 = wz.drewN nq := ⟨_, rfl⟩
    have HS2 : Hid (StX w B A A.x w2 Ac Xc) := Lib.hid (by rw [hw2]; exact HST.out.below (below_drewN (Below.refl _ _) _))
    rw [← hw2]
    clear hw2 q3 q6 p0 htb
    obtain ⟨-, -, -, -, q8, -⟩ := HQC.out _ _ _ _ HS2.out w2 (Below.refl _ _)
    have hsn := HSN.out _ _ _ _ HS2.out
    rw [hsn] at q8
    have HSNE := Lib.hid hsn
    clear hsn
    have hcb : Xc.he.length ≤ 30 := by rw [HRI.out.inv.le.1]; exact HV.out.c
    go_wp2_with fail
    clear q8
    go_loopg [4, 5, 62] Xc.he.length (fun gg s4 s5 s62 wr => ∃ (c : Nat) (Ad : Rdr), c ≤ Xc.he.length ∧ Xc.he.length - c ≤ gg ∧ s62 = .int .i64 c ∧ Aside (StX w B A A.x wr Ad (purN Xc x.ke c)))
    case atStart => exact ⟨0, Ac, Nat.zero_le _, by omega, rfl, (show Aside _ from HS2.out)⟩
    case round =>
     obtain ⟨wy, rfl⟩ : ∃ wy, wy = wr := ⟨_, rfl⟩
     obtain ⟨c, Ad, hc, hcg, rfl, SY⟩ := hrel
     have HSY := Lib.hid SY.out
     clear SY
     by_cases hlc : c < Xc.he.length
     ·have hlcz : (c : Int) < (Xc.he.length : Int) := by omega
      obtain ⟨g1, g2, g3, g4, g5, g6, g7, g8⟩ := purN_same (X := Xc) (key := x.ke) c
      have hcy : c < (purN Xc x.ke c).he.length := by rw [g7]; exact hlc
      have HNY : Hid (purN Xc x.ke (c + 1) = (purN Xc x.ke c).setH c (delH ((purN Xc x.ke c).H c) x.ke)) := Lib.hid rfl
      have HND : Hid ((((purN Xc x.ke c).H c).map Xh.ke).Nodup ∧ ((purN Xc x.ke c).H c).length ≤ 61200) := Lib.hid (by
       rw [g8 c (Nat.le_refl _)]
       obtain ⟨n, hcn, hn⟩ := HRI.out.cap
       exact ⟨(HRI.out.inv.held c).1, by have := hcn.he c; omega⟩)
      have hpgy := g6
      obtain ⟨Y, hY⟩ : ∃ Y, Y = purN Xc x.ke c := ⟨_, rfl⟩
      rw [← hY] at hcy HNY HND HSY hpgy
      clear g1 g2 g3 g4 g5 g6 g7 g8 hY
      have HQY : Hid (∀ V : World, Below wy.heap.size wy V → V.cell? ⟨A.q, 3, none⟩ = some (.slice (some ⟨pb, poff, none⟩) P.length pc) ∧ V.cell? ⟨A.q, 6, none⟩ = some (.int .i64 (Xc.pg : Nat)) ∧ V.cell? ⟨pb, poff + Xc.pg * 2 + 1, none⟩ = some (.string x.ke)) := Lib.hid fun V hV => by
       obtain ⟨⟨-, z3, -⟩, -, z6, -⟩ := HQC.out _ _ _ _ HSY.out V hV
       rw [hpgy] at z6
       exact ⟨z3, z6, (HPX.out V ((HWB.out _ _ _ _ HSY.out).thru hV)).2⟩
      have HPLC : Hid (∀ V : World, Below wy.heap.size wy V → Calls Tryz.prog 98 #[.pointer (some ⟨A.q, 0, none⟩), .int .i64 (c : Nat), .string x.ke] V fun e w' => e = .returned (.int .i64 (numO (plI (Y.H c) x.ke))) ∧ Below V.heap.size V w') := Lib.hid fun V hV => place_st (HSY.out.below hV) c x.ke hcy
      have HBQ : Hid (Below wy.heap.size wy wy.drew) := Lib.hid (Below.refl _ wy).drew
      obtain ⟨F, hF⟩ : ∃ F, F = plI (Y.H c) x.ke := ⟨_, rfl⟩
      rw [← hF] at HPLC
      have HF := Lib.hid hF
      clear hF hpgy
      go_upto_region 6 with (fail)
      refine wp_region_held_drew (S := fun W => Below wy.heap.size wy W) (by kernel_rfl) HBQ.out (fun hHeld => ?_)
      have HB9 := HBQ
      refine tkI 0 65 hHeld (h := ?_)
      try simp only [pu]
      refine tkI 1 66 hHeld (h := ?_)
      try simp only [pu]
      refine tkI 2 67 hHeld (h := ?_)
      try simp only [pu]
      refine tkI 3 68 hHeld (h := ?_)
      try simp only [pu]
      refine tkI 4 69 hHeld (h := ?_)
      try simp only [pu]
      refine tkI 5 70 hHeld (h := ?_)
      try simp only [pu]
      refine tkI 6 71 hHeld (hy := by (intro w' hSw; have z1 := (HQY.out _ hSw).1; go_simp) <;> with_reducible rfl) (h := ?_)
      try simp only [pu]
      refine tkI 7 72 hHeld (h := ?_)
      try simp only [pu]
      refine tkI 8 73 hHeld (h := ?_)
      try simp only [pu]
      refine tkI 9 74 hHeld (h := ?_)
      try simp only [pu]
      refine tkI 10 75 hHeld (hy := by (intro w' hSw; have z1 := (HQY.out _ hSw).2.1; go_simp) <;> with_reducible rfl) (h := ?_)
      try simp only [pu]
      refine tkI 11 76 hHeld (h := ?_)
      try simp only [pu]
      refine tkI 12 77 hHeld (h := ?_)
      try simp only [pu]
      refine tkI 13 78 hHeld (hy := by (intro w' hSw; have z1 := (HQY.out _ hSw).2.2; go_simp) <;> with_reducible rfl) (h := ?_)
      try simp only [pu]
      refine callIn (f := 98) (args := #[.pointer (some ⟨A.q, 0, none⟩), .int .i64 (c : Nat), .string x.ke]) 14 79 rfl rfl (by kernel_rfl) (by rfl) (by go_simp) ?_
      clear hHeld
      refine (HPLC.out _ HB9.out).mono ?_
      rintro e w9 ⟨rfl, hb9⟩
      replace HB9 := Lib.hid (HB9.out.thru hb9)
      clear hb9
      have hHeld : Below wy.heap.size wy w9 := HB9.out
      refine ⟨_, rfl, hHeld, ?_⟩
      try simp only [pu]
      refine tkI 15 5 hHeld (h := ?_)
      try simp only [pu]
      refine wpAnyH_done (by kernel_rfl) ?_ _
      clear hHeld
      have HS7 := Lib.hid (HSY.out.below HB9.out)
      rcases Option.eq_none_or_eq_some F with hFe | ⟨n, hFe⟩
      ·have hdl : delH (Y.H c) x.ke = Y.H c := delH_out (plI_none (HF.out.symm.trans hFe))
       have HYE : Hid (purN Xc x.ke (c + 1) = Y) := Lib.hid (by rw [HNY.out, hdl, setH_self])
       have hnf : numO F = -1 := by rw [hFe]; rfl
       clear hdl hFe
       go_wp2_with fail
       go_roundg (Xc.he.length - (c + 1))
       case measure => omega
       case rel => exact ⟨c + 1, Ad, by omega, by omega, by go_num, (show Aside _ from by rw [HYE.out]; exact HS7.out)⟩
      ·have hnf : numO F = (n : Int) := by rw [hFe]; rfl
       obtain ⟨v, hvv⟩ : ∃ v, Ad.hs[c]? = some v := ⟨_, List.getElem?_eq_getElem (by rw [HS7.out.rd.hl]; exact hcy)⟩
       have hne : Ad.hs ≠ [] := fun e => by rw [e] at hvv; cases hvv
       obtain ⟨sb, sc', hsv, hs1, hs2, hs3, hs4, hsc, hsf⟩ := Own.getk encV_len HS7.out.rd.rows hne
       have hA : A.hh = .slice (some ⟨sb, 0, none⟩) Ad.hs.length sc' := by rw [← HS7.out.le.hh]; exact hsv
       have hso := HE8.out.symm.trans hA
       simp only [Value.slice.injEq] at hso
       obtain ⟨rfl, rfl, rfl⟩ := hso
       obtain ⟨va, vn, vc, rfl⟩ := Own.slv encH_len (HS7.out.rd.held hvv)
       obtain ⟨xh, hxh, -⟩ := plI_some HND.out.1 (HF.out.symm.trans hFe)
       have hnl := (List.getElem?_eq_some_iff.1 hxh).1
       have HDE : Hid ((Y.H c).eraseIdx n = delH (Y.H c) x.ke) := Lib.hid (plI_del HND.out.1 (HF.out.symm.trans hFe))
       have sv : w9.cell? ⟨sb, c, none⟩ = some (.slice va vn vc) := by have h := hsc c _ 0 _ hvv rfl; simpa using h
       have sf : w9.frozen? ⟨sb, c, none⟩ = false := hsf c
       have hsq : ¬ sb = A.q := fun e => by have := HS7.out.rd.offQ.2.1 _ _ _ hsv; rw [HS7.out.aq] at this; exact this e
       have HSS : Hid (∀ W : World, Below w9.heap.size w9 W → W.cell? ⟨A.q, 8, none⟩ = some (.slice (some ⟨sb, 0, none⟩) Ad.hs.length sc)) := Lib.hid fun W hW => (HQC.out _ _ _ _ HS7.out W hW).2.2.2.2.1
       have HKV : Hid (∀ W : World, Below w9.heap.size w9 W → W.cell? ⟨sb, c, none⟩ = some (.slice va vn vc)) := Lib.hid fun W hW => (hW.cell (p := ⟨sb, c, none⟩) hs2).trans sv
       have HFZ : Hid (∀ W : World, Below w9.heap.size w9 W → W.frozen? ⟨sb, c, none⟩ = false) := Lib.hid fun W hW => (hW.frozen (p := ⟨sb, c, none⟩) hs2).trans sf
       have HNL := Lib.hid hnl
       have HCL : Hid (∀ W : World, Below w9.heap.size w9 W → Calls Tryz.prog 100 #[.slice va vn vc] W (OwnRet W 107 6 encH (Y.H c))) := Lib.hid fun W hW => cloneL_any W (Y.H c) _ ((((HS7.out.below hW).rd.held hvv)).sl encH_len) (by have := HND.out.2; omega)
       have HDL : Hid (∀ (W : World) (v' : Value) (N : Nat), Own W N 107 6 encH v' (Y.H c) → Calls Tryz.prog 99 #[v', .int .i64 (n : Nat), .int .i64 ((n : Int) + 1)] W fun e w' => ∃ v2, e = .returned v2 ∧ Own w' N 107 6 encH v2 ((Y.H c).eraseIdx n) ∧ Below N W w') := Lib.hid fun W v' N ho => delL_any W N (Y.H c) v' ho n HNL.out
       have HFN : Hid (∀ (W : World) (v' : Value), Own W w9.heap.size 107 6 encH v' ((Y.H c).eraseIdx n) → Below w9.heap.size w9 W → ∃ A', StX w B A A.x (W.setCell ⟨sb, c, none⟩ v') A' (purN Xc x.ke (c + 1))) := Lib.hid fun W v' ho hb => by
        rw [HNY.out, ← HDE.out]
        exact HS7.out.putRow hvv hA rfl hs1 (.inr ho) hb
       have HST8 : Hid (∀ (W : World) (u : Value), W.cell? ⟨A.q, 8, none⟩ = some (.slice (some ⟨sb, 0, none⟩) Ad.hs.length sc) → (W.setCell ⟨sb, c, none⟩ u).cell? ⟨A.q, 8, none⟩ = some (.slice (some ⟨sb, 0, none⟩) Ad.hs.length sc)) := Lib.hid fun W u hS => (World.cell?_setCell_far W _ _ u hsq).trans hS
       have hn0 : (0 : Int) ≤ (n : Int) := by omega
       have hcz2 : (c : Int) < (Ad.hs.length : Int) := by have := (List.getElem?_eq_some_iff.1 hvv).1; omega
       have hwn : IntKind.i64.wrap ((n : Int) + 1) = (n : Int) + 1 := IntWalk.i64_in _ (by have := HND.out.2; omega)
       have HB8 : Hid (Below w9.heap.size w9 w9.drew) := Lib.hid (Below.refl _ w9).drew
       clear hFe hvv hne hsv hs3 hs4 hsc hsf hA hxh hnl sv sf
       go_upto_region 8 with (fail)
       refine wp_region_held_drew (S := fun W => W.cell? ⟨A.q, 8, none⟩ = some (.slice (some ⟨sb, 0, none⟩) Ad.hs.length sc)) (by kernel_rfl) (HSS.out _ HB8.out) (fun hHeld => ?_)
       refine tkS 0 82 hHeld ?_
       try simp only [pu]
       refine tkS 1 83 hHeld ?_
       try simp only [pu]
       refine tkS 2 84 hHeld ?_
       try simp only [pu]
       refine tkS 3 85 hHeld ?_
       try simp only [pu]
       refine tkS 4 86 hHeld ?_
       try simp only [pu]
       refine tkS 5 87 hHeld ?_
       try simp only [pu]
       refine tkS 6 88 hHeld ?_
       try simp only [pu]
       refine tkS 7 89 hHeld ?_
       try simp only [pu]
       refine tkS 8 90 hHeld ?_
       try simp only [pu]
       refine tkS 9 91 hHeld ?_
       try simp only [pu]
       refine tkS 10 92 hHeld ?_
       try simp only [pu]
       refine tkS 13 95 hHeld ?_
       try simp only [pu]
       refine tkS 14 96 hHeld ?_
       try simp only [pu]
       refine tkS 15 97 hHeld ?_
       try simp only [pu]
       refine wpAnyH_ready (rs := [11]) (by kernel_rfl) (by simp) (AllReadyH.cons rfl (fun K hK => ?_) AllReadyH.nil)
       have yv := HKV.out _ HB8.out
       go_simp
       refine hK.out _ _ (HSS.out _ HB8.out) (fun hHeld => ?_)
       clear hK K
       try simp only [pu]
       refine wpAnyH_ready (rs := [12]) (by kernel_rfl) (by simp) (AllReadyH.cons rfl (fun K hK => ?_) AllReadyH.nil)
       rw [if_pos (by rfl)]
       go_simp
       go_at_call 100
       refine (HCL.out _ HB8.out).mono ?_
       rintro e w11 ⟨v11, rfl, ho11, hb11⟩
       have HB11 := Lib.hid (HB8.out.thru hb11)
       have HO11 := Lib.hid (Own.rebase ho11 HB8.out.size)
       clear ho11 hb11
       refine hK.out _ _ (HSS.out _ HB11.out) (fun hHeld => ?_)
       clear hK K
       try simp only [pu]
       refine wpAnyH_ready (rs := [16]) (by kernel_rfl) (by simp) (AllReadyH.cons rfl (fun K hK => ?_) AllReadyH.nil)
       rw [if_pos (by rfl)]
       go_simp
       go_at_call 99
       refine (HDL.out _ _ _ HO11.out).mono ?_
       rintro e w12 ⟨v12, rfl, ho12, hb12⟩
       have HB12 := Lib.hid (HB11.out.trans hb12)
       have HO12 := Lib.hid ho12
       clear ho12 hb12
       obtain ⟨a12, n12, c12, rfl⟩ := Own.slv encH_len HO12.out
       refine hK.out _ _ (HSS.out _ HB12.out) (fun hHeld => ?_)
       clear hK K
       try simp only [pu]
       refine tkS 17 99 hHeld ?_
       try simp only [pu]
       refine wpAnyH_ready (rs := [18]) (by kernel_rfl) (by simp) (AllReadyH.cons rfl (fun K hK => ?_) AllReadyH.nil)
       have yf := HFZ.out _ HB12.out
       have yk := HKV.out _ HB12.out
       go_simp
       refine hK.out _ _ (HST8.out _ _ (HSS.out _ HB12.out)) (fun hHeld => ?_)
       clear hK K
       try simp only [pu]
       refine wpAnyH_done (by kernel_rfl) ?_ _
       clear hHeld
       obtain ⟨A8, h8⟩ := HFN.out _ _ HO12.out HB12.out
       have HS8 := Lib.hid h8
       clear h8
       go_wp2_with fail
       go_roundg (Xc.he.length - (c + 1))
       case measure => omega
       case rel => exact ⟨c + 1, A8, by omega, by omega, by go_num, (show Aside _ from HS8.out)⟩
     ·obtain rfl : c = Xc.he.length := by omega
      have hlcz : ¬ (Xc.he.length : Int) < (Xc.he.length : Int) := by omega
      have hpgy := (purN_same (X := Xc) (key := x.ke) Xc.he.length).2.2.2.2.2.1
      obtain ⟨-, -, z6, -, -, -, -, zf⟩ := HQC.out _ _ _ _ HSY.out wy (Below.refl _ _)
      rw [hpgy] at z6
      have hwp : IntKind.i64.wrap ((Xc.pg : Int) + 1) = (Xc.pg : Int) + 1 := IntWalk.i64_in _ (by have := HV.out.p; omega)
      have hs9 : StX w B A A.x (wy.setCell ⟨A.q, 6, none⟩ (.int .i64 ((Xc.pg : Int) + 1))) Ad (Xc.purX x.ke) := by
       have h1 := HSY.out.setDay 6 (.int .i64 ((Xc.pg : Int) + 1)) ({ purN Xc x.ke Xc.he.length with pg := Xc.pg + 1 } : Xd) rfl rfl rfl rfl rfl
       rw [purN_all] at h1
       exact h1
      have HS9 := Lib.hid hs9
      have hri := HRI.out.next HV.out HNX.out
      have hmu := mu_next HRI.out HV.out HNX.out (by simp)
      have HR9 := Lib.hid hri
      have HM9 := Lib.hid hmu
      clear hs9 hri hmu hpgy
      go_wp2_with fail
      go_roundg (P.length - (Xc.pg + 1))
      case measure => omega
      case rel => exact ⟨Xc.purX x.ke, Ad, Nat.le_refl _, (show Aside (_ ∧ _ ∧ _ ∧ _) from ⟨HS9.out, HR9.out, HLE0.out.step HM9.out, HNC.out⟩)⟩
  ·
   have HNX : Hid (Xc.next C R E P L lim .pur = some (.bak, Xc)) := Lib.hid (next_pur0 (by rw [HNC.out]; exact hp))
   have HRB := Lib.hid (HRI.out.next HV.out HNX.out)
   have HL1 : Hid (Lee C P L (¬ (X0.pg < P.length ∧ (P.getD X0.pg default).ti = X0.no)) X0 Xc) := Lib.hid (HLE0.out.exit fun e _ => by rw [← e, HNC.out]; exact hp)
   go_upto_region 1 with (fail)
   go_cut [49] (fun s49 W => s49 = .bool false ∧ Aside (Below wz.heap.size wz W))
   case first =>
    by_cases hp1 : Xc.pg < P.length
    ·obtain ⟨x, hx⟩ : ∃ x, P[Xc.pg]? = some x := ⟨_, List.getElem?_eq_getElem hp1⟩
     have hne : ¬ x.ti = t := fun e => hp ⟨hp1, by rw [getD_at hx]; exact e⟩
     obtain ⟨pb, poff, rfl, hpx⟩ := HPE.out _ _ hx
     obtain ⟨p0, -⟩ := hpx wz (HWB.out _ _ _ _ HST.out)
     have hpz : (Xc.pg : Int) < (P.length : Int) := by omega
     have hp0 : (0 : Int) ≤ (Xc.pg : Int) := by omega
     have htb : (x.ti == t) = false := beq_eq_false_iff_ne.2 hne
     clear hx hpx hne hp
     go_quiet (fail)
     go_wp2_with fail
     go_meet
     exact ⟨rfl, below_drewN (Below.refl _ _) _⟩
    ·have hpz : ¬ (Xc.pg : Int) < (P.length : Int) := by omega
     clear hp
     go_quiet (fail)
     go_wp2_with fail
     go_meet
     exact ⟨rfl, below_drewN (Below.refl _ _) _⟩
   obtain ⟨rfl, BC⟩ := hcut
   obtain ⟨w10, rfl⟩ : ∃ w10, w10 = wc := ⟨_, rfl⟩
   have HS10 := Lib.hid (HST.out.below BC.out)
   clear BC q3 q6 HNX hp hgg hpl HRI HLE0 HST HS0 HW1 HPE HSN
   have hkl := HS10.out.rd.akl
   obtain ⟨nk, hnk⟩ : ∃ nk, nk = Xc.ak.length := ⟨_, rfl⟩
   have hak1 : nk ≤ 61200 := by
    obtain ⟨n, hcn, hn⟩ := HRB.out.cap
    have := hcn.ak
    omega
   rw [← hnk] at hkl
   obtain ⟨ko, kc, e7, -, hkmax, -, hkel⟩ := HS10.out.rd.asks.sl encK_len
   rw [hkl] at e7
   have q7 : w10.cell? ⟨A.q, 7, none⟩ = some (.slice ko nk kc) := by rw [(HQC.out _ _ _ _ HS10.out w10 (Below.refl _ _)).2.2.2.1, e7]
   have HKE : Hid (∀ (j : Nat), j < nk → ∃ b off v, ko = some ⟨b, off, none⟩ ∧ (∃ a n c, v = .slice a n c) ∧ ∀ W : World, Below w10.heap.size w10 W → CelK W b (off + j * 14) (Xc.K j, v)) := Lib.hid fun j hj => by
    obtain ⟨v, hjv⟩ := HS10.out.rd.at_ (by rw [← hnk]; exact hj)
    obtain ⟨b, off, e, hc⟩ := hkel j _ hjv
    exact ⟨b, off, v, e, Own.slv encX_len (HS10.out.rd.wait hjv), fun W hW => (CelK.of hc).below hW⟩
   obtain ⟨BL, hBL⟩ : ∃ BL : Nat → List Nat, BL = fun kk => (List.range kk).filter Xc.isBk := ⟨_, rfl⟩
   obtain ⟨AL, hAL⟩ : ∃ AL : Nat → List Nat, AL = fun kk => (List.range kk).filter Xc.isAr := ⟨_, rfl⟩
   have HLS : Hid (∀ kk, BL (kk + 1) = (if Xc.isBk kk = true then BL kk ++ [kk] else BL kk) ∧ AL (kk + 1) = (if Xc.isAr kk = true then AL kk ++ [kk] else AL kk) ∧ (BL kk).length ≤ kk ∧ (AL kk).length ≤ kk) := Lib.hid fun kk => by
    have hl : ∀ p : Nat → Bool, ((List.range kk).filter p).length ≤ kk := fun p => by
     have := List.length_filter_le p (List.range kk)
     rwa [List.length_range] at this
    have hs : ∀ p : Nat → Bool, (List.range (kk + 1)).filter p = if p kk = true then (List.range kk).filter p ++ [kk] else (List.range kk).filter p := fun p => by
     rw [List.range_succ, List.filter_append]
     cases h : p kk <;> simp [h]
    rw [hBL, hAL]
    exact ⟨hs _, hs _, hl _, hl _⟩
   have HL0 : Hid (BL 0 = [] ∧ AL 0 = []) := Lib.hid (by rw [hBL, hAL]; exact ⟨rfl, rfl⟩)
   have HBA : Hid (AllA Xc Xc.isBk (BL nk) ∧ AllA Xc Xc.isAr (AL nk)) := Lib.hid (by rw [hBL, hAL, hnk]; exact ⟨AllA.of, AllA.of⟩)
   have HNK := Lib.hid hnk
   have HIB : Hid (∀ j, Xc.isBk j = ((Xc.K j).kn && (!(Xc.K j).dn && ((Xc.K j).bk == t))) ∧ Xc.isAr j = (!(Xc.K j).cm && ((Xc.K j).ar == t))) := Lib.hid fun j => by
    unfold Xd.isBk Xd.isAr
    rw [HNC.out]
    exact ⟨by congr 2, by congr 1⟩
   clear hkl e7 hkel hBL hAL hnk
   unfold maxLen at hkmax
   go_wp2_with fail
   clear q7
   go_loopg [6, 7, 8, 9, 106] nk (fun gg s6 s7 s8 s9 s106 wr => ∃ kk : Nat, kk ≤ nk ∧ nk - kk ≤ gg ∧ s106 = .int .i64 kk ∧ ∃ a6 n6 c6 a7 n7 c7, s6 = .slice a6 n6 c6 ∧ s7 = .slice a7 n7 c7 ∧ Aside (TwoL w10 wr (.slice a6 n6 c6) (.slice a7 n7 c7) (BL kk) (AL kk)))
   case atStart => exact ⟨0, Nat.zero_le _, by omega, rfl, none, 0, 0, none, 0, 0, rfl, rfl, (show Aside _ from by rw [HL0.out.1, HL0.out.2]; exact TwoL.nil _)⟩
   case round =>
    obtain ⟨wz, rfl⟩ : ∃ wz, wz = wr := ⟨_, rfl⟩
    obtain ⟨kk, hkk, hgk, rfl, a6, n6, c6, a7, n7, c7, rfl, rfl, TL⟩ := hrel
    have HTL := Lib.hid TL.out
    clear TL
    by_cases hlk : kk < nk
    ·as_aux_lemma =>
      have hlkz : (kk : Int) < (nk : Int) := by omega
      obtain ⟨b, off, v, rfl, ⟨va, vn, vc, rfl⟩, hck⟩ := HKE.out kk hlk
      obtain ⟨k0, k1, k2, k3, k4, k5, k6, k7, k8, k9, k10, k11, k12, k13⟩ := hck wz HTL.out.b
      obtain ⟨hB1, hA1, hbl, hal⟩ := HLS.out kk
      obtain ⟨hib, hia⟩ := HIB.out kk
      rw [hib] at hB1
      rw [hia] at hA1
      generalize Xc.K kk = xk at k0 k1 k2 k3 k4 k5 k6 k7 k8 k9 k10 k11 k12 k13 hB1 hA1
      obtain ⟨xca, xke, xma, xar, xcm, xkn, xbk, xgo, xdn, xal, xws⟩ := xk
      dsimp only at k0 k1 k2 k3 k4 k5 k6 k7 k8 k9 k10 k11 k12 k13 hB1 hA1
      have HB1 := Lib.hid hB1
      have HA1 := Lib.hid hA1
      have HBL := Lib.hid (And.intro hbl hal)
      obtain ⟨wb, hwb⟩ : ∃ wb, wb = wz.alloc (.cells #[.int .i64 (xca : Nat), .string xke, .int .i64 xma, .int .i64 xar, .bool xcm, .bool xkn, .int .i64 xbk, .int .i64 xgo.ve, .int .i64 xgo.bo, .int .i64 xgo.si, .string xgo.fr, .bool xdn, .bool xal, .slice va vn vc] 171) := ⟨_, rfl⟩
      obtain ⟨bx, hbx⟩ : ∃ bx, bx = wz.heap.size := ⟨_, rfl⟩
      have HTB : Hid (TwoL w10 wb (.slice a6 n6 c6) (.slice a7 n7 c7) (BL kk) (AL kk)) := Lib.hid (by rw [hwb]; exact HTL.out.al _)
      have HBO : Hid (bx < wb.heap.size ∧ offB bx (.slice a6 n6 c6) ∧ offB bx (.slice a7 n7 c7)) := Lib.hid ⟨by rw [hwb, hbx]; simp, own_off HTL.out.o6 (by omega), own_off HTL.out.o7 (by omega)⟩
      have hbb : wb.heap[bx]? = some (.cells #[.int .i64 (xca : Nat), .string xke, .int .i64 xma, .int .i64 xar, .bool xcm, .bool xkn, .int .i64 xbk, .int .i64 xgo.ve, .int .i64 xgo.bo, .int .i64 xgo.si, .string xgo.fr, .bool xdn, .bool xal, .slice va vn vc] 171 (0, 0)) := by rw [hwb, hbx]; exact block_new _ _
      have b5 : wb.cell? ⟨bx, 5, none⟩ = some (.bool xkn) := cellF hbb 5 rfl
      have b6 : wb.cell? ⟨bx, 6, none⟩ = some (.int .i64 xbk) := cellF hbb 6 rfl
      have b11 : wb.cell? ⟨bx, 11, none⟩ = some (.bool xdn) := cellF hbb 11 rfl
      have HBB := Lib.hid hbb
      have HWB' := Lib.hid hwb
      have HBX := Lib.hid hbx
      clear hck hB1 hA1 hbl hal hib hia hwb hbx hbb
      go_upto_region 14 with (fail)
      rw [← HWB'.out, ← HBX.out]
      clear k0 k1 k2 k3 k4 k5 k6 k7 k8 k9 k10 k11 k12 k13
      go_cut [123] from 111 to 140 (fun s123 W => s123 = .bool (xkn && (!xdn && (xbk == t))) ∧ wb = W)
      case first =>
       cases xkn
       ·go_wp2_with fail
        go_meet
        exact ⟨rfl, rfl⟩
       ·cases xdn
        ·go_wp2_with fail
         go_meet
         exact ⟨rfl, rfl⟩
        ·go_wp2_with fail
         go_meet
         exact ⟨rfl, rfl⟩
      obtain ⟨rfl, rfl⟩ := hcut
      generalize (xkn && (!xdn && (xbk == t))) = tb at HB1 ⊢
      go_upto_if 123 with (fail)
      go_cut [6] from 111 to 140 (fun s6 W => ∃ a n c, s6 = .slice a n c ∧ Aside (TwoL w10 W (.slice a n c) (.slice a7 n7 c7) (BL (kk + 1)) (AL kk) ∧ W.heap[bx]? = some (.cells #[.int .i64 (xca : Nat), .string xke, .int .i64 xma, .int .i64 xar, .bool xcm, .bool xkn, .int .i64 xbk, .int .i64 xgo.ve, .int .i64 xgo.bo, .int .i64 xgo.si, .string xgo.fr, .bool xdn, .bool xal, .slice va vn vc] 171 (0, 0)) ∧ offB bx (.slice a7 n7 c7)))
      case first =>
       have hnb : (BL kk).length * 8 ≤ 140737488355328 := by have := HBL.out.1; omega
       have HOA : Hid (Own (wb.alloc (.cells #[.int .i64 (kk : Nat)] 3 (0, 0))) w10.heap.size 3 1 encJ (.slice a6 n6 c6) (BL kk)) := Lib.hid (HTB.out.o6.al _)
       have hszb : w10.heap.size ≤ (wb.alloc (.cells #[.int .i64 (kk : Nat)] 3 (0, 0))).heap.size := by have := HTB.out.b.size; simp; omega
       cases tb
       ·have HE1 : Hid (BL (kk + 1) = BL kk) := Lib.hid (by rw [HB1.out, if_neg (by simp)])
        go_wp2_with fail
        go_meet
        exact ⟨a6, n6, c6, rfl, (show Aside (_ ∧ _ ∧ _) from ⟨by rw [HE1.out]; exact HTB.out, HBB.out, HBO.out.2.2⟩)⟩
       ·have HE1 : Hid (BL (kk + 1) = BL kk ++ [kk]) := Lib.hid (by rw [HB1.out, if_pos rfl])
        go_wp2_with (at_builtin; refine wpList_pushB rfl (.tmp 124) (.tmp 126) 168 rfl slI (by decide) rfl rfl (kk : Nat) rfl rfl HOA.out (block_new _ _) hnb hszb ?_; intro v7 w7 ho7 hb7 hk7; have HO7 := Lib.hid ho7; have HB7 := Lib.hid hb7; have HK7 := Lib.hid hk7; clear ho7 hb7 hk7)
        go_meet
        obtain ⟨a, n, c, rfl⟩ := Own.slv encJ_len HO7.out
        obtain ⟨e1, -⟩ := HK7.out bx (by have := HBO.out.1; simp; omega) HBO.out.2.1
        have hT : TwoL w10 (wb.alloc (.cells #[.int .i64 (kk : Nat)] 3 (0, 0))) (.slice a6 n6 c6) (.slice a7 n7 c7) (BL kk) (AL kk) := HTB.out.al _
        exact ⟨a, n, c, rfl, (show Aside (_ ∧ _ ∧ _) from ⟨by rw [HE1.out]; exact hT.push6 HO7.out HB7.out HK7.out, e1.trans ((Below.heap_alloc wb _ _ HBO.out.1).trans HBB.out), HBO.out.2.2⟩)⟩
      obtain ⟨a8, n8, c8, rfl, TC⟩ := hcut
      have HTC := Lib.hid TC.out.1
      have hbb := TC.out.2.1
      have d3 : wc.cell? ⟨bx, 3, none⟩ = some (.int .i64 xar) := cellF hbb 3 rfl
      have d4 : wc.cell? ⟨bx, 4, none⟩ = some (.bool xcm) := cellF hbb 4 rfl
      clear TC hbb b5 b6 b11 HTB HBO HBB
      have hnb : (AL kk).length * 8 ≤ 140737488355328 := by have := HBL.out.2; omega
      have HOA : Hid (Own (wc.alloc (.cells #[.int .i64 (kk : Nat)] 3 (0, 0))) w10.heap.size 3 1 encJ (.slice a7 n7 c7) (AL kk)) := Lib.hid (HTC.out.o7.al _)
      have hszb : w10.heap.size ≤ (wc.alloc (.cells #[.int .i64 (kk : Nat)] 3 (0, 0))).heap.size := by have := HTC.out.b.size; simp; omega
      cases xcm
      ·cases htb : (xar == t)
       ·have HE1 : Hid (AL (kk + 1) = AL kk) := Lib.hid (by rw [HA1.out, htb]; rfl)
        go_wp2_with fail
        go_roundg (nk - (kk + 1))
        case measure => omega
        case rel => exact ⟨kk + 1, by omega, by omega, by go_num, a8, n8, c8, a7, n7, c7, rfl, rfl, (show Aside _ from by rw [HE1.out]; exact HTC.out)⟩
       ·have HE1 : Hid (AL (kk + 1) = AL kk ++ [kk]) := Lib.hid (by rw [HA1.out, htb]; rfl)
        go_wp2_with (at_builtin; refine wpList_pushB rfl (.tmp 137) (.tmp 139) 168 rfl slI (by decide) rfl rfl (kk : Nat) rfl rfl HOA.out (block_new _ _) hnb hszb ?_; intro v7 w7 ho7 hb7 hk7; have HO7 := Lib.hid ho7; have HB7 := Lib.hid hb7; have HK7 := Lib.hid hk7; clear ho7 hb7 hk7)
        obtain ⟨a, n, c, rfl⟩ := Own.slv encJ_len HO7.out
        have hT : TwoL w10 (wc.alloc (.cells #[.int .i64 (kk : Nat)] 3 (0, 0))) (.slice a8 n8 c8) (.slice a7 n7 c7) (BL (kk + 1)) (AL kk) := HTC.out.al _
        have HTN := Lib.hid (hT.push7 HO7.out HB7.out HK7.out)
        clear hT
        go_roundg (nk - (kk + 1))
        case measure => omega
        case rel => exact ⟨kk + 1, by omega, by omega, by go_num, a8, n8, c8, a, n, c, rfl, rfl, (show Aside _ from by rw [HE1.out]; exact HTN.out)⟩
      ·have HE1 : Hid (AL (kk + 1) = AL kk) := Lib.hid (by rw [HA1.out]; rfl)
       go_wp2_with fail
       go_roundg (nk - (kk + 1))
       case measure => omega
       case rel => exact ⟨kk + 1, by omega, by omega, by go_num, a8, n8, c8, a7, n7, c7, rfl, rfl, (show Aside _ from by rw [HE1.out]; exact HTC.out)⟩
    ·obtain rfl : kk = nk := by omega
     have hlkz : ¬ (kk : Int) < (kk : Int) := by omega
     have HBK : Hid ((BL kk).length ≤ kk) := Lib.hid (HLS.out kk).2.2.1
     have HAK : Hid ((AL kk).length ≤ 1000000) := Lib.hid (by have := (HLS.out kk).2.2.2; omega)
     clear HLS HL0 HIB HKE
     obtain ⟨o7, A7, hs7, hn7⟩ := HS10.out.num HTL.out.o7 (Nat.le_refl _) HTL.out.b
     have HS7 := Lib.hid hs7
     have HN7 := Lib.hid hn7
     have hbl : (BL kk).length ≤ 1000000 := by
      have h1 := HBA.out.1.m
      have h2 : (BL kk).length ≤ kk := HBK.out
      omega
     have hor := order_st hs7 (BL kk) (.slice a6 n6 c6) (HTL.out.o6.sl encJ_len) (fun j hj => ((HBA.out.1.m j).1 hj).1) hbl
     have HOR := Lib.hid hor
     have HSR : Hid (Srt Xc Xc.isBk (ordA Xc (BL kk)) ∧ (ordA Xc (BL kk)).length ≤ 61200) := Lib.hid ⟨HBA.out.1.srt, by
      have h1 := (ordA_spec (X := Xc) HBA.out.1.o (k := (BL kk).length) (Nat.le_refl _)).2.2
      rw [List.take_length] at h1
      have h2 : (BL kk).length ≤ kk := HBK.out
      omega⟩
     obtain ⟨S, hS⟩ : ∃ S, S = ordA Xc (BL kk) := ⟨_, rfl⟩
     rw [← hS] at HOR HSR
     have HAR : Hid (AllA Xc Xc.isAr (AL kk) ∧ (AL kk).length ≤ 1000000) := Lib.hid ⟨HBA.out.2, by have := HAK.out; omega⟩
     obtain ⟨l7, hl7⟩ : ∃ l7, l7 = AL kk := ⟨_, rfl⟩
     rw [← hl7] at HAR HN7
     clear hs7 hn7 hbl hor hS hl7 HTL HBA HS10 HNK HBK HAK hak1
     go_wp2_with (go_at_call 101; (with_reducible refine HOR.out.mono ?_); rintro e w11 ⟨v11, rfl, ho11, hb11⟩; obtain ⟨o11, A11, hs11, hn11⟩ := HS7.out.num ho11 (Nat.le_refl _) hb11; obtain ⟨a11, c11, rfl, -⟩ := ho11.sl encJ_len; have HS11 := Lib.hid hs11; have HN11 := Lib.hid hn11; clear ho11 hb11 hs11 hn11)
     obtain ⟨xs2, hxs2⟩ : ∃ xs2, xs2 = (A.x ++ o7) ++ o11 := ⟨_, rfl⟩
     rw [← hxs2] at HS11
     have HX2 : Hid ((∀ p, p ∈ o7 → p ∈ xs2) ∧ ∀ p, p ∈ o11 → p ∈ xs2) := Lib.hid (by
      rw [hxs2]
      exact ⟨fun p hp => List.mem_append_left _ (List.mem_append_right _ hp), fun p hp => List.mem_append_right _ hp⟩)
     have HX3 : Hid (∃ ys, xs2 = A.x ++ ys) := Lib.hid ⟨o7 ++ o11, by rw [hxs2, List.append_assoc]⟩
     have hsl : S.length ≤ 61200 := HSR.out.2
     clear hxs2 HS7 HOR
     go_loopg [11, 12, 14, 146] S.length (fun gg s11 s12 s14 s146 wr => ∃ (kb : Nat) (Xd' : Xd) (Ad : Rdr), kb ≤ S.length ∧ S.length - kb ≤ gg ∧ s146 = .int .i64 kb ∧ Aside ((StX w B A xs2 wr Ad Xd' ∧ RInv C R E P L lim .bak Xd' ∧ Lee C P L (¬ (X0.pg < P.length ∧ (P.getD X0.pg default).ti = X0.no)) X0 Xd') ∧ Xd'.no = t ∧ Srt Xd' Xd'.isBk (S.drop kb) ∧ AllA Xd' Xd'.isAr l7))
     case atStart => exact ⟨0, Xc, A11, Nat.zero_le _, by omega, rfl, (show Aside (_ ∧ _ ∧ _ ∧ _) from ⟨⟨HS11.out, HRB.out, HL1.out⟩, HNC.out, HSR.out.1, HAR.out.1⟩)⟩
     case round =>
      obtain ⟨wy, rfl⟩ : ∃ wy, wy = wr := ⟨_, rfl⟩
      obtain ⟨kb, Y, Ad, hkb, hkbg, rfl, ST⟩ := hrel
      have HST := Lib.hid ST.out.1.1
      have HRI := Lib.hid ST.out.1.2.1
      have HLE1 := Lib.hid ST.out.1.2.2
      have HNY := Lib.hid ST.out.2.1
      have HSY := Lib.hid ST.out.2.2.1
      have HAY := Lib.hid ST.out.2.2.2
      clear ST
      by_cases hlb : kb < S.length
      ·as_aux_lemma =>
        have hlbz : (kb : Int) < (S.length : Int) := by omega
        have hsd := List.drop_eq_getElem_cons hlb
        obtain ⟨i, hi⟩ : ∃ i, S[kb]? = some i := ⟨_, List.getElem?_eq_getElem hlb⟩
        have hi' : S[kb] = i := by rw [List.getElem?_eq_getElem hlb] at hi; exact Option.some.inj hi
        rw [hi'] at hsd
        have hsr := HSY.out
        rw [hsd] at hsr
        have hnb : Y.nextB = some i := hsr.least
        obtain ⟨⟨b1, b2, b3, b4⟩, -⟩ := nextB_some hnb
        have HNX : Hid (Y.next C R E P L lim .bak = some (.bak, Y.backX C R P i)) := Lib.hid (by unfold Xd.next; dsimp only; rw [hnb])
        have HSRI := Lib.hid hsr
        have HBI := Lib.hid (And.intro b1 (And.intro b2 (And.intro b3 b4)))
        have hV : ∀ (i : Nat) (x : Cch), C[i]? = some x → 1 ≤ x.de ∧ x.de ≤ 100000 := fun i x hx => (HV.out.cd i x hx).1
        have HVV := Lib.hid hV
        obtain ⟨ab, abc, eS, -, -, -, nel⟩ := HN11.out wy fun p hp => HST.out.all p (HX2.out.2 p hp)
        simp only [Value.slice.injEq, true_and] at eS
        obtain ⟨rfl, rfl⟩ := eS
        obtain ⟨sb, soff, rfl, hsc⟩ := nel kb i hi
        have s0 : wy.cell? ⟨sb, soff + kb, none⟩ = some (.int .i64 (i : Nat)) := by have h := hsc 0 _ rfl; simpa using h
        have HKK : Hid ((Y.K i).ca < C.length) := Lib.hid (HRI.out.inv.kk i _ (Xd.at_ b1)).1
        have HAO : Hid (AnsOk (Y.K i).go) := Lib.hid (HRI.out.inv.an i _ (Xd.at_ b1) b2)
        have hxd := HRI.out.inv.done b1 b2 b3
        have HXD := Lib.hid hxd
        have HHN := Lib.hid (back_hno HRI.out.inv b1 b2 b3 b4)
        obtain ⟨v, hiv⟩ := HST.out.rd.at_ b1
        obtain ⟨va, vc, hve, -⟩ := (HST.out.rd.wait hiv).sl encX_len
        have hve : v = .slice va (Y.K i).ws.length vc := hve
        subst hve
        obtain ⟨nw, hnw⟩ : ∃ nw, nw = (Y.K i).ws.length := ⟨_, rfl⟩
        rw [← hnw] at hiv
        obtain ⟨k, hk⟩ : ∃ k, k = Y.K i := ⟨_, rfl⟩
        have HK := Lib.hid hk
        rw [← hk] at hiv
        have HNE : Hid (Ad.ks ≠ []) := Lib.hid (fun e => by rw [e] at hiv; cases hiv)
        obtain ⟨g, cap, hgv, hg1, hg2, hg3, hg4, hgc, hgf⟩ := Own.getk encK_len HST.out.rd.asks HNE.out
        have q7 : wy.cell? ⟨A.q, 7, none⟩ = some (.slice (some ⟨g, 0, none⟩) Ad.ks.length cap) := by rw [(HQC.out _ _ _ _ HST.out wy (Below.refl _ _)).2.2.2.1, hgv]
        have k0 : wy.cell? ⟨g, i * 14, none⟩ = some (.int .i64 (k.ca : Nat)) := by have h := hgc i _ 0 _ hiv rfl; simpa using h
        have k1 : wy.cell? ⟨g, i * 14 + 1, none⟩ = some (.string k.ke) := hgc i _ 1 _ hiv rfl
        have k2 : wy.cell? ⟨g, i * 14 + 2, none⟩ = some (.int .i64 k.ma) := hgc i _ 2 _ hiv rfl
        have k3 : wy.cell? ⟨g, i * 14 + 3, none⟩ = some (.int .i64 k.ar) := hgc i _ 3 _ hiv rfl
        have k4 : wy.cell? ⟨g, i * 14 + 4, none⟩ = some (.bool k.cm) := hgc i _ 4 _ hiv rfl
        have k5 : wy.cell? ⟨g, i * 14 + 5, none⟩ = some (.bool k.kn) := hgc i _ 5 _ hiv rfl
        have k6 : wy.cell? ⟨g, i * 14 + 6, none⟩ = some (.int .i64 k.bk) := hgc i _ 6 _ hiv rfl
        have k7 : wy.cell? ⟨g, i * 14 + 7, none⟩ = some (.int .i64 k.go.ve) := hgc i _ 7 _ hiv rfl
        have k8 : wy.cell? ⟨g, i * 14 + 8, none⟩ = some (.int .i64 k.go.bo) := hgc i _ 8 _ hiv rfl
        have k9 : wy.cell? ⟨g, i * 14 + 9, none⟩ = some (.int .i64 k.go.si) := hgc i _ 9 _ hiv rfl
        have k10 : wy.cell? ⟨g, i * 14 + 10, none⟩ = some (.string k.go.fr) := hgc i _ 10 _ hiv rfl
        have k11 : wy.cell? ⟨g, i * 14 + 11, none⟩ = some (.bool k.dn) := hgc i _ 11 _ hiv rfl
        have k12 : wy.cell? ⟨g, i * 14 + 12, none⟩ = some (.bool k.al) := hgc i _ 12 _ hiv rfl
        have k13 : wy.cell? ⟨g, i * 14 + 13, none⟩ = some (.slice va nw vc) := hgc i _ 13 _ hiv rfl
        have hiz : (i : Int) < (Ad.ks.length : Int) := by have := (List.getElem?_eq_some_iff.1 hiv).1; omega
        have hi0 : (0 : Int) ≤ (i : Int) := by omega
        have HNW : Hid (nw = k.ws.length ∧ nw ≤ 61200) := Lib.hid ⟨by rw [hnw, hk], by
         obtain ⟨n, hcn, hn⟩ := HRI.out.cap
         have h1 := wait_le b1 b3
         have h2 := hcn.wt
         omega⟩
        obtain ⟨wb, hwb⟩ : ∃ wb, wb = wy.alloc (.cells #[.int .i64 (k.ca : Nat), .string k.ke, .int .i64 k.ma, .int .i64 k.ar, .bool k.cm, .bool k.kn, .int .i64 k.bk, .int .i64 k.go.ve, .int .i64 k.go.bo, .int .i64 k.go.si, .string k.go.fr, .bool k.dn, .bool k.al, .slice va nw vc] 171) := ⟨_, rfl⟩
        obtain ⟨bx, hbx⟩ : ∃ bx, bx = wy.heap.size := ⟨_, rfl⟩
        obtain ⟨oB, hoB⟩ : ∃ oB : Obj, oB = .cells #[.int .i64 (k.ca : Nat), .string k.ke, .int .i64 k.ma, .int .i64 k.ar, .bool k.cm, .bool k.kn, .int .i64 k.bk, .int .i64 k.go.ve, .int .i64 k.go.bo, .int .i64 k.go.si, .string k.go.fr, .bool k.dn, .bool k.al, .slice va nw vc] 171 (0, 0) := ⟨_, rfl⟩
        have hsb := HST.out.add oB
        rw [hoB, ← hwb, ← hbx, ← hoB] at hsb
        have HOB := Lib.hid hoB
        obtain ⟨AB, hAB⟩ : ∃ AB, AB = { Ad with x := Ad.x ++ [(bx, oB)] } := ⟨_, rfl⟩
        rw [← hAB] at hsb
        have hkv2 : AB.kv = .slice (some ⟨g, 0, none⟩) AB.ks.length cap := by rw [hAB]; exact hgv
        have hks2 : AB.ks = Ad.ks := by rw [hAB]
        obtain ⟨AD, hsd2, hsnd⟩ := hsb.setA b1 hkv2 rfl hg1 11 (.bool true) { Y.K i with dn := true } rfl (by decide) (fun v => rfl)
        obtain ⟨ws, hws⟩ : ∃ ws, ws = wb.setCell ⟨g, i * 14 + 11, none⟩ (.bool true) := ⟨_, rfl⟩
        rw [← hws] at hsd2
        have HSD := Lib.hid hsd2
        have HSND : Hid ((AD.ks.map Prod.snd)[i]? = some (.slice va nw vc)) := Lib.hid (by rw [hsnd, hks2, List.getElem?_map, hiv]; rfl)
        have HWB' := Lib.hid hwb
        have HBX := Lib.hid hbx
        have HWS := Lib.hid hws
        have hgl : g < wb.heap.size := by rw [hwb]; simp; omega
        have hgal : ∀ c, wb.cell? ⟨g, c, none⟩ = wy.cell? ⟨g, c, none⟩ := fun c => by rw [hwb]; exact ((Below.refl wy.heap.size wy).alloc (Nat.le_refl _) _).cell (p := ⟨g, c, none⟩) hg2
        have kw11 : wb.cell? ⟨g, i * 14 + 11, none⟩ = some (.bool k.dn) := (hgal _).trans k11
        have kwf : wb.frozen? ⟨g, i * 14 + 11, none⟩ = false := by
         obtain ⟨g', cap', hgv', -, -, -, -, -, hf⟩ := Own.getk encK_len hsb.rd.asks (by rw [hks2]; exact HNE.out)
         rw [hkv2] at hgv'
         simp only [Value.slice.injEq, Option.some.injEq, Addr.mk.injEq, and_true] at hgv'
         obtain ⟨rfl, -, -⟩ := hgv'
         exact hf _
        have q7b : wb.cell? ⟨A.q, 7, none⟩ = some (.slice (some ⟨g, 0, none⟩) Ad.ks.length cap) := by rw [(HQC.out _ _ _ _ hsb wb (Below.refl _ _)).2.2.2.1, hkv2, hks2]
        have hbb := hsd2.all (bx, oB) (List.mem_append_right _ (List.mem_singleton.2 rfl))
        have hbb : ws.heap[bx]? = some oB := hbb
        rw [hoB] at hbb
        have d0 : ws.cell? ⟨bx, 0, none⟩ = some (.int .i64 (k.ca : Nat)) := cellF hbb 0 rfl
        have d9 : ws.cell? ⟨bx, 9, none⟩ = some (.int .i64 k.go.si) := cellF hbb 9 rfl
        have hil : (Y.K i).ca < Y.ld.length := by rw [HRI.out.inv.le.2.1]; exact HKK.out
        have hln : Y.ld ≠ [] := fun e => by rw [e] at hil; cases hil
        obtain ⟨gl, lcp, hlv, hl1, hl2, hl3, hl4, hlc, hlf⟩ := Own.getk encD_len hsd2.rd.lds hln
        have hla : A.lv = .slice (some ⟨gl, 0, none⟩) Y.ld.length lcp := by rw [← hsd2.le.lv]; exact hlv
        obtain ⟨z, hz⟩ : ∃ z, z = Y.Ld (Y.K i).ca := ⟨_, rfl⟩
        have hle : Y.ld[(Y.K i).ca]? = some z := by rw [hz]; exact getD_some hil
        have l5 : ws.cell? ⟨gl, (Y.K i).ca * 6 + 5, none⟩ = some (.int .i64 z.bs) := hlc _ z 5 _ hle rfl
        have lf5 := hlf ((Y.K i).ca * 6 + 5)
        have q10 : ws.cell? ⟨A.q, 10, none⟩ = some (.slice (some ⟨gl, 0, none⟩) Y.ld.length lcp) := by rw [(HQC.out _ _ _ _ hsd2 ws (Below.refl _ _)).2.2.2.2.2.1, hla]
        have hilz : (k.ca : Int) < (Y.ld.length : Int) := by rw [hk]; omega
        have hil0 : (0 : Int) ≤ (k.ca : Int) := by omega
        have hbg : ¬ bx = gl := fun e => by
         have h1 := hsd2.rd.offX (k := xs2.length) (b := bx) (o := oB) (by rw [hsd2.le.x]; simp)
         exact h1.2.2.2.1 _ _ _ hlv e.symm
        have hgq : ¬ A.q = gl := fun e => by
         have h1 := hsd2.rd.offQ.2.2.2 _ _ _ hlv
         rw [hsd2.aq] at h1
         exact h1 e.symm
        have hsi := ans_si HAO.out
        rw [← hk] at hsi l5 lf5
        have hbs : 0 ≤ z.bs ∧ z.bs ≤ 61200000000000 := by
         obtain ⟨n, hcn, hn⟩ := HRI.out.cap
         have h1 := (hcn.ld (Y.K i).ca).2.2.2
         rw [← hz] at h1
         omega
        have hwn : IntKind.i64.wrap (z.bs + k.go.si) = z.bs + k.go.si := IntWalk.i64_in _ (by omega)
        have hsl2 : StX w B A (xs2 ++ [(bx, oB)]) (ws.setCell ⟨gl, k.ca * 6 + 5, none⟩ (.int .i64 (z.bs + k.go.si))).drew AD (Y.doneX i) := by
         have h1 := hsd2.setL (i := (Y.K i).ca) hil hla hl1 5 (.int .i64 (z.bs + k.go.si)) (ldBs (Y.K i).go.si) (by decide) (by
          show encD (ldBs (Y.K i).go.si (Y.Ld (Y.K i).ca)) = (encD (Y.Ld (Y.K i).ca)).set 5 _
          rw [← hz, ← hk]; rfl)
         rw [← hk] at h1
         have h2 := h1.below (Below.refl _ _).drew
         have e : ((Y.setA i { k with dn := true }).setL k.ca (ldBs k.go.si)) = Y.doneX i := by rw [hk]; rfl
         rw [e] at h2
         exact h2
        obtain ⟨wl, hwl⟩ : ∃ wl, wl = (ws.setCell ⟨gl, k.ca * 6 + 5, none⟩ (.int .i64 (z.bs + k.go.si))).drew := ⟨_, rfl⟩
        rw [← hwl] at hsl2
        have HSL := Lib.hid hsl2
        have HWL := Lib.hid hwl
        clear hsd hi hi' hsr hnb b1 b2 b3 b4 hV nel hsc hxd hiv hgv hg3 hg4 hgc hgf hk hnw hwb hbx hsb hAB hoB hkv2 hks2 hsd2 hsnd hws hgal hbb hil hln hlv hl3 hl4 hlc hlf hla hz hle hsl2 hwl hbs hsi hg2 hl2 hg1 hl1
        go_upto_region 23 with (fail)
        rw [← HWB'.out, ← HBX.out]
        clear s0 q7 k0 k1 k2 k3 k4 k5 k6 k7 k8 k9 k10 k11 k12 k13
        go_upto_region 24 with (fail)
        rw [← HWS.out]
        clear kw11 kwf q7b
        go_big_region
        rw [← HWL.out]
        clear l5 lf5 q10 d0 d9
        obtain ⟨xs3, hxs3⟩ : ∃ xs3, xs3 = xs2 ++ [(bx, oB)] := ⟨_, rfl⟩
        rw [← hxs3] at HSL
        have HX4 : Hid ((bx, oB) ∈ xs3 ∧ xs3 = xs2 ++ [(bx, oB)]) := Lib.hid ⟨by rw [hxs3]; exact List.mem_append_right _ (List.mem_singleton.2 rfl), hxs3⟩
        have HBXW : Hid (∀ (W : World) (A' : Rdr) (X' : Xd), StX w B A xs3 W A' X' → ∀ V : World, Below W.heap.size W V → (V.cell? ⟨bx, 0, none⟩ = some (.int .i64 (k.ca : Nat)) ∧ V.cell? ⟨bx, 1, none⟩ = some (.string k.ke)) ∧ (V.cell? ⟨bx, 7, none⟩ = some (.int .i64 k.go.ve) ∧ V.cell? ⟨bx, 8, none⟩ = some (.int .i64 k.go.bo) ∧ V.cell? ⟨bx, 9, none⟩ = some (.int .i64 k.go.si) ∧ V.cell? ⟨bx, 10, none⟩ = some (.string k.go.fr)) ∧ V.cell? ⟨bx, 12, none⟩ = some (.bool k.al) ∧ V.cell? ⟨bx, 13, none⟩ = some (.slice va nw vc)) := Lib.hid fun W A' X' hs V hV => by
         have h0 := hs.all _ HX4.out.1
         have hb : V.heap[bx]? = some oB := (hV.block bx (Array.getElem?_eq_some_iff.1 h0).1).trans h0
         rw [HOB.out] at hb
         exact ⟨⟨cellF hb 0 rfl, cellF hb 1 rfl⟩, ⟨cellF hb 7 rfl, cellF hb 8 rfl, cellF hb 9 rfl, cellF hb 10 rfl⟩, cellF hb 12 rfl, cellF hb 13 rfl⟩
        obtain ⟨-, -, -, y13⟩ := HBXW.out _ _ _ HSL.out wl (Below.refl _ _)
        clear hxs3
        go_wp2_with fail
        clear y13
        have hnw : nw ≤ 61200 := HNW.out.2
        go_loopg [14, 182] nw (fun gg s14 s182 wr => ∃ (kq : Nat) (Ae : Rdr), kq ≤ nw ∧ nw - kq ≤ gg ∧ s182 = .int .i64 kq ∧ Aside (StX w B A xs3 wr Ae ((Y.doneX i).givesX C (k.ws.take kq) k.go) ∧ Ae.ks.map Prod.snd = AD.ks.map Prod.snd ∧ XInv C P L (k.ws.drop kq) ((Y.doneX i).givesX C (k.ws.take kq) k.go)))
        case atStart => exact ⟨0, AD, Nat.zero_le _, by omega, rfl, (show Aside (_ ∧ _ ∧ _) from ⟨HSL.out, rfl, by have h1 := HXD.out; rw [List.append_nil] at h1; rw [HK.out]; exact h1⟩)⟩
        case round =>
         obtain ⟨wq, rfl⟩ : ∃ wq, wq = wr := ⟨_, rfl⟩
         obtain ⟨kq, Ae, hkq, hkqg, rfl, SQ⟩ := hrel
         have HSQ := Lib.hid SQ.out.1
         have HSQ2 := Lib.hid SQ.out.2.1
         have HSQ3 := Lib.hid SQ.out.2.2
         clear SQ
         by_cases hlq : kq < nw
         ·have hlqz : (kq : Int) < (nw : Int) := by omega
          have hlk2 : kq < k.ws.length := by rw [← HNW.out.1]; exact hlq
          obtain ⟨wt, hwt⟩ : ∃ wt, k.ws[kq]? = some wt := ⟨_, List.getElem?_eq_getElem hlk2⟩
          have hwd : k.ws.drop kq = wt :: k.ws.drop (kq + 1) := by
           rw [List.drop_eq_getElem_cons hlk2]
           rw [List.getElem?_eq_getElem hlk2] at hwt
           rw [Option.some.inj hwt]
          obtain ⟨Z, hZ⟩ : ∃ Z, Z = (Y.doneX i).givesX C (k.ws.take kq) k.go := ⟨_, rfl⟩
          have HZN : Hid ((Y.doneX i).givesX C (k.ws.take (kq + 1)) k.go = Z.giveX C wt k.go) := Lib.hid (by rw [hZ]; unfold Xd.givesX; exact foldl_takeB hwt)
          have hzw := gives_ws (C := C) (a := k.go) (k.ws.take kq) (Y.doneX i)
          rw [← hZ] at hzw HSQ HSQ3
          have HXI : Hid (XInv C P L (wt :: k.ws.drop (kq + 1)) Z) := Lib.hid (by rw [← hwd]; exact HSQ3.out)
          have hiZ : i < Z.ak.length := by rw [hzw.1]; show i < (Y.ak.set _ _).length; rw [List.length_set]; exact HBI.out.1
          have hzk : (Z.K i).ws = k.ws := by
           rw [(hzw.2 i).1]
           show ((Y.setA i { Y.K i with dn := true }).K i).ws = _
           rw [Xd.setA_K HBI.out.1, if_pos rfl, HK.out]
          have hzc : ∀ j, (Z.K j).ca = ((Y.doneX i).K j).ca := fun j => (hzw.2 j).2
          have hzn : Z.no = Y.no := (gives_no (C := C) (a := k.go) (k.ws.take kq) (Y.doneX i)).symm ▸ by rw [hZ]
          obtain ⟨v, hv'⟩ := HSQ.out.rd.at_ hiZ
          have hvv : v = .slice va nw vc := by
           have h1 := HSND.out
           rw [← HSQ2.out, List.getElem?_map, hv'] at h1
           exact Option.some.inj h1
          have how := HSQ.out.rd.wait hv'
          rw [hvv] at how
          have how : Own wq B 177 3 encX (.slice va nw vc) (Z.K i).ws := how
          rw [hzk] at how
          obtain ⟨wa, wcp, eW, -, -, -, wel⟩ := how.sl encX_len
          simp only [Value.slice.injEq] at eW
          obtain ⟨rfl, -, rfl⟩ := eW
          obtain ⟨b, off, rfl, hwc⟩ := wel kq wt hwt
          have c0 : wq.cell? ⟨b, off + kq * 3, none⟩ = some (.int .i64 (wgI wt)) := by have h := hwc 0 _ rfl; simpa using h
          have c1 : wq.cell? ⟨b, off + kq * 3 + 1, none⟩ = some (.int .i64 wt.ho) := hwc 1 _ rfl
          have c2 : wq.cell? ⟨b, off + kq * 3 + 2, none⟩ = some (.int .i64 (waI wt)) := hwc 2 _ rfl
          have hno : ∀ j, wt.ak = some j → X0.no ≤ 1000000000000 + 100000 * (30 + ((Z.K j).ca : Int)) := fun j hj => by
           have h1 := HHN.out wt (by rw [← HK.out]; exact List.mem_of_getElem? hwt) j hj
           rw [hzc j]
           have h2 := HNY.out
           have h3 := HNO0.out
           omega
          have HZ1 : Hid (XInv C P L (k.ws.drop (kq + 1)) (Z.giveX C wt k.go)) := Lib.hid (XInv.give HXI.out HVV.out (by rw [HK.out]; exact HAO.out) (fun j hj => by
           have h1 := hno j hj
           have h2 := HNY.out
           have h3 := HNO0.out
           rw [hzn]
           omega))
          obtain ⟨wx, hwx⟩ : ∃ wx, wx = wq.alloc (.cells #[.int .i64 (wgI wt), .int .i64 wt.ho, .int .i64 (waI wt)] 177) := ⟨_, rfl⟩
          obtain ⟨N, hN⟩ : ∃ N, N = wq.heap.size := ⟨_, rfl⟩
          have hbx2 : Below wq.heap.size wq wx := by rw [hwx]; exact (Below.refl _ wq).alloc (Nat.le_refl _) _
          have hnn : wx.heap[N]? = some (.cells #[.int .i64 (wgI wt), .int .i64 wt.ho, .int .i64 (waI wt)] 177 (0, 0)) := by rw [hN, hwx]; exact block_new _ _
          have n0 : wx.cell? ⟨N, 0, none⟩ = some (.int .i64 (wgI wt)) := cellF hnn 0 rfl
          have n1 : wx.cell? ⟨N, 1, none⟩ = some (.int .i64 wt.ho) := cellF hnn 1 rfl
          have n2 : wx.cell? ⟨N, 2, none⟩ = some (.int .i64 (waI wt)) := cellF hnn 2 rfl
          have hsx := HSQ.out.below hbx2
          obtain ⟨-, ⟨y7, y8, y9, y10⟩, -⟩ := HBXW.out _ _ _ hsx wx (Below.refl _ _)
          have hgo : Z.go.length = L.length := HSQ3.out.le.2.2.1
          have hnx : Z.nx ≤ L.length := HSQ3.out.le.2.2.2.1
          have hzno := HSQ3.out.no
          have HGV := Lib.hid (give_st hsx HE.out HW.out wt k.go (fun hw => by have := HXI.out.wg wt (List.mem_cons_self ..) hw; omega) (fun j hj => by
           obtain ⟨g1, -, -⟩ := HXI.out.wk wt (List.mem_cons_self ..) j hj
           exact ⟨g1, (HSQ3.out.kk j _ (Xd.at_ g1)).1⟩) ⟨hzno.1, by have := hzno.2; omega⟩ (val_de HV.out))
          have HWX := Lib.hid hwx
          have HN := Lib.hid hN
          clear hwt hwd hZ hzw hiZ hzk hzc hzn hv' hvv how wel hwc hno hwx hN hbx2 hnn hsx hgo hnx hzno
          generalize wgI wt = x0 at c0 n0 HGV HWX
          generalize waI wt = x2 at c2 n2 HGV HWX
          generalize wt.ho = x1 at c1 n1 HGV HWX
          go_upto_region 28 with (fail)
          rw [← HWX.out, ← HN.out]
          clear c0 c1 c2
          go_wp2_with (go_at_call 102; (with_reducible refine HGV.out.mono ?_); rintro e w13 ⟨A13, rfl, h13, s13⟩; have HS13 := Lib.hid h13; have HN13 := Lib.hid s13; clear h13 s13)
          go_roundg (nw - (kq + 1))
          case measure => omega
          case rel => exact ⟨kq + 1, A13, by omega, by omega, by go_num, (show Aside (_ ∧ _ ∧ _) from ⟨by rw [HZN.out]; exact HS13.out, HN13.out.trans HSQ2.out, by rw [HZN.out]; exact HZ1.out⟩)⟩
         ·obtain rfl : kq = nw := by omega
          have hlqz : ¬ (kq : Int) < (kq : Int) := by omega
          obtain ⟨Z, hZ⟩ : ∃ Z, Z = (Y.doneX i).givesX C k.ws k.go := ⟨_, rfl⟩
          have HSZ : Hid (StX w B A xs3 wq Ae Z) := Lib.hid (by
           have h1 := HSQ.out
           rw [HNW.out.1, List.take_length, ← hZ] at h1
           exact h1)
          have HXZ : Hid (XInv C P L [] Z) := Lib.hid (by
           have h1 := HSQ3.out
           rw [HNW.out.1, List.take_length, List.drop_length, ← hZ] at h1
           exact h1)
          have hbk : Y.backX C R P i = if k.al = false then Z.keepX C R P k.ca k.ke k.go else Z := by
           unfold Xd.backX
           rw [← HK.out, ← hZ]
          have HBK2 := Lib.hid hbk
          have hgz := givesX_same (C := C) (a := k.go) k.ws (Y.doneX i)
          rw [← hZ] at hgz
          have HRN := Lib.hid (HRI.out.next HV.out HNX.out)
          have HMN := Lib.hid (mu_next HRI.out HV.out HNX.out (by simp))
          have hst := Sta.back (R := R) HRI.out.inv HVV.out HBI.out.1 HBI.out.2.1 HBI.out.2.2.1 HBI.out.2.2.2
          have HSB := Lib.hid (HSRI.out.back hst)
          have HAB := Lib.hid (HAY.out.ar hst)
          have HNN : Hid ((Y.backX C R P i).no = t) := Lib.hid (hst.no.trans HNY.out)
          obtain ⟨⟨y0, y1⟩, ⟨y7, y8, y9, y10⟩, y12, -⟩ := HBXW.out _ _ _ HSZ.out wq (Below.refl _ _)
          have hkr : k.al = false → KeepR C R P Z k.ca k.ke k.go := fun hal => by
           have hrl := HRI.out.al i _ (Xd.at_ HBI.out.1)
           rw [← HK.out] at hrl
           obtain ⟨n, hcn, hn⟩ := HRI.out.cap
           have hca := HKK.out
           have hao := HAO.out
           rw [← HK.out] at hca hao
           have hH : Z.H k.ca = Y.H k.ca := by unfold Xd.H; rw [hgz.2.2]; rfl
           exact keepR_of HV.out HXZ.out (by rw [hH]; exact hcn.he k.ca) (by omega) hca hao (hrl hal)
          have HKR := Lib.hid hkr
          clear hZ hbk hgz hst hkr
          cases hal : k.al with
          | true =>
           have HDR : Hid (∃ A', StX w B A xs2 wq A' (Y.backX C R P i)) := Lib.hid (by
            rw [HBK2.out, hal, if_neg (by simp)]
            have h1 := HSZ.out
            rw [HX4.out.2] at h1
            exact ⟨_, h1.drop⟩)
           obtain ⟨A14, h14⟩ := HDR.out
           have HS14 := Lib.hid h14
           rw [hal] at y12
           clear hal h14 HDR
           go_wp2_with fail
           go_roundg (S.length - (kb + 1))
           case measure => omega
           case rel => exact ⟨kb + 1, Y.backX C R P i, A14, by omega, by omega, by go_num, (show Aside (_ ∧ _ ∧ _ ∧ _) from ⟨⟨HS14.out, HRN.out, HLE1.out.step HMN.out⟩, HNN.out, HSB.out, HAB.out⟩)⟩
          | false =>
           have HKP := Lib.hid (keep_st HSZ.out HE.out HW.out k.ca k.ke k.go (HKR.out hal))
           have HBE : Hid (Y.backX C R P i = Z.keepX C R P k.ca k.ke k.go) := Lib.hid (by rw [HBK2.out, hal, if_pos rfl])
           rw [hal] at y12
           clear hal
           go_wp2_with (go_at_call 103; (with_reducible refine HKP.out.mono ?_); rintro e w15 ⟨A15, rfl, h15⟩; have HS15 := Lib.hid h15; clear h15)
           have HDR : Hid (∃ A', StX w B A xs2 w15 A' (Y.backX C R P i)) := Lib.hid (by
            rw [HBE.out]
            have h1 := HS15.out
            rw [HX4.out.2] at h1
            exact ⟨_, h1.drop⟩)
           obtain ⟨A14, h14⟩ := HDR.out
           have HS14 := Lib.hid h14
           clear h14 HDR
           go_roundg (S.length - (kb + 1))
           case measure => omega
           case rel => exact ⟨kb + 1, Y.backX C R P i, A14, by omega, by omega, by go_num, (show Aside (_ ∧ _ ∧ _ ∧ _) from ⟨⟨HS14.out, HRN.out, HLE1.out.step HMN.out⟩, HNN.out, HSB.out, HAB.out⟩)⟩
      ·obtain rfl : kb = S.length := by omega
       have hlbz : ¬ (S.length : Int) < (S.length : Int) := by omega
       have hnb : Y.nextB = none := by
        have h1 := HSY.out
        rw [List.drop_length] at h1
        exact h1.least
       have HNX : Hid (Y.next C R E P L lim .bak = some (.get, Y)) := Lib.hid (by unfold Xd.next; dsimp only; rw [hnb])
       have HRG := Lib.hid (HRI.out.next HV.out HNX.out)
       have HL2 : Hid (Lee C P L ((¬ (X0.pg < P.length ∧ (P.getD X0.pg default).ti = X0.no)) ∧ X0.nextB = none) X0 Y) := Lib.hid (HLE1.out.exit fun e f => ⟨f, by rw [← e]; exact hnb⟩)
       clear hnb HNX HRI HSY HLE1 HN11 HSR HS11 HRB HL1
       go_wp2_with fail
       go_loopg [15] L.length (fun gg s15 wr => ∃ (Xg : Xd) (Ag : Rdr), L.length - Xg.nx ≤ gg ∧ Aside ((StX w B A xs2 wr Ag Xg ∧ RInv C R E P L lim .get Xg ∧ Lee C P L ((¬ (X0.pg < P.length ∧ (P.getD X0.pg default).ti = X0.no)) ∧ X0.nextB = none) X0 Xg) ∧ Xg.no = t ∧ AllA Xg Xg.isAr l7))
       case atStart => exact ⟨Y, Ad, Nat.sub_le _ _, (show Aside (_ ∧ _ ∧ _) from ⟨⟨HST.out, HRG.out, HL2.out⟩, HNY.out, HAY.out⟩)⟩
       case round =>
        obtain ⟨wz, rfl⟩ : ∃ wz, wz = wr := ⟨_, rfl⟩
        obtain ⟨Xg, Ag, hgg, ST⟩ := hrel
        have HSG := Lib.hid ST.out.1.1
        have HRI := Lib.hid ST.out.1.2.1
        have HLG := Lib.hid ST.out.1.2.2
        have HNG := Lib.hid ST.out.2.1
        have HAG := Lib.hid ST.out.2.2
        clear ST HST HRG HL2 HNY HAY
        obtain ⟨⟨-, -, q4⟩, q5, -⟩ := HQC.out _ _ _ _ HSG.out wz (Below.refl _ _)
        have hnl := HRI.out.inv.le.2.2.2.1
        by_cases hp : Xg.nx < L.length ∧ (L.getD Xg.nx default).ti = t
        ·as_aux_lemma =>
          obtain ⟨hp1, hp2⟩ := hp
          obtain ⟨x, hx⟩ : ∃ x, L[Xg.nx]? = some x := ⟨_, List.getElem?_eq_getElem hp1⟩
          rw [getD_at hx] at hp2
          obtain ⟨-, hks, i, hci, hil⟩ := HV.out.lt x (List.mem_of_getElem? hx)
          obtain ⟨X2, hX2⟩ : ∃ X2, X2 = ({ Xg with nx := Xg.nx + 1 } : Xd).comeX C R P i x.ke Xg.nx none := ⟨_, rfl⟩
          have HNX : Hid (Xg.next C R E P L lim .get = some (.get, X2)) := Lib.hid (by
           unfold Xd.next
           dsimp only
           rw [getD_at hx, if_pos ⟨hp1, hp2.trans HNG.out.symm⟩, hX2, hci]
           rfl)
          have HX2E : Hid (X2 = { Xg.comeX C R P i x.ke Xg.nx none with nx := Xg.nx + 1 }) := Lib.hid (hX2.trans come_nx)
          have HRN := Lib.hid (HRI.out.next HV.out HNX.out)
          have HMN := Lib.hid (mu_next HRI.out HV.out HNX.out (by simp))
          have hde : 1 ≤ deO C i := (HV.out.cd i (C.getD i default) (by rw [List.getD_eq_getElem?_getD, List.getElem?_eq_getElem hil]; rfl)).1.1
          have hst : Sta none none Xg X2 := by
           rw [hX2]
           exact (Sta.same (X := Xg) (X' := ({ Xg with nx := Xg.nx + 1 } : Xd)) rfl rfl).trans (Sta.come (C := C) (R := R) (P := P) (i := i) (key := x.ke) (ge := Xg.nx) (ak := none) hde fun j h => by cases h)
          have HAN := Lib.hid (HAG.out.ar hst)
          have HNN : Hid (X2.no = t) := Lib.hid (hst.no.trans HNG.out)
          have HCR : Hid (ComeR C R P Xg i x.ke Xg.nx none) := Lib.hid (by
           obtain ⟨n, hcn, hn⟩ := HRI.out.cap
           exact comeR_of HV.out HRI.out.inv hcn (by omega) hil (fun _ => by rw [HRI.out.inv.le.2.2.1]; exact hp1) (fun j h => by cases h))
          obtain ⟨lb, loff, rfl, hlx⟩ := HLE.out _ _ hx
          obtain ⟨l0, l1, l2⟩ := hlx wz (HWB.out _ _ _ _ HSG.out)
          have HLX := Lib.hid hlx
          have hpz : (Xg.nx : Int) < (L.length : Int) := by omega
          have hp0 : (0 : Int) ≤ (Xg.nx : Int) := by omega
          have htb : (x.ti == t) = true := beq_iff_eq.2 hp2
          have HCI := Lib.hid hci
          clear hx hlx hp2 hX2 hst hde hci
          go_upto_region 33 with (fail)
          go_quiet (fail)
          obtain ⟨w2, hw2⟩ : ∃ w2, w2 = wz.drewN nq := ⟨_, rfl⟩
          have HS2 : Hid (StX w B A xs2 w2 Ag Xg) := Lib.hid (by rw [hw2]; exact HSG.out.below (below_drewN (Below.refl _ _) _))
          rw [← hw2]
          clear hw2 q4 q5 l0 l1 l2 htb
          have HQY : Hid (∀ V : World, Below w2.heap.size w2 V → V.cell? ⟨A.q, 4, none⟩ = some (.slice (some ⟨lb, loff, none⟩) L.length lc) ∧ V.cell? ⟨A.q, 5, none⟩ = some (.int .i64 (Xg.nx : Nat)) ∧ V.cell? ⟨lb, loff + Xg.nx * 3, none⟩ = some (.int .i64 x.ti) ∧ V.cell? ⟨lb, loff + Xg.nx * 3 + 1, none⟩ = some (.string x.ca) ∧ V.cell? ⟨lb, loff + Xg.nx * 3 + 2, none⟩ = some (.string x.ke)) := Lib.hid fun V hV => by
           obtain ⟨⟨-, -, z4⟩, z5, -⟩ := HQC.out _ _ _ _ HS2.out V hV
           obtain ⟨m0, m1, m2⟩ := HLX.out V ((HWB.out _ _ _ _ HS2.out).thru hV)
           exact ⟨z4, z5, m0, m1, m2⟩
          have HBQ : Hid (Below w2.heap.size w2 w2.drew) := Lib.hid (Below.refl _ w2).drew
          go_upto_region 35 with (fail)
          obtain ⟨N, hN⟩ : ∃ N, N = w2.heap.size := ⟨_, rfl⟩
          refine wp_region_held_drew (S := fun W => W.cell? ⟨A.q, 4, none⟩ = some (.slice (some ⟨lb, loff, none⟩) L.length lc) ∧ W.cell? ⟨A.q, 5, none⟩ = some (.int .i64 (Xg.nx : Nat)) ∧ W.cell? ⟨lb, loff + Xg.nx * 3, none⟩ = some (.int .i64 x.ti) ∧ W.cell? ⟨lb, loff + Xg.nx * 3 + 1, none⟩ = some (.string x.ca) ∧ W.cell? ⟨lb, loff + Xg.nx * 3 + 2, none⟩ = some (.string x.ke)) (by kernel_rfl) (HQY.out _ HBQ.out) (fun hHeld => ?_)
          refine tkS 0 236 hHeld ?_
          try simp only [pu]
          refine tkS 1 237 hHeld ?_
          try simp only [pu]
          refine tkS 2 238 hHeld ?_
          try simp only [pu]
          refine tkS 3 239 hHeld ?_
          try simp only [pu]
          refine tkS 4 240 hHeld ?_
          try simp only [pu]
          refine tkS 5 241 hHeld ?_
          try simp only [pu]
          refine tkS 6 242 hHeld ?_
          try simp only [pu]
          refine tkS 7 243 hHeld ?_
          try simp only [pu]
          refine tkS 8 244 hHeld ?_
          try simp only [pu]
          refine tkS 9 245 hHeld ?_
          try simp only [pu]
          have HBA := Lib.hid (HBQ.out.alloc HBQ.out.size (.cells #[.int .i64 0, .string ⟨#[]⟩, .string ⟨#[]⟩] 37 (0, 0)))
          have HBN := Lib.hid (block_new w2.drew (.cells #[.int .i64 0, .string ⟨#[]⟩, .string ⟨#[]⟩] 37 (0, 0)))
          have HBF := Lib.hid ((Below.refl w2.heap.size w2).alloc (Nat.le_refl _) (.cells #[.int .i64 x.ti, .string x.ca, .string x.ke] 37 (0, 0))).drew
          refine wpAnyH_ready (rs := [10]) (by kernel_rfl) (by simp) (AllReadyH.cons rfl (fun K hK => ?_) AllReadyH.nil)
          go_simp
          refine hK.out _ _ (HQY.out _ HBA.out) (fun hHeld => ?_)
          clear hK K
          try simp only [pu]
          have e0 := cellF HBN.out 0 (v := .int .i64 0) rfl
          have e1 := cellF HBN.out 1 (v := .string ⟨#[]⟩) rfl
          have e2 := cellF HBN.out 2 (v := .string ⟨#[]⟩) rfl
          have f0 := frozF HBN.out 0
          have f1 := frozF HBN.out 1
          have f2 := frozF HBN.out 2
          refine wpAnyH_ready (rs := [11]) (by kernel_rfl) (by simp) (AllReadyH.cons rfl (fun K hK => ?_) AllReadyH.nil)
          go_simp
          refine hK.out _ _ (HQY.out _ HBF.out) (fun hHeld => ?_)
          clear hK K
          try simp only [pu]
          clear e0 e1 e2 f0 f1 f2
          refine wpAnyH_done (by kernel_rfl) ?_ _
          clear hHeld
          rw [← hN]
          obtain ⟨w6, hw6⟩ : ∃ w6, w6 = (w2.alloc (.cells #[.int .i64 x.ti, .string x.ca, .string x.ke] 37)).drew := ⟨_, rfl⟩
          have hb6 : Below w2.heap.size w2 w6 := by rw [hw6]; exact HBF.out
          have hn6 : w6.heap[N]? = some (.cells #[.int .i64 x.ti, .string x.ca, .string x.ke] 37 (0, 0)) := by rw [hw6, hN]; exact block_new w2 _
          obtain ⟨oG, hoG⟩ : ∃ oG : Obj, oG = .cells #[.int .i64 x.ti, .string x.ca, .string x.ke] 37 (0, 0) := ⟨_, rfl⟩
          rw [← hoG] at hn6
          have hs6 : StX w B A (xs2 ++ [(N, oG)]) w6 { Ag with x := Ag.x ++ [(N, oG)] } Xg :=
           ⟨HS2.out.rd.addBlk (by rw [hN]; exact Nat.le_refl _) hn6 hb6, ⟨HS2.out.le.q, HS2.out.le.d0, HS2.out.le.d1, HS2.out.le.d2, HS2.out.le.d3, HS2.out.le.gt, HS2.out.le.hh, HS2.out.le.gv, HS2.out.le.lv, by show Ag.x ++ _ = xs2 ++ _; rw [HS2.out.le.x]⟩, HS2.out.be.trans (hb6.mono HS2.out.rd.base)⟩
          have HS6 := Lib.hid hs6
          have HOG := Lib.hid hoG
          have HSC : Hid (∀ (W : World) (A' : Rdr) (X' : Xd), StX w B A (xs2 ++ [(N, oG)]) W A' X' → X'.nx = Xg.nx → ∀ V : World, Below W.heap.size W V → V.cell? ⟨A.q, 0, none⟩ = some (.slice co C.length cc) ∧ V.cell? ⟨A.q, 5, none⟩ = some (.int .i64 (Xg.nx : Nat)) ∧ V.cell? ⟨N, 1, none⟩ = some (.string x.ca) ∧ V.cell? ⟨N, 2, none⟩ = some (.string x.ke)) := Lib.hid fun W A' X' hs hnx V hV => by
           obtain ⟨⟨z0, -, -⟩, z5, -⟩ := HQC.out _ _ _ _ hs V hV
           rw [hnx] at z5
           have h0 := hs.all (N, oG) (List.mem_append_right _ (List.mem_singleton.2 rfl))
           have hb : V.heap[N]? = some oG := (hV.block N (Array.getElem?_eq_some_iff.1 h0).1).trans h0
           rw [HOG.out] at hb
           exact ⟨z0, z5, cellF hb 1 rfl, cellF hb 2 rfl⟩
          have HCO : Hid (∀ V : World, Below w6.heap.size w6 V → Calls Tryz.prog 43 #[.slice co C.length cc, .string x.ca] V fun e w' => e = .returned (.int .i64 (i : Nat)) ∧ Below V.heap.size V w') := Lib.hid fun V hV => by
           have hsl := HE.out.c.below ((HWB.out _ _ _ _ HS6.out).thru hV) (Nat.le_refl _)
           rw [HE0.out] at hsl
           have h1 := cacheOf_any V C _ x.ca hsl
           rw [show cofI C x.ca = (i : Int) from HCI.out] at h1
           exact h1
          have HCM : Hid (∀ V : World, Below w6.heap.size w6 V → Calls Tryz.prog 104 #[.pointer (some ⟨A.q, 0, none⟩), .int .i64 (i : Nat), .string x.ke, .int .i64 (Xg.nx : Nat), .int .i64 (-1)] V fun e w' => ∃ A', e = .returned (.tuple #[]) ∧ StX w B A (xs2 ++ [(N, oG)]) w' A' (Xg.comeX C R P i x.ke Xg.nx none)) := Lib.hid fun V hV => come_st (HS6.out.below hV) HE.out HW.out i x.ke Xg.nx none HCR.out
          have HNXC : Hid ((Xg.comeX C R P i x.ke Xg.nx none).nx = Xg.nx) := Lib.hid (Lf.come (C := C) (R := R) (P := P) (X := Xg) (i := i) (key := x.ke) (ge := Xg.nx) (ak := none) (fun i x hx => (HV.out.cd i x hx).1) (fun j h => by cases h)).nx
          have HB6 : Hid (Below w6.heap.size w6 w6.drew) := Lib.hid (Below.refl _ w6).drew
          rw [← hw6]
          clear hw6 hN hb6 hn6 hs6 hoG
          go_upto_region 36 with (fail)
          refine wp_region_held_drew (S := fun W => W.cell? ⟨A.q, 0, none⟩ = some (.slice co C.length cc) ∧ W.cell? ⟨A.q, 5, none⟩ = some (.int .i64 (Xg.nx : Nat)) ∧ W.cell? ⟨N, 1, none⟩ = some (.string x.ca) ∧ W.cell? ⟨N, 2, none⟩ = some (.string x.ke)) (by kernel_rfl) (HSC.out _ _ _ HS6.out rfl _ HB6.out) (fun hHeld => ?_)
          refine tkS 0 246 hHeld ?_
          try simp only [pu]
          refine tkS 1 247 hHeld ?_
          try simp only [pu]
          refine tkS 2 248 hHeld ?_
          try simp only [pu]
          refine tkS 3 249 hHeld ?_
          try simp only [pu]
          refine tkS 4 250 hHeld ?_
          try simp only [pu]
          refine tkS 5 251 hHeld ?_
          try simp only [pu]
          refine tkS 6 252 hHeld ?_
          try simp only [pu]
          refine tkS 7 253 hHeld ?_
          try simp only [pu]
          refine tkS 9 255 hHeld ?_
          try simp only [pu]
          refine tkS 10 256 hHeld ?_
          try simp only [pu]
          refine tkS 11 257 hHeld ?_
          try simp only [pu]
          refine tkS 12 258 hHeld ?_
          try simp only [pu]
          refine tkS 13 259 hHeld ?_
          try simp only [pu]
          refine tkS 14 260 hHeld ?_
          try simp only [pu]
          refine callIn (f := 43) (args := #[.slice co C.length cc, .string x.ca]) 8 254 rfl rfl (by kernel_rfl) (by rfl) (by go_simp) ?_
          clear hHeld
          refine (HCO.out _ HB6.out).mono ?_
          rintro e w7 ⟨rfl, hb7⟩
          have HB7 := Lib.hid (HB6.out.thru hb7)
          clear hb7
          have hHeld : w7.cell? ⟨A.q, 0, none⟩ = some (.slice co C.length cc) ∧ w7.cell? ⟨A.q, 5, none⟩ = some (.int .i64 (Xg.nx : Nat)) ∧ w7.cell? ⟨N, 1, none⟩ = some (.string x.ca) ∧ w7.cell? ⟨N, 2, none⟩ = some (.string x.ke) := HSC.out _ _ _ HS6.out rfl _ HB7.out
          refine ⟨_, rfl, hHeld, ?_⟩
          try simp only [pu]
          refine callIn (f := 104) (args := #[.pointer (some ⟨A.q, 0, none⟩), .int .i64 (i : Nat), .string x.ke, .int .i64 (Xg.nx : Nat), .int .i64 (-1)]) 15 261 rfl rfl (by kernel_rfl) (by rfl) (by go_simp) ?_
          clear hHeld
          refine (HCM.out _ HB7.out).mono ?_
          rintro e w8 ⟨A8, rfl, h8⟩
          have HS8 := Lib.hid h8
          clear h8
          have hHeld : w8.cell? ⟨A.q, 0, none⟩ = some (.slice co C.length cc) ∧ w8.cell? ⟨A.q, 5, none⟩ = some (.int .i64 (Xg.nx : Nat)) ∧ w8.cell? ⟨N, 1, none⟩ = some (.string x.ca) ∧ w8.cell? ⟨N, 2, none⟩ = some (.string x.ke) := HSC.out _ _ _ HS8.out HNXC.out _ (Below.refl _ _)
          refine ⟨_, rfl, hHeld, ?_⟩
          try simp only [pu]
          refine wpAnyH_done (by kernel_rfl) ?_ _
          clear hHeld
          have hs8 := HS8.out.drop
          obtain ⟨A9, hA9⟩ : ∃ A9 : Rdr, A9 = { A8 with x := xs2 } := ⟨_, rfl⟩
          rw [← hA9] at hs8
          obtain ⟨-, z5, -, -, -, -, zf, -⟩ := HQC.out _ _ _ _ hs8 w8 (Below.refl _ _)
          rw [HNXC.out] at z5
          have hwp : IntKind.i64.wrap ((Xg.nx : Int) + 1) = (Xg.nx : Int) + 1 := IntWalk.i64_in _ (by have := HV.out.l; omega)
          have hs9 : StX w B A xs2 (w8.setCell ⟨A.q, 5, none⟩ (.int .i64 ((Xg.nx : Int) + 1))) A9 X2 := by
           rw [HX2E.out]
           exact hs8.setDay 5 (.int .i64 ((Xg.nx : Int) + 1)) ({ Xg.comeX C R P i x.ke Xg.nx none with nx := Xg.nx + 1 } : Xd) rfl rfl rfl rfl rfl
          have HS9 := Lib.hid hs9
          have HXN : Hid (X2.nx = Xg.nx + 1) := Lib.hid (by rw [HX2E.out])
          clear hs8 hA9 hs9
          go_wp2_with fail
          go_roundg (L.length - (Xg.nx + 1))
          case measure => omega
          case rel => exact ⟨X2, A9, by rw [HXN.out]; exact Nat.le_refl _, (show Aside (_ ∧ _ ∧ _) from ⟨⟨HS9.out, HRN.out, HLG.out.step HMN.out⟩, HNN.out, HAN.out⟩)⟩
        ·
         have HNX : Hid (Xg.next C R E P L lim .get = some (.arr, Xg)) := Lib.hid (by
          unfold Xd.next
          dsimp only
          rw [if_neg (by rw [HNG.out]; exact hp)])
         have HRA := Lib.hid (HRI.out.next HV.out HNX.out)
         have HL3 : Hid (Lee C P L (((¬ (X0.pg < P.length ∧ (P.getD X0.pg default).ti = X0.no)) ∧ X0.nextB = none) ∧ ¬ (X0.nx < L.length ∧ (L.getD X0.nx default).ti = X0.no)) X0 Xg) := Lib.hid (HLG.out.exit fun e f => ⟨f, by rw [← e, HNG.out]; exact hp⟩)
         go_upto_region 33 with (fail)
         go_cut [228] (fun s228 W => s228 = .bool false ∧ Aside (Below wz.heap.size wz W))
         case first =>
          by_cases hp1 : Xg.nx < L.length
          ·obtain ⟨x, hx⟩ : ∃ x, L[Xg.nx]? = some x := ⟨_, List.getElem?_eq_getElem hp1⟩
           have hne : ¬ x.ti = t := fun e => hp ⟨hp1, by rw [getD_at hx]; exact e⟩
           obtain ⟨lb, loff, rfl, hlx⟩ := HLE.out _ _ hx
           obtain ⟨l0, -⟩ := hlx wz (HWB.out _ _ _ _ HSG.out)
           have hpz : (Xg.nx : Int) < (L.length : Int) := by omega
           have hp0 : (0 : Int) ≤ (Xg.nx : Int) := by omega
           have htb : (x.ti == t) = false := beq_eq_false_iff_ne.2 hne
           clear hx hlx hne hp
           go_quiet (fail)
           go_wp2_with fail
           go_meet
           exact ⟨rfl, below_drewN (Below.refl _ _) _⟩
          ·have hpz : ¬ (Xg.nx : Int) < (L.length : Int) := by omega
           clear hp
           go_quiet (fail)
           go_wp2_with fail
           go_meet
           exact ⟨rfl, below_drewN (Below.refl _ _) _⟩
         obtain ⟨rfl, BC⟩ := hcut
         obtain ⟨w20, rfl⟩ : ∃ w20, w20 = wc := ⟨_, rfl⟩
         have HS20 := Lib.hid (HSG.out.below BC.out)
         clear BC q4 q5 HNX hp hgg hnl HRI HLG HSG HLE
         have hsv := HN7.out w20 fun p hp => HS20.out.all p (HX2.out.1 p hp)
         have HOR := Lib.hid (order_st HS20.out l7 (.slice a7 n7 c7) hsv (fun j hj => ((HAG.out.m j).1 hj).1) HAR.out.2)
         have HSR : Hid (Srt Xg Xg.isAr (ordA Xg l7) ∧ (ordA Xg l7).length ≤ 1000000) := Lib.hid ⟨HAG.out.srt, by
          have h1 := (ordA_spec (X := Xg) HAG.out.o (k := l7.length) (Nat.le_refl _)).2.2
          rw [List.take_length] at h1
          have := HAR.out.2
          omega⟩
         obtain ⟨S2, hS2⟩ : ∃ S2, S2 = ordA Xg l7 := ⟨_, rfl⟩
         rw [← hS2] at HOR HSR
         clear hsv hS2
         go_wp2_with (go_at_call 101; (with_reducible refine HOR.out.mono ?_); rintro e w21 ⟨v21, rfl, ho21, hb21⟩; obtain ⟨o21, A21, hs21, hn21⟩ := HS20.out.num ho21 (Nat.le_refl _) hb21; obtain ⟨a21, c21, rfl, -⟩ := ho21.sl encJ_len; have HS21 := Lib.hid hs21; have HN21 := Lib.hid hn21; clear ho21 hb21 hs21 hn21)
         obtain ⟨xs5, hxs5⟩ : ∃ xs5, xs5 = xs2 ++ o21 := ⟨_, rfl⟩
         rw [← hxs5] at HS21
         have HX5 : Hid ((∀ p, p ∈ o21 → p ∈ xs5) ∧ ∃ ys, xs5 = A.x ++ ys) := Lib.hid (by
          obtain ⟨ys, hys⟩ := HX3.out
          exact ⟨fun p hp => by rw [hxs5]; exact List.mem_append_right _ hp, ys ++ o21, by rw [hxs5, hys, List.append_assoc]⟩)
         have hsl2 : S2.length ≤ 1000000 := HSR.out.2
         clear hxs5 HS20 HOR HN7 HAR HX2 HX3
         go_loopg [17, 18, 266] S2.length (fun gg s17 s18 s266 wr => ∃ (kc : Nat) (Xa : Xd) (Aa : Rdr), kc ≤ S2.length ∧ S2.length - kc ≤ gg ∧ s266 = .int .i64 kc ∧ Aside ((StX w B A xs5 wr Aa Xa ∧ RInv C R E P L lim .arr Xa ∧ Lee C P L (((¬ (X0.pg < P.length ∧ (P.getD X0.pg default).ti = X0.no)) ∧ X0.nextB = none) ∧ ¬ (X0.nx < L.length ∧ (L.getD X0.nx default).ti = X0.no)) X0 Xa) ∧ Srt Xa Xa.isAr (S2.drop kc)))
         case atStart => exact ⟨0, Xg, A21, Nat.zero_le _, by omega, rfl, (show Aside (_ ∧ _) from ⟨⟨HS21.out, HRA.out, HL3.out⟩, HSR.out.1⟩)⟩
         case round =>
          obtain ⟨wy, rfl⟩ : ∃ wy, wy = wr := ⟨_, rfl⟩
          obtain ⟨kc, Y, Ad, hkb, hkbg, rfl, ST⟩ := hrel
          have HST := Lib.hid ST.out.1.1
          have HRI := Lib.hid ST.out.1.2.1
          have HLE1 := Lib.hid ST.out.1.2.2
          have HSY := Lib.hid ST.out.2
          clear ST
          by_cases hlb : kc < S2.length
          ·as_aux_lemma =>
            have hlbz : (kc : Int) < (S2.length : Int) := by omega
            have hsd := List.drop_eq_getElem_cons hlb
            obtain ⟨i, hi⟩ : ∃ i, S2[kc]? = some i := ⟨_, List.getElem?_eq_getElem hlb⟩
            have hi' : S2[kc] = i := by rw [List.getElem?_eq_getElem hlb] at hi; exact Option.some.inj hi
            rw [hi'] at hsd
            have hsr := HSY.out
            rw [hsd] at hsr
            have hna : Y.nextA = some i := hsr.least
            obtain ⟨⟨b1, b2, b3⟩, -⟩ := nextA_some hna
            have HNX : Hid (Y.next C R E P L lim .arr = some (.arr, Y.arrX C R E P i)) := Lib.hid (by unfold Xd.next; dsimp only; rw [hna])
            have HRN := Lib.hid (HRI.out.next HV.out HNX.out)
            have HMN := Lib.hid (mu_next HRI.out HV.out HNX.out (by simp))
            have HSB := Lib.hid (hsr.arr (Sta.arrive (R := R) (E := E) HRI.out.inv HV.out b1 b2))
            obtain ⟨ab, abc, eS, -, -, -, nel⟩ := HN21.out wy fun p hp => HST.out.all p (HX5.out.1 p hp)
            simp only [Value.slice.injEq, true_and] at eS
            obtain ⟨rfl, rfl⟩ := eS
            obtain ⟨sb, soff, rfl, hsc⟩ := nel kc i hi
            have s0 : wy.cell? ⟨sb, soff + kc, none⟩ = some (.int .i64 (i : Nat)) := by have h := hsc 0 _ rfl; simpa using h
            have hca := (HRI.out.inv.kk i _ (Xd.at_ b1)).1
            obtain ⟨v, hiv⟩ := HST.out.rd.at_ b1
            have hne : Ad.ks ≠ [] := fun e => by rw [e] at hiv; cases hiv
            obtain ⟨g, cap, hgv, hg1, hg2, -, -, hgc, hgf⟩ := Own.getk encK_len HST.out.rd.asks hne
            have q7 : wy.cell? ⟨A.q, 7, none⟩ = some (.slice (some ⟨g, 0, none⟩) Ad.ks.length cap) := by rw [(HQC.out _ _ _ _ HST.out wy (Below.refl _ _)).2.2.2.1, hgv]
            have k4 : wy.cell? ⟨g, i * 14 + 4, none⟩ = some (.bool (Y.K i).cm) := hgc i _ 4 _ hiv rfl
            have kf := hgf (i * 14 + 4)
            have hiz : (i : Int) < (Ad.ks.length : Int) := by have := (List.getElem?_eq_some_iff.1 hiv).1; omega
            have hi0 : (0 : Int) ≤ (i : Int) := by omega
            obtain ⟨AC, hsc2, hsnd⟩ := HST.out.setA b1 hgv rfl hg1 4 (.bool true) { Y.K i with cm := true } rfl (by decide) (fun v => rfl)
            obtain ⟨wc2, hwc2⟩ : ∃ wc2, wc2 = wy.setCell ⟨g, i * 14 + 4, none⟩ (.bool true) := ⟨_, rfl⟩
            rw [← hwc2] at hsc2
            have hsc2 : StX w B A xs5 wc2 AC (Y.cameX i) := hsc2
            have hl2 : i < (Y.cameX i).ak.length := by show i < (Y.ak.set _ _).length; rw [List.length_set]; exact b1
            have hK2 : (Y.cameX i).K i = { Y.K i with cm := true } := by
             show (Y.setA i _).K i = _
             rw [Xd.setA_K b1, if_pos rfl]
            obtain ⟨v2, hiv2⟩ := hsc2.rd.at_ hl2
            rw [hK2] at hiv2
            have hne2 : AC.ks ≠ [] := fun e => by rw [e] at hiv2; cases hiv2
            obtain ⟨g2, cap2, hgv2, -, hg22, -, -, hgc2, -⟩ := Own.getk encK_len hsc2.rd.asks hne2
            have HQA : Hid (∀ V : World, Below wc2.heap.size wc2 V → V.cell? ⟨A.q, 0, none⟩ = some (.slice co C.length cc) ∧ V.cell? ⟨A.q, 7, none⟩ = some (.slice (some ⟨g2, 0, none⟩) AC.ks.length cap2) ∧ V.cell? ⟨g2, i * 14, none⟩ = some (.int .i64 ((Y.K i).ca : Nat)) ∧ V.cell? ⟨g2, i * 14 + 1, none⟩ = some (.string (Y.K i).ke)) := Lib.hid fun V hV => by
             obtain ⟨⟨z0, -, -⟩, -, -, z7, -⟩ := HQC.out _ _ _ _ hsc2 V hV
             refine ⟨z0, by rw [z7, hgv2], ?_, (hV.cell (p := ⟨g2, i * 14 + 1, none⟩) hg22).trans (hgc2 i _ 1 _ hiv2 rfl)⟩
             have h1 := (hV.cell (p := ⟨g2, i * 14 + 0, none⟩) hg22).trans (hgc2 i _ 0 _ hiv2 rfl)
             simpa using h1
            have hiz2 : (i : Int) < (AC.ks.length : Int) := by have := (List.getElem?_eq_some_iff.1 hiv2).1; omega
            obtain ⟨xc, hxc⟩ : ∃ xc, C[(Y.K i).ca]? = some xc := ⟨_, List.getElem?_eq_getElem hca⟩
            obtain ⟨cb, coff, rfl, hcc⟩ := HCE.out _ _ hxc
            have hcaz : ((Y.K i).ca : Int) < (C.length : Int) := by omega
            have hca0 : (0 : Int) ≤ ((Y.K i).ca : Int) := by omega
            have HPO0 : Hid (parO C (Y.K i).ca = cNum C xc.pa) := Lib.hid (by unfold parO; rw [getD_at hxc])
            obtain ⟨hpa1, hpa2⟩ := HPA.out _ _ hxc
            obtain ⟨pv, hpv⟩ : ∃ pv, pv = xc.pa := ⟨_, rfl⟩
            rw [← hpv] at hcc hpa1 hpa2
            have HCC := Lib.hid hcc
            have HPA1 := Lib.hid hpa1
            have HPA2 := Lib.hid hpa2
            have HPO : Hid (parO C (Y.K i).ca = cNum C pv) := Lib.hid (by rw [hpv]; exact HPO0.out)
            clear HPO0 hpv
            have hno := HRI.out.inv.no
            have hxi := HRI.out.inv.came b1 b2 0
            have HXI := Lib.hid hxi
            have HC2 : Hid (∃ n, Cap n (Y.cameX i) ∧ n ≤ 61200) := Lib.hid (by
             obtain ⟨n, hcn, hn⟩ := HRI.out.cap
             exact ⟨n, hcn.came b1, by omega⟩)
            have HB1 := Lib.hid b1
            have HL2 := Lib.hid hl2
            have HK2 := Lib.hid hK2
            have HCA := Lib.hid hca
            have HNO := Lib.hid hno
            have HSC2 := Lib.hid hsc2
            have HWC2 := Lib.hid hwc2
            obtain ⟨ka, hka⟩ : ∃ ka, ka = (Y.K i).ca := ⟨_, rfl⟩
            rw [← hka] at HQA HCC hcaz hca0 HPO
            have HKA := Lib.hid hka
            obtain ⟨kk', hkk'⟩ : ∃ kk', kk' = (Y.K i).ke := ⟨_, rfl⟩
            rw [← hkk'] at HQA
            have HKK := Lib.hid hkk'
            clear hsd hi hi' hsr hna b1 b2 b3 nel hsc hca hiv hne hgv hgc hgf hsc2 hsnd hwc2 hl2 hK2 hiv2 hne2 hgv2 hgc2 hxc hcc hpa1 hpa2 hno hxi hka hkk' hg1 hg2 hg22
            go_upto_region 41 with (fail)
            rw [← HWC2.out]
            clear s0 q7 k4 kf
            obtain ⟨z0, z7, za, zk⟩ := HQA.out wc2 (Below.refl _ _)
            have zp := HCC.out wc2 (HWB.out _ _ _ _ HSC2.out)
            go_quiet (fail)
            go_upto_region 42 with (fail)
            obtain ⟨w3, hw3⟩ : ∃ w3, w3 = wc2.drewN nq := ⟨_, rfl⟩
            have HB3 : Hid (Below wc2.heap.size wc2 w3) := Lib.hid (by rw [hw3]; exact below_drewN (Below.refl _ _) _)
            rw [← hw3]
            clear hw3 z0 z7 za zk zp
            by_cases hpa : pv = ⟨#[]⟩
            ·
             have hpn : parO C ka = -1 := by rw [HPO.out]; exact HPA1.out hpa
             have HAX : Hid (Y.arrX C R E P i = (Y.cameX i).giveX C ⟨0, some i, 0⟩ (oriM E ((Y.cameX i).K i).ke (Y.cameX i).no)) := Lib.hid (by
              unfold Xd.arrX
              rw [← HKA.out, hpn, if_neg (by omega), HK2.out]
              rfl)
             have HOC : Hid (∀ V : World, Below wc2.heap.size wc2 V → Calls Tryz.prog 105 #[.pointer (some ⟨A.q, 0, none⟩), .int .i64 (i : Nat)] V fun e w' => ∃ A', e = .returned (.tuple #[]) ∧ StX w B A xs5 w' A' (Y.arrX C R E P i)) := Lib.hid fun V hV => by
              have h1 := origin_st (HSC2.out.below hV) HE.out HW.out i HL2.out (by rw [HK2.out]; exact HCA.out) ⟨HNO.out.1, by have := HNO.out.2; show Y.no ≤ _; omega⟩ (val_de HV.out)
              rw [← HAX.out] at h1
              exact h1
             clear hpn HPA1 HPA2 HPO HCC
             subst hpa
             go_wp2_with (go_at_call 105; (with_reducible refine (HOC.out _ HB3.out).mono ?_); rintro e w22 ⟨A22, rfl, h22⟩; have HS22 := Lib.hid h22; clear h22)
             go_roundg (S2.length - (kc + 1))
             case measure => omega
             case rel => exact ⟨kc + 1, Y.arrX C R E P i, A22, by omega, by omega, by go_num, (show Aside (_ ∧ _) from ⟨⟨HS22.out, HRN.out, HLE1.out.step HMN.out⟩, HSB.out⟩)⟩
            ·
             have hpn : 0 ≤ parO C ka := by rw [HPO.out]; exact HPA2.out hpa
             have hpc : parO C ka < (ka : Int) := by
              rw [HKA.out]
              exact (HV.out.cp (Y.K i).ca (C.getD (Y.K i).ca default) (by rw [List.getD_eq_getElem?_getD, List.getElem?_eq_getElem HCA.out]; rfl)).1
             obtain ⟨pn, hpnn⟩ : ∃ pn : Nat, parO C ka = (pn : Int) := ⟨(parO C ka).toNat, by omega⟩
             have HAX : Hid (Y.arrX C R E P i = (Y.cameX i).comeX C R P pn kk' 0 (some i)) := Lib.hid (by
              unfold Xd.arrX
              rw [← HKA.out, if_pos hpn, hpnn, HKK.out]
              rfl)
             have hpl2 : pn < C.length := by have := HCA.out; rw [← HKA.out] at this; omega
             have HCR : Hid (ComeR C R P (Y.cameX i) pn kk' 0 (some i)) := Lib.hid (by
              obtain ⟨n, hcn, hn⟩ := HC2.out
              exact comeR_of HV.out HXI.out hcn hn hpl2 (fun h => by cases h) (fun j h => by cases h; exact HL2.out))
             have HCM : Hid (∀ V : World, Below wc2.heap.size wc2 V → Calls Tryz.prog 104 #[.pointer (some ⟨A.q, 0, none⟩), .int .i64 (pn : Nat), .string kk', .int .i64 (-1), .int .i64 (i : Nat)] V fun e w' => ∃ A', e = .returned (.tuple #[]) ∧ StX w B A xs5 w' A' (Y.arrX C R E P i)) := Lib.hid fun V hV => by
              have h1 := come_st (HSC2.out.below hV) HE.out HW.out pn kk' 0 (some i) HCR.out
              rw [← HAX.out] at h1
              exact h1
             have HCO : Hid (∀ V : World, Below wc2.heap.size wc2 V → Calls Tryz.prog 43 #[.slice (some ⟨cb, coff, none⟩) C.length cc, .string pv] V fun e w' => e = .returned (.int .i64 (pn : Nat)) ∧ Below V.heap.size V w') := Lib.hid fun V hV => by
              have hsl := HE.out.c.below ((HWB.out _ _ _ _ HSC2.out).thru hV) (Nat.le_refl _)
              rw [HE0.out] at hsl
              have h1 := cacheOf_any V C _ pv hsl
              rw [show cofI C pv = (pn : Int) from HPO.out.symm.trans hpnn] at h1
              exact h1
             have HS0 : Hid (∀ (W : World) (A' : Rdr) (X' : Xd), StX w B A xs5 W A' X' → W.cell? ⟨A.q, 0, none⟩ = some (.slice (some ⟨cb, coff, none⟩) C.length cc)) := Lib.hid fun W A' X' hs => (HQC.out _ _ _ _ hs W (Below.refl _ _)).1.1
             obtain ⟨p1, p2, p3⟩ := str_emp hpa
             have HBQ : Hid (Below wc2.heap.size wc2 w3.drew) := Lib.hid HB3.out.drew
             clear hpn hpc hpnn hpl2
             go_upto_region 43 with (fail)
             refine wp_region_held_drew (S := fun W => W.cell? ⟨A.q, 0, none⟩ = some (.slice (some ⟨cb, coff, none⟩) C.length cc)) (by kernel_rfl) (HS0.out _ _ _ (HSC2.out.below HBQ.out)) (fun hHeld => ?_)
             refine tkS 0 295 hHeld ?_
             try simp only [pu]
             refine tkS 1 296 hHeld ?_
             try simp only [pu]
             refine tkS 2 297 hHeld ?_
             try simp only [pu]
             refine tkS 3 298 hHeld ?_
             try simp only [pu]
             refine tkS 4 299 hHeld ?_
             try simp only [pu]
             refine tkS 5 300 hHeld ?_
             try simp only [pu]
             refine tkS 6 301 hHeld ?_
             try simp only [pu]
             refine tkS 8 303 hHeld ?_
             try simp only [pu]
             refine tkS 9 304 hHeld ?_
             try simp only [pu]
             refine tkS 10 305 hHeld ?_
             try simp only [pu]
             refine tkS 12 307 hHeld ?_
             try simp only [pu]
             refine tkS 16 311 hHeld ?_
             try simp only [pu]
             refine wpAnyH_ready (rs := [7, 11]) (by kernel_rfl) (by simp) (AllReadyH.cons rfl (fun K hK => ?_) (AllReadyH.cons rfl (fun K hK => ?_) AllReadyH.nil))
             ·rw [if_pos (by rfl)]
              go_simp
              go_at_call 43
              refine (HCO.out _ HBQ.out).mono ?_
              rintro e w9 ⟨rfl, hb9⟩
              have HB9 := Lib.hid (HBQ.out.thru hb9)
              clear hb9
              refine hK.out _ _ (HS0.out _ _ _ (HSC2.out.below HB9.out)) (fun hHeld => ?_)
              clear hK K
              try simp only [pu]
              refine wpAnyH_ready (rs := [11]) (by kernel_rfl) (by simp) (AllReadyH.cons rfl (fun K hK => ?_) AllReadyH.nil)
              have yv := (HQA.out _ HB9.out).2.1
              go_simp
              refine hK.out _ _ (HS0.out _ _ _ (HSC2.out.below HB9.out)) (fun hHeld => ?_)
              clear hK K
              try simp only [pu]
              clear yv
              refine tkS 13 308 hHeld ?_
              try simp only [pu]
              refine tkS 14 309 hHeld ?_
              try simp only [pu]
              refine wpAnyH_ready (rs := [15]) (by kernel_rfl) (by simp) (AllReadyH.cons rfl (fun K hK => ?_) AllReadyH.nil)
              have yv := (HQA.out _ HB9.out).2.2.2
              go_simp
              refine hK.out _ _ (HS0.out _ _ _ (HSC2.out.below HB9.out)) (fun hHeld => ?_)
              clear hK K
              try simp only [pu]
              clear yv
              refine wpAnyH_ready (rs := [17]) (by kernel_rfl) (by simp) (AllReadyH.cons rfl (fun K hK => ?_) AllReadyH.nil)
              rw [if_pos (by rfl)]
              go_simp
              go_at_call 104
              refine (HCM.out _ HB9.out).mono ?_
              rintro e w22 ⟨A22, rfl, h22⟩
              have HS22 := Lib.hid h22
              clear h22
              refine hK.out _ _ (HS0.out _ _ _ HS22.out) (fun hHeld => ?_)
              clear hK K
              try simp only [pu]
              refine wpAnyH_done (by kernel_rfl) ?_ _
              clear hHeld
              go_wp2_with fail
              go_roundg (S2.length - (kc + 1))
              case measure => omega
              case rel => exact ⟨kc + 1, Y.arrX C R E P i, A22, by omega, by omega, by go_num, (show Aside (_ ∧ _) from ⟨⟨HS22.out, HRN.out, HLE1.out.step HMN.out⟩, HSB.out⟩)⟩
             ·have yv := (HQA.out _ HBQ.out).2.1
              go_simp
              refine hK.out _ _ (HS0.out _ _ _ (HSC2.out.below HBQ.out)) (fun hHeld => ?_)
              clear hK K
              try simp only [pu]
              clear yv
              refine tkS 13 308 hHeld ?_
              try simp only [pu]
              refine tkS 14 309 hHeld ?_
              try simp only [pu]
              refine wpAnyH_ready (rs := [7, 15]) (by kernel_rfl) (by simp) (AllReadyH.cons rfl (fun K hK => ?_) (AllReadyH.cons rfl (fun K hK => ?_) AllReadyH.nil))
              ·rw [if_pos (by rfl)]
               go_simp
               go_at_call 43
               refine (HCO.out _ HBQ.out).mono ?_
               rintro e w9 ⟨rfl, hb9⟩
               have HB9 := Lib.hid (HBQ.out.thru hb9)
               clear hb9
               refine hK.out _ _ (HS0.out _ _ _ (HSC2.out.below HB9.out)) (fun hHeld => ?_)
               clear hK K
               try simp only [pu]
               refine wpAnyH_ready (rs := [15]) (by kernel_rfl) (by simp) (AllReadyH.cons rfl (fun K hK => ?_) AllReadyH.nil)
               have yv := (HQA.out _ HB9.out).2.2.2
               go_simp
               refine hK.out _ _ (HS0.out _ _ _ (HSC2.out.below HB9.out)) (fun hHeld => ?_)
               clear hK K
               try simp only [pu]
               clear yv
               refine wpAnyH_ready (rs := [17]) (by kernel_rfl) (by simp) (AllReadyH.cons rfl (fun K hK => ?_) AllReadyH.nil)
               rw [if_pos (by rfl)]
               go_simp
               go_at_call 104
               refine (HCM.out _ HB9.out).mono ?_
               rintro e w22 ⟨A22, rfl, h22⟩
               have HS22 := Lib.hid h22
               clear h22
               refine hK.out _ _ (HS0.out _ _ _ HS22.out) (fun hHeld => ?_)
               clear hK K
               try simp only [pu]
               refine wpAnyH_done (by kernel_rfl) ?_ _
               clear hHeld
               go_wp2_with fail
               go_roundg (S2.length - (kc + 1))
               case measure => omega
               case rel => exact ⟨kc + 1, Y.arrX C R E P i, A22, by omega, by omega, by go_num, (show Aside (_ ∧ _) from ⟨⟨HS22.out, HRN.out, HLE1.out.step HMN.out⟩, HSB.out⟩)⟩
              ·have yv := (HQA.out _ HBQ.out).2.2.2
               go_simp
               refine hK.out _ _ (HS0.out _ _ _ (HSC2.out.below HBQ.out)) (fun hHeld => ?_)
               clear hK K
               try simp only [pu]
               clear yv
               refine wpAnyH_ready (rs := [7]) (by kernel_rfl) (by simp) (AllReadyH.cons rfl (fun K hK => ?_) AllReadyH.nil)
               rw [if_pos (by rfl)]
               go_simp
               go_at_call 43
               refine (HCO.out _ HBQ.out).mono ?_
               rintro e w9 ⟨rfl, hb9⟩
               have HB9 := Lib.hid (HBQ.out.thru hb9)
               clear hb9
               refine hK.out _ _ (HS0.out _ _ _ (HSC2.out.below HB9.out)) (fun hHeld => ?_)
               clear hK K
               try simp only [pu]
               refine wpAnyH_ready (rs := [17]) (by kernel_rfl) (by simp) (AllReadyH.cons rfl (fun K hK => ?_) AllReadyH.nil)
               rw [if_pos (by rfl)]
               go_simp
               go_at_call 104
               refine (HCM.out _ HB9.out).mono ?_
               rintro e w22 ⟨A22, rfl, h22⟩
               have HS22 := Lib.hid h22
               clear h22
               refine hK.out _ _ (HS0.out _ _ _ HS22.out) (fun hHeld => ?_)
               clear hK K
               try simp only [pu]
               refine wpAnyH_done (by kernel_rfl) ?_ _
               clear hHeld
               go_wp2_with fail
               go_roundg (S2.length - (kc + 1))
               case measure => omega
               case rel => exact ⟨kc + 1, Y.arrX C R E P i, A22, by omega, by omega, by go_num, (show Aside (_ ∧ _) from ⟨⟨HS22.out, HRN.out, HLE1.out.step HMN.out⟩, HSB.out⟩)⟩
          ·obtain rfl : kc = S2.length := by omega
           have hlbz : ¬ (S2.length : Int) < (S2.length : Int) := by omega
           have hna : Y.nextA = none := by
            have h1 := HSY.out
            rw [List.drop_length] at h1
            exact h1.least
           have HRO := Lib.hid (HRI.out.next HV.out (show Y.next C R E P L lim .arr = some (.out, Y) by unfold Xd.next; dsimp only; rw [hna]))
           have HMU : Hid (muX C P L Y < muX C P L X) := Lib.hid (by
            rcases HLE1.out with h1 | ⟨e, h1⟩
            ·rw [← HMU0.out]; exact h1
            ·exact absurd trivial (fun _ => HTM.out _ (fun h => h.1.1) (fun h => h.1.2) (fun h => h.2) (fun _ => by rw [← e]; exact hna) h1))
           have HFIN : Hid (StPost C R E P L lim w B A X (.returned (.tuple #[])) wy) := Lib.hid (by
            obtain ⟨ys, hys⟩ := HX5.out.2
            have h1 := HST.out
            rw [hys] at h1
            have h2 := h1.drop
            exact ⟨_, Y, rfl, h2.rd, h2.le, h2.be, HRO.out, HMU.out⟩)
           clear hna HRO HMU HST HSY HRI HLE1
           go_wp2_with fail
           go_end0
           exact HFIN.out
set_option maxRecDepth 100000 in
set_option maxHeartbeats 4000000 in
theorem checkUR_any (w : World) (l : List Crl) (v : Value) (hl : Sl w 4 encU v l) (hw : ∀ x, x ∈ l → WfU x) :
 Calls Tryz.prog 95 #[v] w fun e w' => e = .returned (.int .i64 (checkU l)) ∧ Below w.heap.size w w' := by
 obtain ⟨ao, cap, rfl, hcap, hmax, hnil, hel⟩ := hl
 unfold maxLen at hmax
 by_cases hbig : 100 < l.length
 ·have hv : Hid (2 = checkU l) := Lib.hid (by simp [checkU, hbig])
  have hbz : (100 : Int) < (l.length : Int) := by omega
  clear hel
  go_enter Tryz.func95, Tryz.ntmps95
  go_wp2
  go_ret
  exact ⟨ret_int hv.out, Below.refl _ _⟩
 have hbz : ¬ (100 : Int) < (l.length : Int) := by omega
 have HF : Hid (checkU l = FF (cuAt l) l.length) := Lib.hid (by simp [checkU, hbig])
 generalize checkU l = F at HF ⊢
 have HW := Lib.hid hw
 have HEL := Lib.hid hel
 clear hw hel
 go_enter Tryz.func95, Tryz.ntmps95
 go_wp2
 go_loopg [3, 4, 10] l.length (fun gg s3 s4 s10 wr => ∃ kk : Nat, kk ≤ l.length ∧ l.length - kk ≤ gg ∧ s10 = .int .i64 kk ∧ Aside (Below w.heap.size w wr) ∧ Aside (∀ j, j < kk → cuAt l j = 0))
 case atStart => exact ⟨0, Nat.zero_le _, by omega, rfl, Below.refl _ w, fun j hj => absurd hj (Nat.not_lt_zero _)⟩
 case round =>
  obtain ⟨kk, hkk, hg, rfl, BW, A⟩ := hrel
  by_cases hlt : kk < l.length
  ·have hltz : (kk : Int) < (l.length : Int) := by omega
   obtain ⟨x, hx⟩ : ∃ x, l[kk]? = some x := ⟨l[kk], by simp [hlt]⟩
   obtain ⟨p, hp⟩ : ∃ x, l[kk - 1]? = some x := ⟨l[kk - 1]'(by omega), by simp⟩
   obtain ⟨b, off, hao, hc⟩ := HEL.out kk x hx
   subst hao
   obtain ⟨b', off', hao', hc'⟩ := HEL.out (kk - 1) p hp
   simp only [Option.some.injEq, Addr.mk.injEq, and_true] at hao'
   obtain ⟨rfl, rfl⟩ := hao'
   have hlt0 := World.block_lt_of_cell? w ⟨b, off + kk * 4 + 0, none⟩ (hc 0 _ rfl)
   have c0 : wr.cell? ⟨b, off + kk * 4, none⟩ = some (.string x.pr) := (BW.out.cell (p := ⟨b, off + kk * 4 + 0, none⟩) hlt0).trans (hc 0 _ rfl)
   have p0 : wr.cell? ⟨b, off + (kk - 1) * 4, none⟩ = some (.string p.pr) := (BW.out.cell (p := ⟨b, off + (kk - 1) * 4 + 0, none⟩) hlt0).trans (hc' 0 _ rfl)
   have c1 : wr.cell? ⟨b, off + kk * 4 + 1, none⟩ = some (.int .i64 x.li) := (BW.out.cell (p := ⟨b, off + kk * 4 + 1, none⟩) hlt0).trans (hc 1 _ rfl)
   have p1 : wr.cell? ⟨b, off + (kk - 1) * 4 + 1, none⟩ = some (.int .i64 p.li) := (BW.out.cell (p := ⟨b, off + (kk - 1) * 4 + 1, none⟩) hlt0).trans (hc' 1 _ rfl)
   have c2 : wr.cell? ⟨b, off + kk * 4 + 2, none⟩ = some (.int .i64 x.st) := (BW.out.cell (p := ⟨b, off + kk * 4 + 2, none⟩) hlt0).trans (hc 2 _ rfl)
   have p2 : wr.cell? ⟨b, off + (kk - 1) * 4 + 2, none⟩ = some (.int .i64 p.st) := (BW.out.cell (p := ⟨b, off + (kk - 1) * 4 + 2, none⟩) hlt0).trans (hc' 2 _ rfl)
   have c3 : wr.cell? ⟨b, off + kk * 4 + 3, none⟩ = some (.int .i64 x.go) := (BW.out.cell (p := ⟨b, off + kk * 4 + 3, none⟩) hlt0).trans (hc 3 _ rfl)
   have p3 : wr.cell? ⟨b, off + (kk - 1) * 4 + 3, none⟩ = some (.int .i64 p.go) := (BW.out.cell (p := ⟨b, off + (kk - 1) * 4 + 3, none⟩) hlt0).trans (hc' 3 _ rfl)
   have hbw : b < wr.heap.size := Nat.lt_of_lt_of_le hlt0 BW.out.size
   have hsz : x.pr.size ≤ 9223372036854775807 := HW.out x (List.mem_of_getElem? hx)
   have hin := isReqR_any x.pr
   have hszw := BW.out.size
   have hat : Hid (cuAt l kk = cuOf x p kk) := Lib.hid (by rw [cuAt, getD_of hx, getD_of hp])
   have hS : Hid (∀ z, cuOf x p kk = z → z ≠ 0 → z = F) := Lib.hid (fun z h hz => by
    rw [HF.out, FF_hit hlt A.out (by rw [hat.out, h]; exact hz), hat.out, h])
   have hC0 : Hid (cuOf x p kk = if (!reqB x.pr) = true then 3 else if (ordU x p kk) = true then 8 else if (outB x.li 0 1000000000 || outB x.st 0 1000000000 || outB x.go 0 1000000000) = true then 1 else 0) := Lib.hid rfl
   clear hx hp hc hc'
   have HB0 := Lib.hid (BW.out.alloc hszw (.cells #[.string x.pr, .int .i64 x.li, .int .i64 x.st, .int .i64 x.go] 126))
   go_upto_region 6 with (fail)
   go_cut [15] (fun s w4 => s = .bool (!reqB x.pr) ∧ w4 = (wr.alloc (.cells #[.string x.pr, .int .i64 x.li, .int .i64 x.st, .int .i64 x.go] 126)))
   case first =>
    go_wp2_with (go_at_call 97; refine (hin _ hsz).mono ?_; rintro e w' ⟨rfl, rfl⟩)
    go_meet
    exact ⟨by simp, rfl⟩
   obtain ⟨rfl, rfl⟩ := hcut
   generalize hO : (!reqB x.pr) = O at hC0 ⊢
   clear hO
   cases O
   case true =>
    have hv : Hid (3 = F) := Lib.hid (hS.out 3 (by rw [hC0.out]; rfl) (by decide))
    go_wp2
    go_ret
    exact ⟨ret_int hv.out, HB0.out⟩
   have hC1 : Hid (cuOf x p kk = if (ordU x p kk) = true then 8 else if (outB x.li 0 1000000000 || outB x.st 0 1000000000 || outB x.go 0 1000000000) = true then 1 else 0) := Lib.hid (by rw [hC0.out]; rfl)
   clear hC0
   go_upto_region 8 with (fail)
   have hor : Hid ((ordU x p kk) = (decide (0 < kk) && (Op.bytesLess x.pr.toList p.pr.toList || x.pr.toList == p.pr.toList))) := Lib.hid rfl
   generalize hOG : (ordU x p kk) = OG at hor hC1 ⊢
   have HOG := Lib.hid hOG
   clear hOG
   go_cut [20] (fun s w4 => s = .bool OG ∧ ∃ n, w4 = (wr.alloc (.cells #[.string x.pr, .int .i64 x.li, .int .i64 x.st, .int .i64 x.go] 126)).drewN n)
   case first =>
    by_cases hk0 : kk = 0
    ·have hz : decide ((0 : Int) < (kk : Int)) = false := decide_eq_false (by omega)
     have hz' : ¬ (0 : Int) < (kk : Int) := by omega
     have hz2 : decide (0 < kk) = false := decide_eq_false (by omega)
     have hv : Hid (OG = false) := Lib.hid (by rw [hor.out, hz2]; rfl)
     clear hk0
     go_quiet (fail)
     go_wp2
     go_meet
     exact ⟨by rw [hv.out], _, rfl⟩
    ·have hz : decide ((0 : Int) < (kk : Int)) = true := decide_eq_true (by omega)
     have hz2 : decide (0 < kk) = true := decide_eq_true (by omega)
     have ez2 : ((kk : Int) - 1).toNat = kk - 1 := by omega
     have hm1 : (kk : Int) - 1 < (l.length : Int) := by omega
     have hm2 : (0 : Int) ≤ (kk : Int) - 1 := by omega
     have hm3 : (1 : Int) ≤ (kk : Int) := by omega
     have hm4 : 0 < kk := by omega
     have hwk : IntKind.i64.wrap ((kk : Int) - 1) = (kk : Int) - 1 := IntWalk.i64_in _ (by omega)
     clear hk0
     have hv : Hid (OG = ((Op.bytesLess x.pr.toList p.pr.toList || x.pr.toList == p.pr.toList))) := Lib.hid (by rw [hor.out, hz2]; rfl)
     go_quiet (fail)
     go_wp2
     go_meet
     exact ⟨by rw [hv.out], _, rfl⟩
   obtain ⟨rfl, nq, rfl⟩ := hcut
   rw [HOG.out.symm] at hC1
   have HBn := Lib.hid (below_drewN HB0.out nq)
   rw [HOG.out.symm]
   clear hor HOG
   generalize hO : (ordU x p kk) = O at hC1 ⊢
   clear hO
   cases O
   case true =>
    have hv : Hid (8 = F) := Lib.hid (hS.out 8 (by rw [hC1.out]; rfl) (by decide))
    go_wp2
    go_ret
    exact ⟨ret_int hv.out, HBn.out⟩
   have hC2 : Hid (cuOf x p kk = if (outB x.li 0 1000000000 || outB x.st 0 1000000000 || outB x.go 0 1000000000) = true then 1 else 0) := Lib.hid (by rw [hC1.out]; rfl)
   clear hC1
   go_upto_region 10 with (fail)
   go_cut [34] (fun s w4 => s = .bool (outB x.li 0 1000000000 || outB x.st 0 1000000000 || outB x.go 0 1000000000) ∧ w4 = ((wr.alloc (.cells #[.string x.pr, .int .i64 x.li, .int .i64 x.st, .int .i64 x.go] 126)).drewN nq))
   case first =>
    cases o0 : outB x.li 0 1000000000
    case true =>
     go_wp2_with (go_at_call 44; refine (withinE_any _ _ _ _).mono ?_; rintro e w' ⟨rfl, rfl⟩)
     go_meet
     exact ⟨by simp [*], rfl⟩
    cases o1 : outB x.st 0 1000000000
    case true =>
     go_wp2_with (go_at_call 44; refine (withinE_any _ _ _ _).mono ?_; rintro e w' ⟨rfl, rfl⟩)
     go_meet
     exact ⟨by simp [*], rfl⟩
    cases o2 : outB x.go 0 1000000000
    all_goals
     go_wp2_with (go_at_call 44; refine (withinE_any _ _ _ _).mono ?_; rintro e w' ⟨rfl, rfl⟩)
     go_meet
     exact ⟨by simp [*], rfl⟩
   obtain ⟨rfl, rfl⟩ := hcut
   generalize hO : (outB x.li 0 1000000000 || outB x.st 0 1000000000 || outB x.go 0 1000000000) = O at hC2 ⊢
   clear hO
   cases O
   case true =>
    have hv : Hid (1 = F) := Lib.hid (hS.out 1 (by rw [hC2.out]; rfl) (by decide))
    go_wp2
    go_ret
    exact ⟨ret_int hv.out, HBn.out⟩
   have hC3 : Hid (cuOf x p kk = 0) := Lib.hid (by rw [hC2.out]; rfl)
   clear hC2
   have hz : Hid (cuAt l kk = 0) := Lib.hid (by rw [hat.out, hC3.out])
   go_wp2
   go_roundg (l.length - (kk + 1))
   case measure => omega
   case rel =>
    refine ⟨kk + 1, by omega, by omega, by go_num, HBn.out, (show Aside _ from fun j hj => ?_)⟩
    by_cases e : j = kk
    ·rw [e, hz.out]
    ·exact A.out j (by omega)
  ·obtain rfl : kk = l.length := by omega
   have hltz : ¬ (l.length : Int) < (l.length : Int) := by omega
   have hz : Hid (0 = F) := Lib.hid (by rw [HF.out, FF_zero A.out])
   go_wp2
   go_ret
   exact ⟨ret_int hz.out, BW.out⟩
end Go.Proofs.YtgohddfnhofjhaaGreatDoor

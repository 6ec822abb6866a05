/- cacheOf and CheckCaches of the reference. -/
import Derived.Test.YtgohddfnhofjhaaGreatDoorB16
import Derived.Test.YtgohddfnhofjhaaGreatDoorHoldFPG3
import Derived.Test.YtgohddfnhofjhaaGreatDoorHoldFPG1
import Derived.Test.YtgohddfnhofjhaaGreatDoorHoldFPG2
import Derived.Test.YtgohddfnhofjhaaGreatDoorB18
import Derived.Test.YtgohddfnhofjhaaGreatDoorB27
namespace Go.Proofs.YtgohddfnhofjhaaGreatDoor
open Go.RowKit

/-- The number of a cache; -1: there is none. -/
def cofI (l : List Cch) (n : ByteArray) : Int := fidxC (fun o => isC o n) l
theorem cofI_has (l : List Cch) (n : ByteArray) : decide (0 ≤ cofI l n) = hasC l n := fidxC_any _ _
theorem cofI_hit {l : List Cch} {n : ByteArray} {k : Nat} {x : Cch} (hx : l[k]? = some x) (h : isC x n = true) (hn : ∀ (j : Nat) y, l[j]? = some y → j < k → isC y n = false) : cofI l n = k := (fidxC_hit hx h hn).1
theorem cofI_none {l : List Cch} {n : ByteArray} (hn : ∀ (j : Nat) y, l[j]? = some y → isC y n = false) : cofI l n = -1 := (fidxC_none hn).1

set_option maxRecDepth 100000 in
set_option maxHeartbeats 1000000 in
theorem cacheOf_any (w : World) (l : List Cch) (v : Value) (n : ByteArray) (hl : Sl w 4 encC v l) :
    Calls Tryz.prog 43 #[v, .string n] w fun e w' => e = .returned (.int .i64 (cofI l n)) ∧ Below w.heap.size w w' := by
  obtain ⟨ao, cap, rfl, hcap, hmax, hnil, hel⟩ := hl
  unfold maxLen at hmax
  have HEL := Lib.hid hel
  have HH := Lib.hid (fun k x hx h hn => @cofI_hit l n k x hx h hn)
  have HN := Lib.hid (@cofI_none l n)
  obtain ⟨I, hI⟩ : ∃ I, I = cofI l n := ⟨_, rfl⟩
  rw [← hI] at HH HN ⊢
  clear hel hI
  go_enter Tryz.func43, Tryz.ntmps43
  go_wp2
  go_loopg [9] l.length (fun gg s9 wr => ∃ kk : Nat, kk ≤ l.length ∧ l.length - kk ≤ gg ∧ s9 = .int .i64 kk ∧ Aside (Below w.heap.size w wr) ∧ Aside (∀ (j : Nat) y, l[j]? = some y → j < kk → isC y n = false))
  case atStart => exact ⟨0, Nat.zero_le _, by omega, rfl, Below.refl _ _, fun j y _ hj => absurd hj (Nat.not_lt_zero _)⟩
  case round =>
    obtain ⟨kk, hkk, hg, rfl, BW, A⟩ := hrel
    have HBW := Lib.hid BW.out
    have HA := Lib.hid A.out
    have hszw := HBW.out.size
    clear BW A
    by_cases hlt : kk < l.length
    · have hltz : (kk : Int) < (l.length : Int) := by omega
      obtain ⟨x, hx⟩ : ∃ x, l[kk]? = some x := ⟨l[kk], by simp [hlt]⟩
      obtain ⟨b, off, rfl, hc⟩ := HEL.out kk x hx
      have hlt0 := World.block_lt_of_cell? w ⟨b, off + kk * 4 + 0, none⟩ (hc 0 _ rfl)
      have c0 : wr.cell? ⟨b, off + kk * 4, none⟩ = some (.string x.na) := (HBW.out.cell (p := ⟨b, off + kk * 4 + 0, none⟩) hlt0).trans (hc 0 _ rfl)
      have c1 : wr.cell? ⟨b, off + kk * 4 + 1, none⟩ = some (.string x.pa) := (HBW.out.cell (p := ⟨b, off + kk * 4 + 1, none⟩) hlt0).trans (hc 1 _ rfl)
      have c2 : wr.cell? ⟨b, off + kk * 4 + 2, none⟩ = some (.int .i64 x.de) := (HBW.out.cell (p := ⟨b, off + kk * 4 + 2, none⟩) hlt0).trans (hc 2 _ rfl)
      have c3 : wr.cell? ⟨b, off + kk * 4 + 3, none⟩ = some (.int .i64 x.ro) := (HBW.out.cell (p := ⟨b, off + kk * 4 + 3, none⟩) hlt0).trans (hc 3 _ rfl)
      have HBZ := Lib.hid (HBW.out.alloc hszw (.cells #[.string x.na, .string x.pa, .int .i64 x.de, .int .i64 x.ro] 47))
      have HHX := Lib.hid (HH.out kk x hx)
      have HNX : Hid (isC x n = false → ∀ (j : Nat) y, l[j]? = some y → j < kk + 1 → isC y n = false) := Lib.hid (fun h j y hy hj => by
        by_cases e : j = kk
        · subst e
          rw [hx] at hy
          simp only [Option.some.injEq] at hy
          rw [← hy]; exact h
        · exact HA.out j y hy (by omega))
      clear hx hc
      cases hq : (x.na.toList == n.toList)
      case true =>
        have hv : Hid ((kk : Int) = I) := Lib.hid (HHX.out hq HA.out).symm
        go_wp2
        go_ret
        exact ⟨ret_int hv.out, HBZ.out⟩
      case false =>
        have HA2 := Lib.hid (HNX.out hq)
        go_wp2
        go_roundg (l.length - (kk + 1))
        case measure => omega
        case rel => exact ⟨kk + 1, by omega, by omega, by go_num, HBZ.out, HA2.out⟩
    · obtain rfl : kk = l.length := by omega
      have hltz : ¬ (l.length : Int) < (l.length : Int) := by omega
      have hv : Hid (-1 = I) := Lib.hid (HN.out (fun j y hy => HA.out j y hy (List.getElem?_eq_some_iff.1 hy).1)).symm
      go_wp2
      go_ret
      exact ⟨ret_int hv.out, HBW.out⟩

set_option maxRecDepth 100000 in
set_option maxHeartbeats 4000000 in
theorem checkCR_any (w : World) (l : List Cch) (v : Value) (hl : Sl w 4 encC v l) (hw : ∀ x, x ∈ l → WfC x) :
    Calls Tryz.prog 94 #[v] w fun e w' => e = .returned (.int .i64 (checkC l)) ∧ Below w.heap.size w w' := by
  have HL := Lib.hid hl
  obtain ⟨ao, cap, rfl, hcap, hmax, hnil, hel⟩ := hl
  unfold maxLen at hmax
  have HB0 := Lib.hid (Below.refl w.heap.size w)
  by_cases h0 : l.length = 0
  · have hv : Hid (9 = checkC l) := Lib.hid (by simp [checkC, h0])
    have h0z : ((l.length : Int) == 0) = true := by simp [h0]
    clear hel h0
    go_enter Tryz.func94, Tryz.ntmps94
    go_wp2
    go_ret
    exact ⟨ret_int hv.out, HB0.out⟩
  have h0z : ((l.length : Int) == 0) = false := by rw [beq_eq_false_iff_ne]; omega
  have h0y : ¬ (l.length : Int) = 0 := by omega
  by_cases hbig : 30 < l.length
  · have hv : Hid (2 = checkC l) := Lib.hid (by simp [checkC, h0, hbig])
    have hbz : (30 : Int) < (l.length : Int) := by omega
    clear hel h0
    go_enter Tryz.func94, Tryz.ntmps94
    go_wp2
    go_ret
    exact ⟨ret_int hv.out, HB0.out⟩
  have hbz : ¬ (30 : Int) < (l.length : Int) := by omega
  have HF : Hid (checkC l = FF (ccAt l) l.length) := Lib.hid (by simp [checkC, h0, hbig])
  generalize checkC l = F at HF ⊢
  have HW := Lib.hid hw
  have HEL := Lib.hid hel
  clear hw hel h0
  go_enter Tryz.func94, Tryz.ntmps94
  go_wp2
  go_loopg [13] l.length (fun gg s13 wr => ∃ kk : Nat, kk ≤ l.length ∧ l.length - kk ≤ gg ∧ s13 = .int .i64 kk ∧ Aside (Below w.heap.size w wr) ∧ Aside (∀ j, j < kk → ccAt l j = 0))
  case atStart => exact ⟨0, Nat.zero_le _, by omega, rfl, HB0.out, fun j hj => absurd hj (Nat.not_lt_zero _)⟩
  case round =>
    obtain ⟨kk, hkk, hg, rfl, BW, A⟩ := hrel
    have HBW := Lib.hid BW.out
    have HA := Lib.hid A.out
    have hszw := HBW.out.size
    clear BW A HB0
    by_cases hlt : kk < l.length
    · have hltz : (kk : Int) < (l.length : Int) := by omega
      obtain ⟨x, hx⟩ : ∃ x, l[kk]? = some x := ⟨l[kk], by simp [hlt]⟩
      obtain ⟨b, off, rfl, hc⟩ := HEL.out kk x hx
      have hlt0 := World.block_lt_of_cell? w ⟨b, off + kk * 4 + 0, none⟩ (hc 0 _ rfl)
      have c0 : wr.cell? ⟨b, off + kk * 4, none⟩ = some (.string x.na) := (HBW.out.cell (p := ⟨b, off + kk * 4 + 0, none⟩) hlt0).trans (hc 0 _ rfl)
      have c1 : wr.cell? ⟨b, off + kk * 4 + 1, none⟩ = some (.string x.pa) := (HBW.out.cell (p := ⟨b, off + kk * 4 + 1, none⟩) hlt0).trans (hc 1 _ rfl)
      have c2 : wr.cell? ⟨b, off + kk * 4 + 2, none⟩ = some (.int .i64 x.de) := (HBW.out.cell (p := ⟨b, off + kk * 4 + 2, none⟩) hlt0).trans (hc 2 _ rfl)
      have c3 : wr.cell? ⟨b, off + kk * 4 + 3, none⟩ = some (.int .i64 x.ro) := (HBW.out.cell (p := ⟨b, off + kk * 4 + 3, none⟩) hlt0).trans (hc 3 _ rfl)
      have hwf := HW.out x (List.mem_of_getElem? hx)
      have HNM := Lib.hid (fun W => isName5_any x.na W hwf.1)
      obtain ⟨tw, htw⟩ : ∃ tw, tw = hasC (l.take kk) x.na := ⟨_, rfl⟩
      obtain ⟨hp, hhp⟩ : ∃ tw, tw = hasC (l.take kk) x.pa := ⟨_, rfl⟩
      have hat : Hid (ccAt l kk = ccOf x tw hp) := Lib.hid (by rw [ccAt, getD_of hx, htw, hhp])
      have hS : Hid (∀ z, ccOf x tw hp = z → z ≠ 0 → z = F) := Lib.hid (fun z h hz => by
        rw [HF.out, FF_hit hlt HA.out (by rw [hat.out, h]; exact hz), hat.out, h])
      have hC0 : Hid (ccOf x tw hp = if (!nameB x.na) = true then 5 else if tw = true then 7 else if (parB x hp) = true then 9 else if (outB x.de 1 100000 || outB x.ro 0 1000000000000) = true then 1 else 0) := Lib.hid rfl
      have HI1 := Lib.hid (cofI_has (l.take kk) x.na)
      have HI2 := Lib.hid (cofI_has (l.take kk) x.pa)
      rw [← htw] at HI1
      rw [← hhp] at HI2
      have HCO := Lib.hid (fun (W : World) (n : ByteArray) (h : Below w.heap.size w W) => cacheOf_any W (l.take kk) _ n ((HL.out.below h (Nat.le_refl _)).take rfl kk hkk))
      obtain ⟨I1, hI1⟩ : ∃ I, I = cofI (l.take kk) x.na := ⟨_, rfl⟩
      obtain ⟨I2, hI2⟩ : ∃ I, I = cofI (l.take kk) x.pa := ⟨_, rfl⟩
      rw [← hI1] at HI1
      rw [← hI2] at HI2
      have hb5 := HBW.out.alloc hszw (.cells #[.string x.na, .string x.pa, .int .i64 x.de, .int .i64 x.ro] 47)
      have hx5 : (wr.alloc (.cells #[.string x.na, .string x.pa, .int .i64 x.de, .int .i64 x.ro] 47)).heap[wr.heap.size]? = some (.cells #[.string x.na, .string x.pa, .int .i64 x.de, .int .i64 x.ro] 47 (0, 0)) := block_new wr _
      obtain ⟨w5, hw5⟩ : ∃ w5, w5 = wr.alloc (.cells #[.string x.na, .string x.pa, .int .i64 x.de, .int .i64 x.ro] 47) := ⟨_, rfl⟩
      have hs5 : w5.heap.size = wr.heap.size + 1 := by rw [hw5]; simp
      rw [← hw5] at hb5 hx5
      have HB5 := Lib.hid hb5
      have HX5 := Lib.hid hx5
      have HC1 : Hid (∀ W, Below w5.heap.size w5 W → Calls Tryz.prog 43 #[.slice (some ⟨b, off, none⟩) kk cap, .string x.na] W fun e w' => e = .returned (.int .i64 I1) ∧ Below W.heap.size W w') := Lib.hid (fun W h => by rw [hI1]; exact HCO.out W x.na (HB5.out.trans (h.mono HB5.out.size)))
      have HC2 : Hid (∀ W, Below w5.heap.size w5 W → Calls Tryz.prog 43 #[.slice (some ⟨b, off, none⟩) kk cap, .string x.pa] W fun e w' => e = .returned (.int .i64 I2) ∧ Below W.heap.size W w') := Lib.hid (fun W h => by rw [hI2]; exact HCO.out W x.pa (HB5.out.trans (h.mono HB5.out.size)))
      obtain ⟨nb, hnb⟩ : ∃ nb, nb = nameB x.na := ⟨_, rfl⟩
      rw [← hnb] at HNM hC0
      have HW5 := Lib.hid hw5
      have hkz : (kk : Int) ≤ (l.length : Int) := by omega
      have hkc : (kk : Int) ≤ (cap : Int) := by omega
      clear hx hc htw hhp hx5 HCO hb5 hw5 hnb hI1 hI2
      go_upto_region 8 with (fail)
      rw [← HW5.out]
      obtain ⟨g, hgq⟩ : ∃ g, g = wr.heap.size := ⟨_, rfl⟩
      rw [← hgq] at HX5 hs5 ⊢
      have hg5 : g < w5.heap.size := by omega
      have y0 := (cell_of_block (i := 0) HX5.out).trans rfl
      have y1 := (cell_of_block (i := 1) HX5.out).trans rfl
      have y2 := (cell_of_block (i := 2) HX5.out).trans rfl
      have y3 := (cell_of_block (i := 3) HX5.out).trans rfl
      clear c0 c1 c2 c3 hgq HW5 hs5
      cases nb
      case false =>
        have hv : Hid (5 = F) := Lib.hid (hS.out 5 (by rw [hC0.out]; rfl) (by decide))
        go_wp2_with fail
        refine (HNM.out _).mono ?_
        rintro e w6 ⟨rfl, rfl⟩
        go_wp2
        go_ret
        exact ⟨ret_int hv.out, HB5.out⟩
      go_wp2_with fail
      refine (HNM.out _).mono ?_
      rintro e w6 ⟨rfl, rfl⟩
      have hC1 : Hid (ccOf x tw hp = if tw = true then 7 else if (parB x hp) = true then 9 else if (outB x.de 1 100000 || outB x.ro 0 1000000000000) = true then 1 else 0) := Lib.hid (by rw [hC0.out]; rfl)
      clear hC0
      go_upto_region 10 with (fail)
      go_cut [23] (fun s23 w6 => s23 = .bool tw ∧ Aside (Below w5.heap.size w5 w6))
      case first =>
        cases tw
        case true =>
          have hI : (0 : Int) ≤ I1 := of_decide_eq_true HI1.out
          go_region_with (first | (go_at_call 43; refine (HC1.out _ (below_drewN (Below.refl _ w5) 1)).mono ?_; rintro e w' ⟨rfl, hb⟩))
          all_goals
            have HBQ := Lib.hid ((below_drewN (Below.refl _ w5) 1).trans hb)
            clear hb
            go_wp2_with fail
            go_meet
            exact ⟨rfl, HBQ.out⟩
        case false =>
          have hI : ¬ (0 : Int) ≤ I1 := of_decide_eq_false HI1.out
          go_region_with (first | (go_at_call 43; refine (HC1.out _ (below_drewN (Below.refl _ w5) 1)).mono ?_; rintro e w' ⟨rfl, hb⟩))
          all_goals
            have HBQ := Lib.hid ((below_drewN (Below.refl _ w5) 1).trans hb)
            clear hb
            go_wp2_with fail
            go_meet
            exact ⟨by first | rfl | (simp; omega), HBQ.out⟩
      obtain ⟨rfl, B6⟩ := hcut
      obtain ⟨w6, rfl⟩ : ∃ w6, w6 = wc := ⟨_, rfl⟩
      have hb6 := B6.out
      have HB6 := Lib.hid (HB5.out.trans (hb6.mono HB5.out.size))
      have z1 := (hb6.cell (p := ⟨g, 1, none⟩) hg5).trans y1
      have z2 := (hb6.cell (p := ⟨g, 2, none⟩) hg5).trans y2
      have z3 := (hb6.cell (p := ⟨g, 3, none⟩) hg5).trans y3
      have HC26 := Lib.hid (fun W (h : Below w6.heap.size w6 W) => HC2.out W (hb6.trans (h.mono hb6.size)))
      have hg6 : g < w6.heap.size := Nat.lt_of_lt_of_le hg5 hb6.size
      clear hb6 y0 y1 y2 y3 HC1 HC2 HX5 B6 HI1
      cases tw
      case true =>
        have hv : Hid (7 = F) := Lib.hid (hS.out 7 (by rw [hC1.out]; rfl) (by decide))
        go_wp2_with fail
        go_ret
        exact ⟨ret_int hv.out, HB6.out⟩
      have hC2 : Hid (ccOf x false hp = if (parB x hp) = true then 9 else if (outB x.de 1 100000 || outB x.ro 0 1000000000000) = true then 1 else 0) := Lib.hid (by rw [hC1.out]; rfl)
      clear hC1
      obtain ⟨PB, hPB⟩ : ∃ PB, PB = parB x hp := ⟨_, rfl⟩
      rw [← hPB] at hC2
      have HPB := Lib.hid hPB
      clear hPB
      go_upto_region 12 with (fail)
      go_cut [31] (fun s31 w7 => s31 = .bool PB ∧ Aside (Below w6.heap.size w6 w7))
      case first =>
        by_cases hpe : x.pa = ⟨#[]⟩
        · have hv : Hid (PB = false) := Lib.hid (by rw [HPB.out]; simp [parB, hpe])
          rw [hpe] at z1
          clear hpe
          have hund : undef = Value.tuple #[] := rfl
          go_quiet (fail)
          clear hund
          go_wp2_with fail
          go_meet
          exact ⟨by rw [hv.out], below_drewN (Below.refl _ _) _⟩
        · have hv : Hid (PB = !hp) := Lib.hid (by rw [HPB.out]; simp [parB, hpe])
          obtain ⟨f1, f2, f3⟩ := str_emp hpe
          clear hpe
          cases hp
          case true =>
            have hI : (0 : Int) ≤ I2 := of_decide_eq_true HI2.out
            have hI3 : ¬ I2 < 0 := by omega
            go_region_with (first | (go_at_call 43; refine (HC26.out _ (below_drewN (Below.refl _ w6) 1)).mono ?_; rintro e w' ⟨rfl, hb⟩))
            all_goals
              have HBQ := Lib.hid ((below_drewN (Below.refl _ w6) 1).trans hb)
              clear hb
              go_wp2_with fail
              go_meet
              exact ⟨by rw [hv.out]; first | rfl | (simp; omega), HBQ.out⟩
          case false =>
            have hI : ¬ (0 : Int) ≤ I2 := of_decide_eq_false HI2.out
            have hI3 : I2 < 0 := by omega
            go_region_with (first | (go_at_call 43; refine (HC26.out _ (below_drewN (Below.refl _ w6) 1)).mono ?_; rintro e w' ⟨rfl, hb⟩))
            all_goals
              have HBQ := Lib.hid ((below_drewN (Below.refl _ w6) 1).trans hb)
              clear hb
              go_wp2_with fail
              go_meet
              exact ⟨by rw [hv.out]; first | rfl | (simp; omega), HBQ.out⟩
      obtain ⟨rfl, B7⟩ := hcut
      obtain ⟨w7, rfl⟩ : ∃ w7, w7 = wc := ⟨_, rfl⟩
      have HB7 := Lib.hid (HB6.out.trans (B7.out.mono HB6.out.size))
      have u2 := (B7.out.cell (p := ⟨g, 2, none⟩) hg6).trans z2
      have u3 := (B7.out.cell (p := ⟨g, 3, none⟩) hg6).trans z3
      clear B7 z1 z2 z3 HC26 HPB
      cases PB
      case true =>
        have hv : Hid (9 = F) := Lib.hid (hS.out 9 (by rw [hC2.out]; rfl) (by decide))
        go_wp2_with fail
        go_ret
        exact ⟨ret_int hv.out, HB7.out⟩
      have hC3 : Hid (ccOf x false hp = if (outB x.de 1 100000 || outB x.ro 0 1000000000000) = true then 1 else 0) := Lib.hid (by rw [hC2.out]; rfl)
      clear hC2
      go_upto_region 14 with (fail)
      go_cut [44] (fun s44 w8 => s44 = .bool (outB x.de 1 100000 || outB x.ro 0 1000000000000) ∧ w7 = w8)
      case first =>
        cases o0 : outB x.de 1 100000
        case true =>
          go_wp2_with (go_at_call 44; refine (withinE_any _ _ _ _).mono ?_; rintro e w' ⟨rfl, rfl⟩)
          go_meet
          exact ⟨by simp [*], rfl⟩
        case false =>
          go_wp2_with (go_at_call 44; refine (withinE_any _ _ _ _).mono ?_; rintro e w' ⟨rfl, rfl⟩)
          go_meet
          exact ⟨by simp [*], rfl⟩
      obtain ⟨rfl, rfl⟩ := hcut
      generalize hO : (outB x.de 1 100000 || outB x.ro 0 1000000000000) = O at hC3 ⊢
      clear hO u2 u3
      cases O
      case true =>
        have hv : Hid (1 = F) := Lib.hid (hS.out 1 (by rw [hC3.out]; rfl) (by decide))
        go_wp2_with fail
        go_ret
        exact ⟨ret_int hv.out, HB7.out⟩
      have hz : Hid (ccAt l kk = 0) := Lib.hid (by rw [hat.out, hC3.out]; rfl)
      go_wp2_with fail
      go_roundg (l.length - (kk + 1))
      case measure => omega
      case rel =>
        refine ⟨kk + 1, by omega, by omega, by go_num, HB7.out, (show Aside _ from fun j hj => ?_)⟩
        by_cases e : j = kk
        · rw [e, hz.out]
        · exact HA.out j (by omega)
    · obtain rfl : kk = l.length := by omega
      have hltz : ¬ (l.length : Int) < (l.length : Int) := by omega
      have hz : Hid (0 = F) := Lib.hid (by rw [HF.out, FF_zero HA.out])
      go_wp2_with fail
      go_ret
      exact ⟨ret_int hz.out, HBW.out⟩
end Go.Proofs.YtgohddfnhofjhaaGreatDoor

/- Odds of the reference: what the statement about what caches hold asks of it. -/
namespace Go.Proofs.YtgohddfnhofjhaaGreatDoor
open Go.RowKit

set_option maxRecDepth 100000 in
set_option maxHeartbeats 4000000 in
theorem sizeOf_any (w : World) (vc vr ve vp : Value) (E : List Rel) (k : ByteArray) (t : Int) (he : Sl w 4 encL ve E) :
    Calls Tryz.prog 26 #[.agg #[vc, vr, ve, vp], .string k, .int .i64 t] w fun e w' => e = .returned (.int .i64 (needA (oriM E k t))) ∧ Below w.heap.size w w' := by
  obtain ⟨w2, hw2⟩ : ∃ w2, w2 = w.alloc (.cells #[vc, vr, ve, vp] 27) := ⟨_, rfl⟩
  have hb2 : Below w.heap.size w w2 := by rw [hw2]; exact (Below.refl _ w).alloc (Nat.le_refl _) _
  have hnb : w2.heap[w.heap.size]? = some (.cells #[vc, vr, ve, vp] 27 (0, 0)) := by rw [hw2]; exact block_new w _
  have hlt : w.heap.size < w2.heap.size := (Array.getElem?_eq_some_iff.1 hnb).1
  have he2 := he.below hb2 (Nat.le_refl _)
  have HV := Lib.hid (versionAtR_any w2 E ve k t he2)
  obtain ⟨ao, cap, rfl, hcap, hmax, hnil, hel⟩ := he2
  have q2 : w2.cell? ⟨w.heap.size, 2, none⟩ = some (.slice ao E.length cap) := cellF hnb 2 rfl
  unfold maxLen at hmax
  have HEL := Lib.hid hel
  have HW2 := Lib.hid hw2
  have HB2 := Lib.hid hb2
  have HO : Hid (needA (oriM E k t) = if (veO E k t).isSome = true then (outL E (veO E k t)).si else 1) := Lib.hid (by unfold oriM; split <;> rfl)
  have HM := Lib.hid (fun (o : Nat) (h : veO E k t = some o) => veO_mem h)
  clear hel hw2 hb2 hnb he hnil
  generalize needA (oriM E k t) = m at HO ⊢
  generalize veO E k t = V at HV HO HM
  cases V with
  | none =>
    have hv : Hid (m = 1) := Lib.hid (by rw [HO.out]; rfl)
    have hn : numO none = -1 := rfl
    go_enter Tryz.func26, Tryz.ntmps26
    go_upto_region 1 with (fail)
    rw [← HW2.out]
    go_wp2_with (go_at_call 33; (with_reducible refine HV.out.mono ?_); rintro e w3 ⟨rfl, hb3⟩; have HB3 := Lib.hid hb3; clear hb3)
    go_ret
    exact ⟨by rw [hv.out]; rfl, HB2.out.thru HB3.out⟩
  | some o =>
    obtain ⟨x, hx, hxo, hxg⟩ := HM.out o (by trivial)
    have hol := (List.getElem?_eq_some_iff.1 hx).1
    have holz : (o : Int) < (E.length : Int) := by omega
    obtain ⟨b, off, rfl, hc⟩ := HEL.out o x hx
    have hv : Hid (m = x.si) := Lib.hid (by rw [HO.out, hxo]; rfl)
    have hn : numO (some o) = (o : Int) := rfl
    have c1 := hc 2 _ rfl
    have hl2 := World.block_lt_of_cell? w2 _ c1
    rw [hn] at HV
    clear hc hx hxo hxg HM
    go_enter Tryz.func26, Tryz.ntmps26
    go_upto_region 1 with (fail)
    rw [← HW2.out]
    go_wp2_with (go_at_call 33; (with_reducible refine HV.out.mono ?_); rintro e w3 ⟨rfl, hb3⟩; have HB3 := Lib.hid hb3; have d1 := (hb3.cell (p := ⟨b, off + o * 4 + 2, none⟩) hl2).trans c1; have r2 := (hb3.cell (p := ⟨w.heap.size, 2, none⟩) hlt).trans q2; clear hb3 c1 q2)
    go_wp2_with fail
    go_ret
    exact ⟨by rw [hv.out]; rfl, HB2.out.thru HB3.out⟩
/-- The room of a cache. -/
def roomN (C : List Cch) (n : ByteArray) : Int := if cNum C n < 0 then -1 else (C.getD (cNum C n).toNat default).ro
set_option maxRecDepth 100000 in
set_option maxHeartbeats 4000000 in
theorem roomOf_any (w : World) (vc vr ve vp : Value) (C : List Cch) (n : ByteArray) (i : Nat) (hi : cNum C n = (i : Int)) (c : Cch) (hci : C[i]? = some c) (hC : Sl w 4 encC vc C) :
    Calls Tryz.prog 27 #[.agg #[vc, vr, ve, vp], .string n] w fun e w' => e = .returned (.int .i64 c.ro) ∧ Below w.heap.size w w' := by
  obtain ⟨w2, hw2⟩ : ∃ w2, w2 = w.alloc (.cells #[vc, vr, ve, vp] 27) := ⟨_, rfl⟩
  have hb2 : Below w.heap.size w w2 := by rw [hw2]; exact (Below.refl _ w).alloc (Nat.le_refl _) _
  have hnb : w2.heap[w.heap.size]? = some (.cells #[vc, vr, ve, vp] 27 (0, 0)) := by rw [hw2]; exact block_new w _
  have hlt : w.heap.size < w2.heap.size := (Array.getElem?_eq_some_iff.1 hnb).1
  have hC2 := hC.below hb2 (Nat.le_refl _)
  have hV := cacheOf_any w2 C vc n hC2
  rw [show cofI C n = (i : Int) from hi] at hV
  have HV := Lib.hid hV
  obtain ⟨ao, cap, rfl, hcap, hmax, hnil, hel⟩ := hC2
  have q0 : w2.cell? ⟨w.heap.size, 0, none⟩ = some (.slice ao C.length cap) := cellF hnb 0 rfl
  unfold maxLen at hmax
  have HW2 := Lib.hid hw2
  have HB2 := Lib.hid hb2
  have hol := (List.getElem?_eq_some_iff.1 hci).1
  have holz : (i : Int) < (C.length : Int) := by omega
  obtain ⟨b, off, rfl, hc⟩ := hel i c hci
  have c1 := hc 3 _ rfl
  have hl2 := World.block_lt_of_cell? w2 _ c1
  clear hel hw2 hb2 hnb hC hnil hV hi hci hc
  go_enter Tryz.func27, Tryz.ntmps27
  go_upto_region 1 with (fail)
  rw [← HW2.out]
  go_wp2_with (go_at_call 43; (with_reducible refine HV.out.mono ?_); rintro e w3 ⟨rfl, hb3⟩; have HB3 := Lib.hid hb3; have d1 := (hb3.cell (p := ⟨b, off + i * 4 + 3, none⟩) hl2).trans c1; have r2 := (hb3.cell (p := ⟨w.heap.size, 0, none⟩) hlt).trans q0; clear hb3 c1 q0)
  go_wp2_with fail
  go_ret
  exact ⟨rfl, HB2.out.thru HB3.out⟩
end Go.Proofs.YtgohddfnhofjhaaGreatDoor

/- The law: what a cache holds fits. -/
namespace Go.Proofs.YtgohddfnhofjhaaGreatDoor
open Go.RowKit

section
variable {C : List Cch} {R : List Crl} {E : List Rel} {P : List Pur} {L : List Gt} {X X' : Xd}
theorem next_no_le {lim : Int} {m m' : Mod} (h : X.no ≤ lim) (hn : X.next C R E P L lim m = some (m', X')) : X'.no ≤ lim := by
  unfold Xd.next at hn
  cases m with
  | out =>
    dsimp only at hn
    split at hn
    · cases hn
    · split at hn
      · cases hn
      · cases hn
        rename_i hl
        show _ ≤ lim
        exact Int.not_lt.1 hl
  | pur =>
    dsimp only at hn
    split at hn <;> (cases hn; exact h)
  | bak =>
    dsimp only at hn
    split at hn
    · cases hn; rw [backX_nn.2]; exact h
    · cases hn; exact h
  | get =>
    dsimp only at hn
    split at hn
    · cases hn; rw [comeX_nn.2]; exact h
    · cases hn; exact h
  | arr =>
    dsimp only at hn
    split at hn
    · cases hn; rw [arrX_nn.2]; exact h
    · cases hn; exact h
theorem XReach.no_le {lim : Int} {m m' : Mod} (h : XReach C R E P L lim m X m' X') (hn : X.no ≤ lim) : X'.no ≤ lim := by
  induction h with
  | refl => exact hn
  | step _ hn2 ih => exact next_no_le (ih hn) hn2
/-- What the law asks of what is held. -/
structure LawH (E : List Rel) (P : List Pur) (t : Int) (f : ByteArray → Hld) (k : ByteArray) : Prop where
  nd : 1 ≤ needA (f k).an
  so : needA (oriM E k (f k).an.bo) = needA (f k).an
  us : (f k).an.bo ≤ (f k).us ∧ (f k).us ≤ t
  pu : pbI P k t P.length ≤ (f k).an.bo
theorem EndX.holds {t : Int} {cn : ByteArray} {f : ByteArray → Hld} {l : List ByteArray} (h : EndX C R E P L t X) (hv : Val C R E P L) (ht : 0 ≤ t) (hl : HoldL C X cn f l) : (∀ k, k ∈ l → LawH E P t f k) ∧ ((cNum C cn).toNat < C.length → totK f l ≤ (C.getD (cNum C cn).toNat default).ro) := by
  have hg := h.ginv hv
  have hno : X.no ≤ t := h.rch.no_le ht
  have hk : ∀ k, k ∈ l → ∃ x, x ∈ X.H (cNum C cn).toNat ∧ x.ke = k ∧ f k = ⟨x.an, x.us⟩ := fun k hk => by
    obtain ⟨x, hx, rfl⟩ := List.mem_map.1 (hl.pm.subset hk)
    exact ⟨x, hx, rfl, hl.eq x hx⟩
  refine ⟨fun k hkl => ?_, fun hi => ?_⟩
  · obtain ⟨x, hx, rfl, e⟩ := hk k hkl
    have ho := hg.at_ _ x hx
    have ha := ((h.inv.held _).2 x hx).2
    rw [show LawH E P t f x.ke ↔ LawH E P t f x.ke from Iff.rfl]
    refine ⟨by rw [e]; exact needA_ge ha, ?_, by rw [e]; exact ⟨ho.us.1, Int.le_trans ho.us.2 hno⟩, ?_⟩
    · rw [e]
      show needA (oriM E x.ke x.an.bo) = needA x.an
      obtain ⟨s1, s2, s3⟩ := ho.so
      unfold needA
      rw [s2, s3]
    · rw [pbI_pur hv.ps (fun x hx => (hv.pt x hx).1.1) _ _ (Nat.le_refl _), e]
      show purM P x.ke t ≤ x.an.bo
      refine purM_le (by have := ha.bo.1; omega) fun q p hp hke hti => ?_
      by_cases hq : q < X.pg
      · exact ho.pu q p hq hp hke
      · exfalso
        have hql := (List.getElem?_eq_some_iff.1 hp).1
        have hpl : X.pg < P.length := by omega
        have h1 := h.times (P[X.pg]).ti (times_mem.2 (.inr (.inl ⟨_, List.getElem?_eq_getElem hpl, rfl⟩)))
        have h2 := hv.ps X.pg q _ p (by omega) (List.getElem?_eq_getElem hpl) hp
        omega
  · have h1 := hg.hs (cNum C cn).toNat _ (Xd.H_at (by rw [h.inv.le.1]; exact hi))
    have h2 := totK_totH (l := []) (f := f) (X.H (cNum C cn).toNat) (fun x hx => by rw [hl.eq x hx])
    rw [totK_perm hl.pm, h2]
    exact h1
theorem totK_next (f : ByteArray → Hld) {l : List ByteArray} {n : Nat} {k : ByteArray} (h : l[n]? = some k) : totK f (l.take (n + 1)) = totK f (l.take n) + needA (f k).an := by
  rw [List.take_add_one, h]
  have e := totK_perm (f := f) (List.perm_append_comm (l₁ := l.take n) (l₂ := [k]))
  show totK f (l.take n ++ [k]) = _
  rw [e]
  show needA (f k).an + totK f (l.take n) = _
  omega
theorem totK_mono (f : ByteArray → Hld) {l : List ByteArray} (h : ∀ k, k ∈ l → 1 ≤ needA (f k).an) : ∀ n, n ≤ l.length → 0 ≤ totK f (l.take n) ∧ totK f (l.take n) ≤ totK f l := by
  have hpos : ∀ m : List ByteArray, (∀ k, k ∈ m → 1 ≤ needA (f k).an) → 0 ≤ totK f m := by
    intro m
    induction m with
    | nil => intro _; exact Int.le_refl _
    | cons a m ih =>
      intro hm
      have h1 := hm a (List.mem_cons_self ..)
      have h2 := ih fun k hk => hm k (List.mem_cons_of_mem _ hk)
      show 0 ≤ needA (f a).an + totK f m
      omega
  intro n _
  refine ⟨hpos _ fun k hk => h k (List.mem_of_mem_take hk), ?_⟩
  have e : totK f l = totK f (l.take n) + totK f (l.drop n) := by
    have : ∀ a b : List ByteArray, totK f (a ++ b) = totK f a + totK f b := fun a b => by
      induction a with
      | nil => show totK f b = 0 + totK f b; omega
      | cons x a ih => show needA (f x).an + totK f (a ++ b) = needA (f x).an + totK f a + totK f b; rw [ih]; omega
    rw [← this, List.take_append_drop]
  have h2 := hpos (l.drop n) fun k hk => h k (List.mem_of_mem_drop hk)
  omega
end
set_option maxRecDepth 100000 in
set_option maxHeartbeats 8000000 in
theorem holdsFit_any (w : World) (C : List Cch) (R : List Crl) (E : List Rel) (P : List Pur) (L : List Gt) (vc vr ve vp vl : Value) (cn : ByteArray) (t : Int) (h : InS w C R E P L vc vr ve vp vl) (hw : WfS C R E P L) (m : Int) (hm : w.cell? ⟨0, 0, none⟩ = some (.int .i64 m)) :
    Calls Tryz.prog 8 #[.agg #[vc, vr, ve, vp], vl, .string cn, .int .i64 t] w fun e' w' => e' = .returned (.bool true) ∧ Below w.heap.size w w' := by
  have h0 := World.block_lt_of_cell? w _ hm
  obtain ⟨w2, hw2⟩ : ∃ w2, w2 = w.alloc (.cells #[vc, vr, ve, vp] 27) := ⟨_, rfl⟩
  have hb2 : Below w.heap.size w w2 := by rw [hw2]; exact (Below.refl _ w).alloc (Nat.le_refl _) _
  have hnb : w2.heap[w.heap.size]? = some (.cells #[vc, vr, ve, vp] 27 (0, 0)) := by rw [hw2]; exact block_new w _
  have hlt : w.heap.size < w2.heap.size := (Array.getElem?_eq_some_iff.1 hnb).1
  have h2 := h.below hb2
  have H1 := Lib.hid (Holds_any w2 C R E P L vc vr ve vp vl cn t h2 hw)
  have H5 := Lib.hid (fun (W : World) (hW : Below w.heap.size w W) => awakeE_any W m ((hW.cell (p := ⟨0, 0, none⟩) h0).trans hm))
  have HPu := Lib.hid (fun (W : World) (hW : Below w2.heap.size w2 W) (k : ByteArray) => purgedBy_any W vc vr ve vp P k t (h2.below hW).p)
  have HSz := Lib.hid (fun (W : World) (hW : Below w2.heap.size w2 W) (k : ByteArray) (b : Int) => sizeOf_any W vc vr ve vp E k b (h2.below hW).e)
  have HRo := Lib.hid (fun (W : World) (hW : Below w2.heap.size w2 W) => roomOf_any W vc vr ve vp C cn (hC := (h2.below hW).c))
  have HQ := Lib.hid (fun (W : World) (hW : Below w2.heap.size w2 W) => (hW.block _ hlt).trans hnb)
  have HFZ : Hid (holdF C R E P L cn t = 0 → checkS C R E P L = 0 ∧ ¬ cNum C cn < 0 ∧ 0 ≤ t) := Lib.hid fun hz => by
    unfold holdF at hz
    by_cases h1 : checkS C R E P L = 0
    · rw [if_neg (by simp [h1])] at hz
      by_cases h2 : cNum C cn < 0
      · rw [if_pos h2] at hz; cases hz
      · rw [if_neg h2] at hz
        by_cases h3 : t < 0 ∨ 2000000000000 < t
        · rw [if_pos h3] at hz; cases hz
        · exact ⟨h1, h2, by omega⟩
    · rw [if_pos h1] at hz; exact absurd hz h1
  obtain ⟨lo, lc, rfl, hlc, hlm, -, -⟩ := h2.l
  have q0 : w2.cell? ⟨w.heap.size, 0, none⟩ = some vc := cellF hnb 0 rfl
  have q1 : w2.cell? ⟨w.heap.size, 1, none⟩ = some vr := cellF hnb 1 rfl
  have q2 : w2.cell? ⟨w.heap.size, 2, none⟩ = some ve := cellF hnb 2 rfl
  have q3 : w2.cell? ⟨w.heap.size, 3, none⟩ = some vp := cellF hnb 3 rfl
  have HW2 := Lib.hid hw2
  have HB2 := Lib.hid hb2
  clear h h2 hw hm hw2 hb2 hnb
  obtain ⟨D0, hD0⟩ : ∃ D0, D0 = w.heap.size := ⟨_, rfl⟩
  have HD := Lib.hid hD0
  rw [← hD0] at HQ q0 q1 q2 q3
  clear hD0
  generalize holdF C R E P L cn t = S at H1 HFZ ⊢
  go_enter Tryz.func8, Tryz.ntmps8
  go_upto_region 1 with (fail)
  rw [← HW2.out, ← HD.out]
  go_upto_region 2 with (go_at_call 25; (with_reducible refine H1.out.mono ?_); rintro e w3 ⟨⟨v, rfl, f, l, hs, hl1, hl2⟩, hb3⟩; have HS := Lib.hid hs; have HB3 := Lib.hid hb3; have HL1 := Lib.hid hl1; have HL2 := Lib.hid hl2; clear hs hb3 hl1 hl2 q0 q1 q2 q3)
  have HB3' := Lib.hid (HB2.out.thru HB3.out)
  by_cases hS : S = 0
  case neg =>
    obtain rfl := HL1.out hS
    obtain ⟨a1, c1, rfl, -⟩ := HS.out
    have hne : (S != 0) = true := by simpa using hS
    clear hS
    go_wp2_with (go_at_call 11; (with_reducible refine (H5.out w3 HB3'.out).mono ?_); rintro e w6 ⟨rfl, hb6⟩; have HB6 := Lib.hid (HB3'.out.thru hb6); clear hb6)
    go_ret
    exact ⟨rfl, HB6.out⟩
  subst hS
  obtain ⟨hcs, hcn, ht0⟩ := HFZ.out (by trivial)
  have hv := val_of hcs
  obtain ⟨X, hE, hHL⟩ := HL2.out (by trivial)
  obtain ⟨i, hi⟩ : ∃ i : Nat, cNum C cn = (i : Int) := ⟨(cNum C cn).toNat, by omega⟩
  have hil : i < C.length := by
    have h := hi
    unfold cNum fidxC at h
    split at h
    · omega
    · have := List.findIdx_le_length (p := fun o => isC o cn) (xs := C)
      omega
  obtain ⟨c, hce⟩ : ∃ c, C[i]? = some c := ⟨_, List.getElem?_eq_getElem hil⟩
  obtain ⟨hlaw, htot⟩ := hE.holds hv ht0 hHL
  rw [hi, Int.toNat_natCast, getD_at hce] at htot
  have htot := htot hil
  have hro := (hv.cd i c hce).2
  have HLaw := Lib.hid hlaw
  have HMono := Lib.hid (totK_mono f (fun k hk => (hlaw k hk).nd))
  have HNX : Hid (∀ n k, l[n]? = some k → totK f (l.take (n + 1)) = totK f (l.take n) + needA (f k).an) := Lib.hid fun n k hk => totK_next f hk
  have HInc : Hid (∀ (n : Nat) (a b : ByteArray), l[n]? = some a → l[n + 1]? = some b → cmpB a b < 0) := Lib.hid fun n a b ha hb => by
    have hn := (List.getElem?_eq_some_iff.1 hb).1
    have := (List.pairwise_iff_getElem.1 hHL.inc) n (n + 1) (by omega) hn (by omega)
    rw [List.getElem?_eq_getElem (by omega)] at ha
    rw [List.getElem?_eq_getElem hn] at hb
    cases ha; cases hb
    exact this
  have HRo3 := Lib.hid (fun (W : World) (hW : Below w3.heap.size w3 W) => HRo.out W (HB3.out.thru hW) i hi c hce)
  obtain ⟨F, hF⟩ : ∃ F : Nat → Int, F = fun n => totK f (l.take n) := ⟨_, rfl⟩
  have HF0 : Hid (F 0 = 0) := Lib.hid (by rw [hF]; rfl)
  have HFB : Hid (∀ n, n ≤ l.length → 0 ≤ F n ∧ F n ≤ c.ro) := Lib.hid fun n hn => by
    have := HMono.out n hn
    rw [hF]; dsimp only; omega
  have HFS : Hid (∀ n k, l[n]? = some k → F (n + 1) = F n + needA (f k).an) := Lib.hid fun n k hk => by rw [hF]; exact HNX.out n k hk
  obtain ⟨ao, cap, hvv, hcap, hmax, -, hel⟩ := HS.out
  unfold maxLen at hmax
  subst hvv
  have HEL := Lib.hid hel
  clear hel hv hE HL1 HL2 HS H1 hcs hcn hlaw htot hF HMono HNX hHL HFZ HRo hi hce
  go_upto_region 5 with (fail)
  go_wp2_with fail
  go_loopg [11, 12, 13, 32] l.length (fun gg s11 s12 s13 s32 wr => ∃ (kk : Nat), kk ≤ l.length ∧ l.length - kk ≤ gg ∧ s32 = .int .i64 kk ∧ s11 = .int .i64 (F kk) ∧ Aside (Below w3.heap.size w3 wr))
  case atStart => exact ⟨0, Nat.zero_le _, by omega, rfl, by rw [HF0.out], Below.refl _ _⟩
  case round =>
    obtain ⟨wi, rfl⟩ : ∃ wi : World, wi = wr := ⟨_, rfl⟩
    obtain ⟨kk, hkk, hg, rfl, rfl, BW⟩ := hrel
    have HBr : Hid (Below w2.heap.size w2 wi) := Lib.hid (HB3.out.thru BW.out)
    obtain ⟨fb1, fb2⟩ := HFB.out kk hkk
    by_cases hlt2 : kk < l.length
    · have hltz : (kk : Int) < (l.length : Int) := by omega
      obtain ⟨k, hke⟩ : ∃ k, l[kk]? = some k := ⟨_, List.getElem?_eq_getElem hlt2⟩
      obtain ⟨l1, l2, ⟨l3, l4⟩, l5⟩ := HLaw.out k (List.mem_of_getElem? hke)
      obtain ⟨b, off, rfl, hc⟩ := HEL.out kk k hke
      have hlb := World.block_lt_of_cell? w3 _ (hc 0 _ rfl)
      have c0 : wi.cell? ⟨b, off + kk * 4, none⟩ = some (.string k) := by have h := (BW.out.cell (p := ⟨b, off + kk * 4 + 0, none⟩) hlb).trans (hc 0 _ rfl); simpa using h
      have c1 : wi.cell? ⟨b, off + kk * 4 + 1, none⟩ = some (.int .i64 (f k).an.ve) := (BW.out.cell (p := ⟨b, off + kk * 4 + 1, none⟩) hlb).trans (hc 1 _ rfl)
      have c2 : wi.cell? ⟨b, off + kk * 4 + 2, none⟩ = some (.int .i64 (f k).an.bo) := (BW.out.cell (p := ⟨b, off + kk * 4 + 2, none⟩) hlb).trans (hc 2 _ rfl)
      have c3 : wi.cell? ⟨b, off + kk * 4 + 3, none⟩ = some (.int .i64 (f k).us) := (BW.out.cell (p := ⟨b, off + kk * 4 + 3, none⟩) hlb).trans (hc 3 _ rfl)
      obtain ⟨wq, hwq⟩ : ∃ wq, wq = wi.alloc (.cells #[.string k, .int .i64 (f k).an.ve, .int .i64 (f k).an.bo, .int .i64 (f k).us] 59) := ⟨_, rfl⟩
      have hbq : Below wi.heap.size wi wq := by rw [hwq]; exact (Below.refl _ wi).alloc (Nat.le_refl _) _
      obtain ⟨N, hN⟩ : ∃ N, N = wi.heap.size := ⟨_, rfl⟩
      have hnq : wq.heap[N]? = some (.cells #[.string k, .int .i64 (f k).an.ve, .int .i64 (f k).an.bo, .int .i64 (f k).us] 59 (0, 0)) := by rw [hN, hwq]; exact block_new wi _
      have hltq : N < wq.heap.size := (Array.getElem?_eq_some_iff.1 hnq).1
      have HBQ : Hid (Below w2.heap.size w2 wq) := Lib.hid (HBr.out.thru hbq)
      have HBW3 : Hid (Below w3.heap.size w3 wq) := Lib.hid (BW.out.trans (hbq.mono BW.out.size))
      have HC0 : Hid (∀ W, Below wq.heap.size wq W → W.cell? ⟨N, 0, none⟩ = some (.string k) ∧ W.cell? ⟨N, 1, none⟩ = some (.int .i64 (f k).an.ve) ∧ W.cell? ⟨N, 2, none⟩ = some (.int .i64 (f k).an.bo) ∧ W.cell? ⟨N, 3, none⟩ = some (.int .i64 (f k).us) ∧ W.cell? ⟨D0, 0, none⟩ = some vc ∧ W.cell? ⟨D0, 1, none⟩ = some vr ∧ W.cell? ⟨D0, 2, none⟩ = some ve ∧ W.cell? ⟨D0, 3, none⟩ = some vp) := Lib.hid fun W hW => by
        have h1 := (hW.block _ hltq).trans hnq
        have h3 := HQ.out W (HBQ.out.thru hW)
        exact ⟨cellF h1 0 rfl, cellF h1 1 rfl, cellF h1 2 rfl, cellF h1 3 rfl, cellF h3 0 rfl, cellF h3 1 rfl, cellF h3 2 rfl, cellF h3 3 rfl⟩
      obtain ⟨n0, n1, n2, n3, d0, d1, d2, d3⟩ := HC0.out wq (Below.refl _ _)
      have HS1 := Lib.hid (HSz.out wq HBQ.out k (f k).an.bo)
      rw [l2] at HS1
      have HF1 := Lib.hid (HFS.out kk k hke)
      obtain ⟨fb3, fb4⟩ := HFB.out (kk + 1) (by omega)
      have hww : IntKind.i64.wrap (F kk + needA (f k).an) = F kk + needA (f k).an := IntWalk.i64_in _ (by rw [← HF1.out]; omega)
      have HPK : Hid (0 < kk → ∃ k2, Op.bytesLess k.toList k2.toList = false ∧ (k.toList == k2.toList) = false ∧ ∀ W, Below w3.heap.size w3 W → W.cell? ⟨b, off + (kk - 1) * 4, none⟩ = some (.string k2)) := Lib.hid fun hk0 => by
        obtain ⟨k2, hk2⟩ : ∃ k2, l[kk - 1]? = some k2 := ⟨_, List.getElem?_eq_getElem (by omega)⟩
        obtain ⟨b', off', e', hc'⟩ := HEL.out (kk - 1) k2 hk2
        simp only [Option.some.injEq, Addr.mk.injEq, and_true] at e'
        obtain ⟨rfl, rfl⟩ := e'
        have hi := HInc.out (kk - 1) k2 k hk2 (by rw [Nat.sub_add_cancel hk0]; exact hke)
        obtain ⟨b1, b2, _⟩ := bl_false hi
        refine ⟨k2, b1, b2, fun W hW => ?_⟩
        have h := (hW.cell (p := ⟨b, off + (kk - 1) * 4 + 0, none⟩) hlb).trans (hc' 0 _ rfl)
        simpa using h
      have HWQ := Lib.hid hwq
      have HN := Lib.hid hN
      clear hc hwq hnq hbq hN hke l2
      go_upto_region 8 with (fail)
      rw [← HWQ.out, ← HN.out]
      go_upto_region 9 with (go_at_call 26; (with_reducible refine HS1.out.mono ?_); rintro e wy ⟨rfl, hby⟩; have HYQ := Lib.hid hby; clear hby n0 n1 n2 n3 d0 d1 d2 d3 c0 c1 c2 c3)
      have HBY : Hid (Below w3.heap.size w3 wy) := Lib.hid (HBW3.out.trans (HYQ.out.mono HBW3.out.size))
      have HC : Hid (∀ W, Below wy.heap.size wy W → W.cell? ⟨N, 0, none⟩ = some (.string k) ∧ W.cell? ⟨N, 1, none⟩ = some (.int .i64 (f k).an.ve) ∧ W.cell? ⟨N, 2, none⟩ = some (.int .i64 (f k).an.bo) ∧ W.cell? ⟨N, 3, none⟩ = some (.int .i64 (f k).us) ∧ W.cell? ⟨D0, 0, none⟩ = some vc ∧ W.cell? ⟨D0, 1, none⟩ = some vr ∧ W.cell? ⟨D0, 2, none⟩ = some ve ∧ W.cell? ⟨D0, 3, none⟩ = some vp) := Lib.hid fun W hW => HC0.out W (HYQ.out.thru hW)
      have HP1 := Lib.hid (fun (W : World) (hW : Below wy.heap.size wy W) => HPu.out W ((HBQ.out.thru HYQ.out).thru hW) k)
      generalize pbI P k t P.length = pb at HP1 l5
      have z1 : ¬ (f k).us < (f k).an.bo := by omega
      have z2 : ¬ t < (f k).us := by omega
      have z3 : ¬ (f k).an.bo < pb := by omega
      have HQ0 : Below wy.heap.size wy wy.drew := (Below.refl _ wy).drew
      clear l3 l4 l5
      by_cases hk0 : 0 < kk
      · obtain ⟨k2, b1, b2, hkc⟩ := HPK.out hk0
        have HKC := Lib.hid hkc
        have HC1 : Hid (∀ W, Below wy.heap.size wy W → W.cell? ⟨N, 0, none⟩ = some (.string k) ∧ W.cell? ⟨N, 1, none⟩ = some (.int .i64 (f k).an.ve) ∧ W.cell? ⟨N, 2, none⟩ = some (.int .i64 (f k).an.bo) ∧ W.cell? ⟨N, 3, none⟩ = some (.int .i64 (f k).us) ∧ W.cell? ⟨D0, 0, none⟩ = some vc ∧ W.cell? ⟨D0, 1, none⟩ = some vr ∧ W.cell? ⟨D0, 2, none⟩ = some ve ∧ W.cell? ⟨D0, 3, none⟩ = some vp ∧ W.cell? ⟨b, off + (kk - 1) * 4, none⟩ = some (.string k2)) := Lib.hid fun W hW => by
          obtain ⟨g0, g1, g2, g3, g4, g5, g6, g7⟩ := HC.out W hW
          exact ⟨g0, g1, g2, g3, g4, g5, g6, g7, HKC.out W (HBY.out.thru hW)⟩
        have hz : decide ((0 : Int) < (kk : Int)) = true := decide_eq_true (by omega)
        have hz2 : decide (0 < kk) = true := decide_eq_true (by omega)
        have ez2 : ((kk : Int) - 1).toNat = kk - 1 := by omega
        have hm1 : (kk : Int) - 1 < (l.length : Int) := by omega
        have hm2 : (0 : Int) ≤ (kk : Int) - 1 := by omega
        have hm3 : (1 : Int) ≤ (kk : Int) := by omega
        have hwk : IntKind.i64.wrap ((kk : Int) - 1) = (kk : Int) - 1 := IntWalk.i64_in _ (by omega)
        clear hkc HC
        refine wp_region_held_drew (S := fun W => W.cell? ⟨N, 0, none⟩ = some (.string k) ∧ W.cell? ⟨N, 1, none⟩ = some (.int .i64 (f k).an.ve) ∧ W.cell? ⟨N, 2, none⟩ = some (.int .i64 (f k).an.bo) ∧ W.cell? ⟨N, 3, none⟩ = some (.int .i64 (f k).us) ∧ W.cell? ⟨D0, 0, none⟩ = some vc ∧ W.cell? ⟨D0, 1, none⟩ = some vr ∧ W.cell? ⟨D0, 2, none⟩ = some ve ∧ W.cell? ⟨D0, 3, none⟩ = some vp ∧ W.cell? ⟨b, off + (kk - 1) * 4, none⟩ = some (.string k2)) (by kernel_rfl) (by exact HC1.out _ HQ0) (fun hHeld => ?_)
        have HB9 := Lib.hid HQ0
        clear HQ0
        refine takeIn (v := ?_) 0 45 rfl rfl (by kernel_rfl) (by kernel_rfl) (by kernel_rfl) (fun _ _ _ h => h) hHeld (by rfl) ?_ ?_
        rotate_left
        · (intro w' hSw; (try dsimp only at hSw); go_simp) <;> with_reducible rfl
        try simp only [Act.put, List.setIfInBounds_toArray, List.set_cons_zero, List.set_cons_succ]
        refine takeIn (v := ?_) 1 46 rfl rfl (by kernel_rfl) (by kernel_rfl) (by kernel_rfl) (fun _ _ _ h => h) hHeld (by rfl) ?_ ?_
        rotate_left
        · (intro w' hSw; (try dsimp only at hSw); go_simp) <;> with_reducible rfl
        try simp only [Act.put, List.setIfInBounds_toArray, List.set_cons_zero, List.set_cons_succ]
        refine takeIn (v := ?_) 2 47 rfl rfl (by kernel_rfl) (by kernel_rfl) (by kernel_rfl) (fun _ _ _ h => h) hHeld (by rfl) ?_ ?_
        rotate_left
        · (intro w' hSw; (try dsimp only at hSw); go_simp) <;> with_reducible rfl
        try simp only [Act.put, List.setIfInBounds_toArray, List.set_cons_zero, List.set_cons_succ]
        refine takeIn (v := ?_) 3 48 rfl rfl (by kernel_rfl) (by kernel_rfl) (by kernel_rfl) (fun _ _ _ h => h) hHeld (by rfl) ?_ ?_
        rotate_left
        · (intro w' hSw; (try dsimp only at hSw); go_simp) <;> with_reducible rfl
        try simp only [Act.put, List.setIfInBounds_toArray, List.set_cons_zero, List.set_cons_succ]
        refine takeIn (v := ?_) 4 49 rfl rfl (by kernel_rfl) (by kernel_rfl) (by kernel_rfl) (fun _ _ _ h => h) hHeld (by rfl) ?_ ?_
        rotate_left
        · (intro w' hSw; (try dsimp only at hSw); go_simp) <;> with_reducible rfl
        try simp only [Act.put, List.setIfInBounds_toArray, List.set_cons_zero, List.set_cons_succ]
        refine takeIn (v := ?_) 5 50 rfl rfl (by kernel_rfl) (by kernel_rfl) (by kernel_rfl) (fun _ _ _ h => h) hHeld (by rfl) ?_ ?_
        rotate_left
        · (intro w' hSw; (try dsimp only at hSw); go_simp) <;> with_reducible rfl
        try simp only [Act.put, List.setIfInBounds_toArray, List.set_cons_zero, List.set_cons_succ]
        refine takeIn (v := ?_) 6 51 rfl rfl (by kernel_rfl) (by kernel_rfl) (by kernel_rfl) (fun _ _ _ h => h) hHeld (by rfl) ?_ ?_
        rotate_left
        · (intro w' hSw; (try dsimp only at hSw); go_simp) <;> with_reducible rfl
        try simp only [Act.put, List.setIfInBounds_toArray, List.set_cons_zero, List.set_cons_succ]
        refine takeIn (v := ?_) 7 52 rfl rfl (by kernel_rfl) (by kernel_rfl) (by kernel_rfl) (fun _ _ _ h => h) hHeld (by rfl) ?_ ?_
        rotate_left
        · (intro w' hSw; (try dsimp only at hSw); go_simp) <;> with_reducible rfl
        try simp only [Act.put, List.setIfInBounds_toArray, List.set_cons_zero, List.set_cons_succ]
        refine takeIn (v := ?_) 8 53 rfl rfl (by kernel_rfl) (by kernel_rfl) (by kernel_rfl) (fun _ _ _ h => h) hHeld (by rfl) ?_ ?_
        rotate_left
        · (intro w' hSw; (try dsimp only at hSw); go_simp) <;> with_reducible rfl
        try simp only [Act.put, List.setIfInBounds_toArray, List.set_cons_zero, List.set_cons_succ]
        refine takeIn (v := ?_) 9 54 rfl rfl (by kernel_rfl) (by kernel_rfl) (by kernel_rfl) (fun _ _ _ h => h) hHeld (by rfl) ?_ ?_
        rotate_left
        · (intro w' hSw; (try dsimp only at hSw); go_simp) <;> with_reducible rfl
        try simp only [Act.put, List.setIfInBounds_toArray, List.set_cons_zero, List.set_cons_succ]
        refine takeIn (v := ?_) 10 55 rfl rfl (by kernel_rfl) (by kernel_rfl) (by kernel_rfl) (fun _ _ _ h => h) hHeld (by rfl) ?_ ?_
        rotate_left
        · (intro w' hSw; (try dsimp only at hSw); go_simp) <;> with_reducible rfl
        try simp only [Act.put, List.setIfInBounds_toArray, List.set_cons_zero, List.set_cons_succ]
        refine takeIn (v := ?_) 11 56 rfl rfl (by kernel_rfl) (by kernel_rfl) (by kernel_rfl) (fun _ _ _ h => h) hHeld (by rfl) ?_ ?_
        rotate_left
        · (intro w' hSw; (try dsimp only at hSw); go_simp) <;> with_reducible rfl
        try simp only [Act.put, List.setIfInBounds_toArray, List.set_cons_zero, List.set_cons_succ]
        refine takeIn (v := ?_) 12 57 rfl rfl (by kernel_rfl) (by kernel_rfl) (by kernel_rfl) (fun _ _ _ h => h) hHeld (by rfl) ?_ ?_
        rotate_left
        · (intro w' hSw; (try dsimp only at hSw); go_simp) <;> with_reducible rfl
        try simp only [Act.put, List.setIfInBounds_toArray, List.set_cons_zero, List.set_cons_succ]
        refine takeIn (v := ?_) 13 58 rfl rfl (by kernel_rfl) (by kernel_rfl) (by kernel_rfl) (fun _ _ _ h => h) hHeld (by rfl) ?_ ?_
        rotate_left
        · (intro w' hSw; (try dsimp only at hSw); go_simp) <;> with_reducible rfl
        try simp only [Act.put, List.setIfInBounds_toArray, List.set_cons_zero, List.set_cons_succ]
        refine takeIn (v := ?_) 14 59 rfl rfl (by kernel_rfl) (by kernel_rfl) (by kernel_rfl) (fun _ _ _ h => h) hHeld (by rfl) ?_ ?_
        rotate_left
        · (intro w' hSw; (try dsimp only at hSw); go_simp) <;> with_reducible rfl
        try simp only [Act.put, List.setIfInBounds_toArray, List.set_cons_zero, List.set_cons_succ]
        refine takeIn (v := ?_) 15 60 rfl rfl (by kernel_rfl) (by kernel_rfl) (by kernel_rfl) (fun _ _ _ h => h) hHeld (by rfl) ?_ ?_
        rotate_left
        · (intro w' hSw; (try dsimp only at hSw); go_simp) <;> with_reducible rfl
        try simp only [Act.put, List.setIfInBounds_toArray, List.set_cons_zero, List.set_cons_succ]
        refine takeIn (v := ?_) 16 61 rfl rfl (by kernel_rfl) (by kernel_rfl) (by kernel_rfl) (fun _ _ _ h => h) hHeld (by rfl) ?_ ?_
        rotate_left
        · (intro w' hSw; (try dsimp only at hSw); go_simp) <;> with_reducible rfl
        try simp only [Act.put, List.setIfInBounds_toArray, List.set_cons_zero, List.set_cons_succ]
        refine takeIn (v := ?_) 17 62 rfl rfl (by kernel_rfl) (by kernel_rfl) (by kernel_rfl) (fun _ _ _ h => h) hHeld (by rfl) ?_ ?_
        rotate_left
        · (intro w' hSw; (try dsimp only at hSw); go_simp) <;> with_reducible rfl
        try simp only [Act.put, List.setIfInBounds_toArray, List.set_cons_zero, List.set_cons_succ]
        refine takeIn (v := ?_) 18 63 rfl rfl (by kernel_rfl) (by kernel_rfl) (by kernel_rfl) (fun _ _ _ h => h) hHeld (by rfl) ?_ ?_
        rotate_left
        · (intro w' hSw; (try dsimp only at hSw); go_simp) <;> with_reducible rfl
        try simp only [Act.put, List.setIfInBounds_toArray, List.set_cons_zero, List.set_cons_succ]
        refine takeIn (v := ?_) 19 64 rfl rfl (by kernel_rfl) (by kernel_rfl) (by kernel_rfl) (fun _ _ _ h => h) hHeld (by rfl) ?_ ?_
        rotate_left
        · (intro w' hSw; (try dsimp only at hSw); go_simp) <;> with_reducible rfl
        try simp only [Act.put, List.setIfInBounds_toArray, List.set_cons_zero, List.set_cons_succ]
        refine takeIn (v := ?_) 20 65 rfl rfl (by kernel_rfl) (by kernel_rfl) (by kernel_rfl) (fun _ _ _ h => h) hHeld (by rfl) ?_ ?_
        rotate_left
        · (intro w' hSw; (try dsimp only at hSw); go_simp) <;> with_reducible rfl
        try simp only [Act.put, List.setIfInBounds_toArray, List.set_cons_zero, List.set_cons_succ]
        refine takeIn (v := ?_) 21 66 rfl rfl (by kernel_rfl) (by kernel_rfl) (by kernel_rfl) (fun _ _ _ h => h) hHeld (by rfl) ?_ ?_
        rotate_left
        · (intro w' hSw; (try dsimp only at hSw); go_simp) <;> with_reducible rfl
        try simp only [Act.put, List.setIfInBounds_toArray, List.set_cons_zero, List.set_cons_succ]
        refine takeIn (v := ?_) 22 67 rfl rfl (by kernel_rfl) (by kernel_rfl) (by kernel_rfl) (fun _ _ _ h => h) hHeld (by rfl) ?_ ?_
        rotate_left
        · (intro w' hSw; (try dsimp only at hSw); go_simp) <;> with_reducible rfl
        try simp only [Act.put, List.setIfInBounds_toArray, List.set_cons_zero, List.set_cons_succ]
        refine takeIn (v := ?_) 23 68 rfl rfl (by kernel_rfl) (by kernel_rfl) (by kernel_rfl) (fun _ _ _ h => h) hHeld (by rfl) ?_ ?_
        rotate_left
        · (intro w' hSw; (try dsimp only at hSw); go_simp) <;> with_reducible rfl
        try simp only [Act.put, List.setIfInBounds_toArray, List.set_cons_zero, List.set_cons_succ]
        refine takeIn (v := ?_) 24 69 rfl rfl (by kernel_rfl) (by kernel_rfl) (by kernel_rfl) (fun _ _ _ h => h) hHeld (by rfl) ?_ ?_
        rotate_left
        · (intro w' hSw; (try dsimp only at hSw); go_simp) <;> with_reducible rfl
        try simp only [Act.put, List.setIfInBounds_toArray, List.set_cons_zero, List.set_cons_succ]
        refine takeIn (v := ?_) 25 70 rfl rfl (by kernel_rfl) (by kernel_rfl) (by kernel_rfl) (fun _ _ _ h => h) hHeld (by rfl) ?_ ?_
        rotate_left
        · (intro w' hSw; (try dsimp only at hSw); go_simp) <;> with_reducible rfl
        try simp only [Act.put, List.setIfInBounds_toArray, List.set_cons_zero, List.set_cons_succ]
        refine takeIn (v := ?_) 26 71 rfl rfl (by kernel_rfl) (by kernel_rfl) (by kernel_rfl) (fun _ _ _ h => h) hHeld (by rfl) ?_ ?_
        rotate_left
        · (intro w' hSw; (try dsimp only at hSw); go_simp) <;> with_reducible rfl
        try simp only [Act.put, List.setIfInBounds_toArray, List.set_cons_zero, List.set_cons_succ]
        refine takeIn (v := ?_) 27 72 rfl rfl (by kernel_rfl) (by kernel_rfl) (by kernel_rfl) (fun _ _ _ h => h) hHeld (by rfl) ?_ ?_
        rotate_left
        · (intro w' hSw; (try dsimp only at hSw); go_simp) <;> with_reducible rfl
        try simp only [Act.put, List.setIfInBounds_toArray, List.set_cons_zero, List.set_cons_succ]
        refine takeIn (v := ?_) 28 73 rfl rfl (by kernel_rfl) (by kernel_rfl) (by kernel_rfl) (fun _ _ _ h => h) hHeld (by rfl) ?_ ?_
        rotate_left
        · (intro w' hSw; (try dsimp only at hSw); go_simp) <;> with_reducible rfl
        try simp only [Act.put, List.setIfInBounds_toArray, List.set_cons_zero, List.set_cons_succ]
        refine takeIn (v := ?_) 29 74 rfl rfl (by kernel_rfl) (by kernel_rfl) (by kernel_rfl) (fun _ _ _ h => h) hHeld (by rfl) ?_ ?_
        rotate_left
        · (intro w' hSw; (try dsimp only at hSw); go_simp) <;> with_reducible rfl
        try simp only [Act.put, List.setIfInBounds_toArray, List.set_cons_zero, List.set_cons_succ]
        refine takeIn (v := ?_) 30 75 rfl rfl (by kernel_rfl) (by kernel_rfl) (by kernel_rfl) (fun _ _ _ h => h) hHeld (by rfl) ?_ ?_
        rotate_left
        · (intro w' hSw; (try dsimp only at hSw); go_simp) <;> with_reducible rfl
        try simp only [Act.put, List.setIfInBounds_toArray, List.set_cons_zero, List.set_cons_succ]
        refine takeIn (v := ?_) 31 76 rfl rfl (by kernel_rfl) (by kernel_rfl) (by kernel_rfl) (fun _ _ _ h => h) hHeld (by rfl) ?_ ?_
        rotate_left
        · (intro w' hSw; (try dsimp only at hSw); go_simp) <;> with_reducible rfl
        try simp only [Act.put, List.setIfInBounds_toArray, List.set_cons_zero, List.set_cons_succ]
        refine takeIn (v := ?_) 32 77 rfl rfl (by kernel_rfl) (by kernel_rfl) (by kernel_rfl) (fun _ _ _ h => h) hHeld (by rfl) ?_ ?_
        rotate_left
        · (intro w' hSw; (try dsimp only at hSw); go_simp) <;> with_reducible rfl
        try simp only [Act.put, List.setIfInBounds_toArray, List.set_cons_zero, List.set_cons_succ]
        refine callIn (f := 12) (args := #[.agg #[vc, vr, ve, vp], .string k, .int .i64 t]) 33 78 rfl rfl (by kernel_rfl) (by rfl) (by go_simp) ?_
        clear hHeld
        refine (HP1.out _ HB9.out).mono ?_
        rintro e w9 ⟨rfl, hb9⟩
        replace HB9 := Lib.hid (HB9.out.thru hb9)
        clear hb9
        have hHeld : w9.cell? ⟨N, 0, none⟩ = some (.string k) ∧ w9.cell? ⟨N, 1, none⟩ = some (.int .i64 (f k).an.ve) ∧ w9.cell? ⟨N, 2, none⟩ = some (.int .i64 (f k).an.bo) ∧ w9.cell? ⟨N, 3, none⟩ = some (.int .i64 (f k).us) ∧ w9.cell? ⟨D0, 0, none⟩ = some vc ∧ w9.cell? ⟨D0, 1, none⟩ = some vr ∧ w9.cell? ⟨D0, 2, none⟩ = some ve ∧ w9.cell? ⟨D0, 3, none⟩ = some vp ∧ w9.cell? ⟨b, off + (kk - 1) * 4, none⟩ = some (.string k2) := HC1.out _ HB9.out
        refine ⟨_, rfl, hHeld, ?_⟩
        try simp only [Act.put, List.setIfInBounds_toArray, List.set_cons_zero, List.set_cons_succ]
        refine takeIn (v := ?_) 34 79 rfl rfl (by kernel_rfl) (by kernel_rfl) (by kernel_rfl) (fun _ _ _ h => h) hHeld (by rfl) ?_ ?_
        rotate_left
        · (intro w' hSw; (try dsimp only at hSw); go_simp) <;> with_reducible rfl
        try simp only [Act.put, List.setIfInBounds_toArray, List.set_cons_zero, List.set_cons_succ]
        refine takeIn (v := ?_) 35 80 rfl rfl (by kernel_rfl) (by kernel_rfl) (by kernel_rfl) (fun _ _ _ h => h) hHeld (by rfl) ?_ ?_
        rotate_left
        · (intro w' hSw; (try dsimp only at hSw); go_simp) <;> with_reducible rfl
        try simp only [Act.put, List.setIfInBounds_toArray, List.set_cons_zero, List.set_cons_succ]
        refine wpAnyH_done (by kernel_rfl) ?_ _
        clear hHeld
        go_wp2_with fail
        go_roundg (l.length - (kk + 1))
        case measure => omega
        case rel => exact ⟨kk + 1, by omega, by omega, by go_num, by rw [HF1.out], HBY.out.trans (HB9.out.mono HBY.out.size)⟩
      · have hz : decide ((0 : Int) < (kk : Int)) = false := decide_eq_false (by omega)
        have hz' : ¬ (0 : Int) < (kk : Int) := by omega
        have hz2 : decide (0 < kk) = false := decide_eq_false (by omega)
        refine wp_region_held_drew (S := fun W => W.cell? ⟨N, 0, none⟩ = some (.string k) ∧ W.cell? ⟨N, 1, none⟩ = some (.int .i64 (f k).an.ve) ∧ W.cell? ⟨N, 2, none⟩ = some (.int .i64 (f k).an.bo) ∧ W.cell? ⟨N, 3, none⟩ = some (.int .i64 (f k).us) ∧ W.cell? ⟨D0, 0, none⟩ = some vc ∧ W.cell? ⟨D0, 1, none⟩ = some vr ∧ W.cell? ⟨D0, 2, none⟩ = some ve ∧ W.cell? ⟨D0, 3, none⟩ = some vp) (by kernel_rfl) (by exact HC.out _ HQ0) (fun hHeld => ?_)
        have HB9 := Lib.hid HQ0
        clear HQ0
        refine takeIn (v := ?_) 0 45 rfl rfl (by kernel_rfl) (by kernel_rfl) (by kernel_rfl) (fun _ _ _ h => h) hHeld (by rfl) ?_ ?_
        rotate_left
        · (intro w' hSw; (try dsimp only at hSw); go_simp) <;> with_reducible rfl
        try simp only [Act.put, List.setIfInBounds_toArray, List.set_cons_zero, List.set_cons_succ]
        refine takeIn (v := ?_) 1 46 rfl rfl (by kernel_rfl) (by kernel_rfl) (by kernel_rfl) (fun _ _ _ h => h) hHeld (by rfl) ?_ ?_
        rotate_left
        · (intro w' hSw; (try dsimp only at hSw); go_simp) <;> with_reducible rfl
        try simp only [Act.put, List.setIfInBounds_toArray, List.set_cons_zero, List.set_cons_succ]
        refine takeIn (v := ?_) 2 47 rfl rfl (by kernel_rfl) (by kernel_rfl) (by kernel_rfl) (fun _ _ _ h => h) hHeld (by rfl) ?_ ?_
        rotate_left
        · (intro w' hSw; (try dsimp only at hSw); go_simp) <;> with_reducible rfl
        try simp only [Act.put, List.setIfInBounds_toArray, List.set_cons_zero, List.set_cons_succ]
        refine takeOut 3 48 rfl rfl (by kernel_rfl) (by kernel_rfl) (by kernel_rfl) (fun _ _ _ h => h) hHeld (by rfl) ?_
        try simp only [Act.put, List.setIfInBounds_toArray, List.set_cons_zero, List.set_cons_succ]
        refine takeOut 4 49 rfl rfl (by kernel_rfl) (by kernel_rfl) (by kernel_rfl) (fun _ _ _ h => h) hHeld (by rfl) ?_
        try simp only [Act.put, List.setIfInBounds_toArray, List.set_cons_zero, List.set_cons_succ]
        refine takeOut 5 50 rfl rfl (by kernel_rfl) (by kernel_rfl) (by kernel_rfl) (fun _ _ _ h => h) hHeld (by rfl) ?_
        try simp only [Act.put, List.setIfInBounds_toArray, List.set_cons_zero, List.set_cons_succ]
        refine takeOut 6 51 rfl rfl (by kernel_rfl) (by kernel_rfl) (by kernel_rfl) (fun _ _ _ h => h) hHeld (by rfl) ?_
        try simp only [Act.put, List.setIfInBounds_toArray, List.set_cons_zero, List.set_cons_succ]
        refine takeOut 7 52 rfl rfl (by kernel_rfl) (by kernel_rfl) (by kernel_rfl) (fun _ _ _ h => h) hHeld (by rfl) ?_
        try simp only [Act.put, List.setIfInBounds_toArray, List.set_cons_zero, List.set_cons_succ]
        refine takeOut 8 53 rfl rfl (by kernel_rfl) (by kernel_rfl) (by kernel_rfl) (fun _ _ _ h => h) hHeld (by rfl) ?_
        try simp only [Act.put, List.setIfInBounds_toArray, List.set_cons_zero, List.set_cons_succ]
        refine takeOut 9 54 rfl rfl (by kernel_rfl) (by kernel_rfl) (by kernel_rfl) (fun _ _ _ h => h) hHeld (by rfl) ?_
        try simp only [Act.put, List.setIfInBounds_toArray, List.set_cons_zero, List.set_cons_succ]
        refine takeOut 10 55 rfl rfl (by kernel_rfl) (by kernel_rfl) (by kernel_rfl) (fun _ _ _ h => h) hHeld (by rfl) ?_
        try simp only [Act.put, List.setIfInBounds_toArray, List.set_cons_zero, List.set_cons_succ]
        refine takeOut 11 56 rfl rfl (by kernel_rfl) (by kernel_rfl) (by kernel_rfl) (fun _ _ _ h => h) hHeld (by rfl) ?_
        try simp only [Act.put, List.setIfInBounds_toArray, List.set_cons_zero, List.set_cons_succ]
        refine takeIn (v := ?_) 12 57 rfl rfl (by kernel_rfl) (by kernel_rfl) (by kernel_rfl) (fun _ _ _ h => h) hHeld (by rfl) ?_ ?_
        rotate_left
        · (intro w' hSw; (try dsimp only at hSw); go_simp) <;> with_reducible rfl
        try simp only [Act.put, List.setIfInBounds_toArray, List.set_cons_zero, List.set_cons_succ]
        refine takeIn (v := ?_) 13 58 rfl rfl (by kernel_rfl) (by kernel_rfl) (by kernel_rfl) (fun _ _ _ h => h) hHeld (by rfl) ?_ ?_
        rotate_left
        · (intro w' hSw; (try dsimp only at hSw); go_simp) <;> with_reducible rfl
        try simp only [Act.put, List.setIfInBounds_toArray, List.set_cons_zero, List.set_cons_succ]
        refine takeIn (v := ?_) 14 59 rfl rfl (by kernel_rfl) (by kernel_rfl) (by kernel_rfl) (fun _ _ _ h => h) hHeld (by rfl) ?_ ?_
        rotate_left
        · (intro w' hSw; (try dsimp only at hSw); go_simp) <;> with_reducible rfl
        try simp only [Act.put, List.setIfInBounds_toArray, List.set_cons_zero, List.set_cons_succ]
        refine takeIn (v := ?_) 15 60 rfl rfl (by kernel_rfl) (by kernel_rfl) (by kernel_rfl) (fun _ _ _ h => h) hHeld (by rfl) ?_ ?_
        rotate_left
        · (intro w' hSw; (try dsimp only at hSw); go_simp) <;> with_reducible rfl
        try simp only [Act.put, List.setIfInBounds_toArray, List.set_cons_zero, List.set_cons_succ]
        refine takeIn (v := ?_) 16 61 rfl rfl (by kernel_rfl) (by kernel_rfl) (by kernel_rfl) (fun _ _ _ h => h) hHeld (by rfl) ?_ ?_
        rotate_left
        · (intro w' hSw; (try dsimp only at hSw); go_simp) <;> with_reducible rfl
        try simp only [Act.put, List.setIfInBounds_toArray, List.set_cons_zero, List.set_cons_succ]
        refine takeIn (v := ?_) 17 62 rfl rfl (by kernel_rfl) (by kernel_rfl) (by kernel_rfl) (fun _ _ _ h => h) hHeld (by rfl) ?_ ?_
        rotate_left
        · (intro w' hSw; (try dsimp only at hSw); go_simp) <;> with_reducible rfl
        try simp only [Act.put, List.setIfInBounds_toArray, List.set_cons_zero, List.set_cons_succ]
        refine takeIn (v := ?_) 18 63 rfl rfl (by kernel_rfl) (by kernel_rfl) (by kernel_rfl) (fun _ _ _ h => h) hHeld (by rfl) ?_ ?_
        rotate_left
        · (intro w' hSw; (try dsimp only at hSw); go_simp) <;> with_reducible rfl
        try simp only [Act.put, List.setIfInBounds_toArray, List.set_cons_zero, List.set_cons_succ]
        refine takeIn (v := ?_) 19 64 rfl rfl (by kernel_rfl) (by kernel_rfl) (by kernel_rfl) (fun _ _ _ h => h) hHeld (by rfl) ?_ ?_
        rotate_left
        · (intro w' hSw; (try dsimp only at hSw); go_simp) <;> with_reducible rfl
        try simp only [Act.put, List.setIfInBounds_toArray, List.set_cons_zero, List.set_cons_succ]
        refine takeIn (v := ?_) 20 65 rfl rfl (by kernel_rfl) (by kernel_rfl) (by kernel_rfl) (fun _ _ _ h => h) hHeld (by rfl) ?_ ?_
        rotate_left
        · (intro w' hSw; (try dsimp only at hSw); go_simp) <;> with_reducible rfl
        try simp only [Act.put, List.setIfInBounds_toArray, List.set_cons_zero, List.set_cons_succ]
        refine takeIn (v := ?_) 21 66 rfl rfl (by kernel_rfl) (by kernel_rfl) (by kernel_rfl) (fun _ _ _ h => h) hHeld (by rfl) ?_ ?_
        rotate_left
        · (intro w' hSw; (try dsimp only at hSw); go_simp) <;> with_reducible rfl
        try simp only [Act.put, List.setIfInBounds_toArray, List.set_cons_zero, List.set_cons_succ]
        refine takeIn (v := ?_) 22 67 rfl rfl (by kernel_rfl) (by kernel_rfl) (by kernel_rfl) (fun _ _ _ h => h) hHeld (by rfl) ?_ ?_
        rotate_left
        · (intro w' hSw; (try dsimp only at hSw); go_simp) <;> with_reducible rfl
        try simp only [Act.put, List.setIfInBounds_toArray, List.set_cons_zero, List.set_cons_succ]
        refine takeIn (v := ?_) 23 68 rfl rfl (by kernel_rfl) (by kernel_rfl) (by kernel_rfl) (fun _ _ _ h => h) hHeld (by rfl) ?_ ?_
        rotate_left
        · (intro w' hSw; (try dsimp only at hSw); go_simp) <;> with_reducible rfl
        try simp only [Act.put, List.setIfInBounds_toArray, List.set_cons_zero, List.set_cons_succ]
        refine takeIn (v := ?_) 24 69 rfl rfl (by kernel_rfl) (by kernel_rfl) (by kernel_rfl) (fun _ _ _ h => h) hHeld (by rfl) ?_ ?_
        rotate_left
        · (intro w' hSw; (try dsimp only at hSw); go_simp) <;> with_reducible rfl
        try simp only [Act.put, List.setIfInBounds_toArray, List.set_cons_zero, List.set_cons_succ]
        refine takeIn (v := ?_) 25 70 rfl rfl (by kernel_rfl) (by kernel_rfl) (by kernel_rfl) (fun _ _ _ h => h) hHeld (by rfl) ?_ ?_
        rotate_left
        · (intro w' hSw; (try dsimp only at hSw); go_simp) <;> with_reducible rfl
        try simp only [Act.put, List.setIfInBounds_toArray, List.set_cons_zero, List.set_cons_succ]
        refine takeIn (v := ?_) 26 71 rfl rfl (by kernel_rfl) (by kernel_rfl) (by kernel_rfl) (fun _ _ _ h => h) hHeld (by rfl) ?_ ?_
        rotate_left
        · (intro w' hSw; (try dsimp only at hSw); go_simp) <;> with_reducible rfl
        try simp only [Act.put, List.setIfInBounds_toArray, List.set_cons_zero, List.set_cons_succ]
        refine takeIn (v := ?_) 27 72 rfl rfl (by kernel_rfl) (by kernel_rfl) (by kernel_rfl) (fun _ _ _ h => h) hHeld (by rfl) ?_ ?_
        rotate_left
        · (intro w' hSw; (try dsimp only at hSw); go_simp) <;> with_reducible rfl
        try simp only [Act.put, List.setIfInBounds_toArray, List.set_cons_zero, List.set_cons_succ]
        refine takeIn (v := ?_) 28 73 rfl rfl (by kernel_rfl) (by kernel_rfl) (by kernel_rfl) (fun _ _ _ h => h) hHeld (by rfl) ?_ ?_
        rotate_left
        · (intro w' hSw; (try dsimp only at hSw); go_simp) <;> with_reducible rfl
        try simp only [Act.put, List.setIfInBounds_toArray, List.set_cons_zero, List.set_cons_succ]
        refine takeIn (v := ?_) 29 74 rfl rfl (by kernel_rfl) (by kernel_rfl) (by kernel_rfl) (fun _ _ _ h => h) hHeld (by rfl) ?_ ?_
        rotate_left
        · (intro w' hSw; (try dsimp only at hSw); go_simp) <;> with_reducible rfl
        try simp only [Act.put, List.setIfInBounds_toArray, List.set_cons_zero, List.set_cons_succ]
        refine takeIn (v := ?_) 30 75 rfl rfl (by kernel_rfl) (by kernel_rfl) (by kernel_rfl) (fun _ _ _ h => h) hHeld (by rfl) ?_ ?_
        rotate_left
        · (intro w' hSw; (try dsimp only at hSw); go_simp) <;> with_reducible rfl
        try simp only [Act.put, List.setIfInBounds_toArray, List.set_cons_zero, List.set_cons_succ]
        refine takeIn (v := ?_) 31 76 rfl rfl (by kernel_rfl) (by kernel_rfl) (by kernel_rfl) (fun _ _ _ h => h) hHeld (by rfl) ?_ ?_
        rotate_left
        · (intro w' hSw; (try dsimp only at hSw); go_simp) <;> with_reducible rfl
        try simp only [Act.put, List.setIfInBounds_toArray, List.set_cons_zero, List.set_cons_succ]
        refine takeIn (v := ?_) 32 77 rfl rfl (by kernel_rfl) (by kernel_rfl) (by kernel_rfl) (fun _ _ _ h => h) hHeld (by rfl) ?_ ?_
        rotate_left
        · (intro w' hSw; (try dsimp only at hSw); go_simp) <;> with_reducible rfl
        try simp only [Act.put, List.setIfInBounds_toArray, List.set_cons_zero, List.set_cons_succ]
        refine callIn (f := 12) (args := #[.agg #[vc, vr, ve, vp], .string k, .int .i64 t]) 33 78 rfl rfl (by kernel_rfl) (by rfl) (by go_simp) ?_
        clear hHeld
        refine (HP1.out _ HB9.out).mono ?_
        rintro e w9 ⟨rfl, hb9⟩
        replace HB9 := Lib.hid (HB9.out.thru hb9)
        clear hb9
        have hHeld : w9.cell? ⟨N, 0, none⟩ = some (.string k) ∧ w9.cell? ⟨N, 1, none⟩ = some (.int .i64 (f k).an.ve) ∧ w9.cell? ⟨N, 2, none⟩ = some (.int .i64 (f k).an.bo) ∧ w9.cell? ⟨N, 3, none⟩ = some (.int .i64 (f k).us) ∧ w9.cell? ⟨D0, 0, none⟩ = some vc ∧ w9.cell? ⟨D0, 1, none⟩ = some vr ∧ w9.cell? ⟨D0, 2, none⟩ = some ve ∧ w9.cell? ⟨D0, 3, none⟩ = some vp := HC.out _ HB9.out
        refine ⟨_, rfl, hHeld, ?_⟩
        try simp only [Act.put, List.setIfInBounds_toArray, List.set_cons_zero, List.set_cons_succ]
        refine takeIn (v := ?_) 34 79 rfl rfl (by kernel_rfl) (by kernel_rfl) (by kernel_rfl) (fun _ _ _ h => h) hHeld (by rfl) ?_ ?_
        rotate_left
        · (intro w' hSw; (try dsimp only at hSw); go_simp) <;> with_reducible rfl
        try simp only [Act.put, List.setIfInBounds_toArray, List.set_cons_zero, List.set_cons_succ]
        refine takeIn (v := ?_) 35 80 rfl rfl (by kernel_rfl) (by kernel_rfl) (by kernel_rfl) (fun _ _ _ h => h) hHeld (by rfl) ?_ ?_
        rotate_left
        · (intro w' hSw; (try dsimp only at hSw); go_simp) <;> with_reducible rfl
        try simp only [Act.put, List.setIfInBounds_toArray, List.set_cons_zero, List.set_cons_succ]
        refine wpAnyH_done (by kernel_rfl) ?_ _
        clear hHeld
        go_wp2_with fail
        go_roundg (l.length - (kk + 1))
        case measure => omega
        case rel => exact ⟨kk + 1, by omega, by omega, by go_num, by rw [HF1.out], HBY.out.trans (HB9.out.mono HBY.out.size)⟩
    · obtain rfl : kk = l.length := by omega
      have hltz : ¬ (l.length : Int) < (l.length : Int) := by omega
      have hR := HRo3.out wi BW.out
      have HR1 := Lib.hid hR
      have hQ3 := HQ.out wi HBr.out
      have r0 : wi.cell? ⟨D0, 0, none⟩ = some vc := cellF hQ3 0 rfl
      have r1 : wi.cell? ⟨D0, 1, none⟩ = some vr := cellF hQ3 1 rfl
      have r2 : wi.cell? ⟨D0, 2, none⟩ = some ve := cellF hQ3 2 rfl
      have r3 : wi.cell? ⟨D0, 3, none⟩ = some vp := cellF hQ3 3 rfl
      have HBX := Lib.hid (HB2.out.thru HBr.out)
      clear hR hQ3
      go_wp2_with (first | (go_at_call 27; (with_reducible refine HR1.out.mono ?_); rintro e w5 ⟨rfl, hb5⟩; have HB5 := Lib.hid (HBX.out.thru hb5); clear hb5) | (go_at_call 11; (with_reducible refine (H5.out _ HB5.out).mono ?_); rintro e w6 ⟨rfl, hb6⟩; have HB6 := Lib.hid (HB5.out.thru hb6); clear hb6))
      go_ret
      exact ⟨rfl, HB6.out⟩
end Go.Proofs.YtgohddfnhofjhaaGreatDoor

/- cacheOf and CheckCaches of the reference. -/
import Derived.Test.YtmgbmoiefgfemaaDoorIdxC
import Derived.Test.YtmgbmoiefgfemaaDoorOutE
namespace Go.Proofs.YtmgbmoiefgfemaaDoor
open Go.RowKit

/-- The number of a cache; -1: there is none. -/
def cofI (l : List Cch) (n : ByteArray) : Int := fidxC (fun o => isC o n) l
theorem cofI_has (l : List Cch) (n : ByteArray) : decide (0 ≤ cofI l n) = hasC l n := fidxC_any _ _
theorem cofI_hit {l : List Cch} {n : ByteArray} {k : Nat} {x : Cch} (hx : l[k]? = some x) (h : isC x n = true) (hn : ∀ (j : Nat) y, l[j]? = some y → j < k → isC y n = false) : cofI l n = k := (fidxC_hit hx h hn).1
theorem cofI_none {l : List Cch} {n : ByteArray} (hn : ∀ (j : Nat) y, l[j]? = some y → isC y n = false) : cofI l n = -1 := (fidxC_none hn).1

set_option maxRecDepth 100000 in
set_option maxHeartbeats 1000000 in
theorem cacheOf_any (w : World) (l : List Cch) (v : Value) (n : ByteArray) (hl : Sl w 4 encC v l) :
    Calls Tryd.prog 49 #[v, .string n] w fun e w' => e = .returned (.int .i64 (cofI l n)) ∧ Below w.heap.size w w' := by
  obtain ⟨ao, cap, rfl, hcap, hmax, hnil, hel⟩ := hl
  unfold maxLen at hmax
  have HEL := Lib.hid hel
  have HH := Lib.hid (fun k x hx h hn => @cofI_hit l n k x hx h hn)
  have HN := Lib.hid (@cofI_none l n)
  obtain ⟨I, hI⟩ : ∃ I, I = cofI l n := ⟨_, rfl⟩
  rw [← hI] at HH HN ⊢
  clear hel hI
  go_enter Tryd.func49, Tryd.ntmps49
  go_wp2
  go_loopg [9] l.length (fun gg s9 wr => ∃ kk : Nat, kk ≤ l.length ∧ l.length - kk ≤ gg ∧ s9 = .int .i64 kk ∧ Aside (Below w.heap.size w wr) ∧ Aside (∀ (j : Nat) y, l[j]? = some y → j < kk → isC y n = false))
  case atStart => exact ⟨0, Nat.zero_le _, by omega, rfl, Below.refl _ _, fun j y _ hj => absurd hj (Nat.not_lt_zero _)⟩
  case round =>
    obtain ⟨kk, hkk, hg, rfl, BW, A⟩ := hrel
    have HBW := Lib.hid BW.out
    have HA := Lib.hid A.out
    have hszw := HBW.out.size
    clear BW A
    by_cases hlt : kk < l.length
    · have hltz : (kk : Int) < (l.length : Int) := by omega
      obtain ⟨x, hx⟩ : ∃ x, l[kk]? = some x := ⟨l[kk], by simp [hlt]⟩
      obtain ⟨b, off, rfl, hc⟩ := HEL.out kk x hx
      have hlt0 := World.block_lt_of_cell? w ⟨b, off + kk * 4 + 0, none⟩ (hc 0 _ rfl)
      have c0 : wr.cell? ⟨b, off + kk * 4, none⟩ = some (.string x.na) := (HBW.out.cell (p := ⟨b, off + kk * 4 + 0, none⟩) hlt0).trans (hc 0 _ rfl)
      have c1 : wr.cell? ⟨b, off + kk * 4 + 1, none⟩ = some (.string x.pa) := (HBW.out.cell (p := ⟨b, off + kk * 4 + 1, none⟩) hlt0).trans (hc 1 _ rfl)
      have c2 : wr.cell? ⟨b, off + kk * 4 + 2, none⟩ = some (.int .i64 x.de) := (HBW.out.cell (p := ⟨b, off + kk * 4 + 2, none⟩) hlt0).trans (hc 2 _ rfl)
      have c3 : wr.cell? ⟨b, off + kk * 4 + 3, none⟩ = some (.int .i64 x.ro) := (HBW.out.cell (p := ⟨b, off + kk * 4 + 3, none⟩) hlt0).trans (hc 3 _ rfl)
      have HBZ := Lib.hid (HBW.out.alloc hszw (.cells #[.string x.na, .string x.pa, .int .i64 x.de, .int .i64 x.ro] 74))
      have HHX := Lib.hid (HH.out kk x hx)
      have HNX : Hid (isC x n = false → ∀ (j : Nat) y, l[j]? = some y → j < kk + 1 → isC y n = false) := Lib.hid (fun h j y hy hj => by
        by_cases e : j = kk
        · subst e
          rw [hx] at hy
          simp only [Option.some.injEq] at hy
          rw [← hy]; exact h
        · exact HA.out j y hy (by omega))
      clear hx hc
      cases hq : (x.na.toList == n.toList)
      case true =>
        have hv : Hid ((kk : Int) = I) := Lib.hid (HHX.out hq HA.out).symm
        go_wp2
        go_ret
        exact ⟨ret_int hv.out, HBZ.out⟩
      case false =>
        have HA2 := Lib.hid (HNX.out hq)
        go_wp2
        go_roundg (l.length - (kk + 1))
        case measure => omega
        case rel => exact ⟨kk + 1, by omega, by omega, by go_num, HBZ.out, HA2.out⟩
    · obtain rfl : kk = l.length := by omega
      have hltz : ¬ (l.length : Int) < (l.length : Int) := by omega
      have hv : Hid (-1 = I) := Lib.hid (HN.out (fun j y hy => HA.out j y hy (List.getElem?_eq_some_iff.1 hy).1)).symm
      go_wp2
      go_ret
      exact ⟨ret_int hv.out, HBW.out⟩

set_option maxRecDepth 100000 in
set_option maxHeartbeats 4000000 in
theorem checkCR_any (w : World) (l : List Cch) (v : Value) (hl : Sl w 4 encC v l) (hw : ∀ x, x ∈ l → WfC x) :
    Calls Tryd.prog 20 #[v] w fun e w' => e = .returned (.int .i64 (checkC l)) ∧ Below w.heap.size w w' := by
  have HL := Lib.hid hl
  obtain ⟨ao, cap, rfl, hcap, hmax, hnil, hel⟩ := hl
  unfold maxLen at hmax
  have HB0 := Lib.hid (Below.refl w.heap.size w)
  by_cases h0 : l.length = 0
  · have hv : Hid (9 = checkC l) := Lib.hid (by simp [checkC, h0])
    have h0z : ((l.length : Int) == 0) = true := by simp [h0]
    clear hel h0
    go_enter Tryd.func20, Tryd.ntmps20
    go_wp2
    go_ret
    exact ⟨ret_int hv.out, HB0.out⟩
  have h0z : ((l.length : Int) == 0) = false := by rw [beq_eq_false_iff_ne]; omega
  have h0y : ¬ (l.length : Int) = 0 := by omega
  by_cases hbig : 30 < l.length
  · have hv : Hid (2 = checkC l) := Lib.hid (by simp [checkC, h0, hbig])
    have hbz : (30 : Int) < (l.length : Int) := by omega
    clear hel h0
    go_enter Tryd.func20, Tryd.ntmps20
    go_wp2
    go_ret
    exact ⟨ret_int hv.out, HB0.out⟩
  have hbz : ¬ (30 : Int) < (l.length : Int) := by omega
  have HF : Hid (checkC l = FF (ccAt l) l.length) := Lib.hid (by simp [checkC, h0, hbig])
  generalize checkC l = F at HF ⊢
  have HW := Lib.hid hw
  have HEL := Lib.hid hel
  clear hw hel h0
  go_enter Tryd.func20, Tryd.ntmps20
  go_wp2
  go_loopg [13] l.length (fun gg s13 wr => ∃ kk : Nat, kk ≤ l.length ∧ l.length - kk ≤ gg ∧ s13 = .int .i64 kk ∧ Aside (Below w.heap.size w wr) ∧ Aside (∀ j, j < kk → ccAt l j = 0))
  case atStart => exact ⟨0, Nat.zero_le _, by omega, rfl, HB0.out, fun j hj => absurd hj (Nat.not_lt_zero _)⟩
  case round =>
    obtain ⟨kk, hkk, hg, rfl, BW, A⟩ := hrel
    have HBW := Lib.hid BW.out
    have HA := Lib.hid A.out
    have hszw := HBW.out.size
    clear BW A HB0
    by_cases hlt : kk < l.length
    · have hltz : (kk : Int) < (l.length : Int) := by omega
      obtain ⟨x, hx⟩ : ∃ x, l[kk]? = some x := ⟨l[kk], by simp [hlt]⟩
      obtain ⟨b, off, rfl, hc⟩ := HEL.out kk x hx
      have hlt0 := World.block_lt_of_cell? w ⟨b, off + kk * 4 + 0, none⟩ (hc 0 _ rfl)
      have c0 : wr.cell? ⟨b, off + kk * 4, none⟩ = some (.string x.na) := (HBW.out.cell (p := ⟨b, off + kk * 4 + 0, none⟩) hlt0).trans (hc 0 _ rfl)
      have c1 : wr.cell? ⟨b, off + kk * 4 + 1, none⟩ = some (.string x.pa) := (HBW.out.cell (p := ⟨b, off + kk * 4 + 1, none⟩) hlt0).trans (hc 1 _ rfl)
      have c2 : wr.cell? ⟨b, off + kk * 4 + 2, none⟩ = some (.int .i64 x.de) := (HBW.out.cell (p := ⟨b, off + kk * 4 + 2, none⟩) hlt0).trans (hc 2 _ rfl)
      have c3 : wr.cell? ⟨b, off + kk * 4 + 3, none⟩ = some (.int .i64 x.ro) := (HBW.out.cell (p := ⟨b, off + kk * 4 + 3, none⟩) hlt0).trans (hc 3 _ rfl)
      have hwf := HW.out x (List.mem_of_getElem? hx)
      have HNM := Lib.hid (fun W => isName5_any x.na W hwf.1)
      obtain ⟨tw, htw⟩ : ∃ tw, tw = hasC (l.take kk) x.na := ⟨_, rfl⟩
      obtain ⟨hp, hhp⟩ : ∃ tw, tw = hasC (l.take kk) x.pa := ⟨_, rfl⟩
      have hat : Hid (ccAt l kk = ccOf x tw hp) := Lib.hid (by rw [ccAt, getD_of hx, htw, hhp])
      have hS : Hid (∀ z, ccOf x tw hp = z → z ≠ 0 → z = F) := Lib.hid (fun z h hz => by
        rw [HF.out, FF_hit hlt HA.out (by rw [hat.out, h]; exact hz), hat.out, h])
      have hC0 : Hid (ccOf x tw hp = if (!nameB x.na) = true then 5 else if tw = true then 7 else if (parB x hp) = true then 9 else if (outB x.de 1 100000 || outB x.ro 0 1000000000000) = true then 1 else 0) := Lib.hid rfl
      have HI1 := Lib.hid (cofI_has (l.take kk) x.na)
      have HI2 := Lib.hid (cofI_has (l.take kk) x.pa)
      rw [← htw] at HI1
      rw [← hhp] at HI2
      have HCO := Lib.hid (fun (W : World) (n : ByteArray) (h : Below w.heap.size w W) => cacheOf_any W (l.take kk) _ n ((HL.out.below h (Nat.le_refl _)).take rfl kk hkk))
      obtain ⟨I1, hI1⟩ : ∃ I, I = cofI (l.take kk) x.na := ⟨_, rfl⟩
      obtain ⟨I2, hI2⟩ : ∃ I, I = cofI (l.take kk) x.pa := ⟨_, rfl⟩
      rw [← hI1] at HI1
      rw [← hI2] at HI2
      have hb5 := HBW.out.alloc hszw (.cells #[.string x.na, .string x.pa, .int .i64 x.de, .int .i64 x.ro] 74)
      have hx5 : (wr.alloc (.cells #[.string x.na, .string x.pa, .int .i64 x.de, .int .i64 x.ro] 74)).heap[wr.heap.size]? = some (.cells #[.string x.na, .string x.pa, .int .i64 x.de, .int .i64 x.ro] 74 (0, 0)) := block_new wr _
      obtain ⟨w5, hw5⟩ : ∃ w5, w5 = wr.alloc (.cells #[.string x.na, .string x.pa, .int .i64 x.de, .int .i64 x.ro] 74) := ⟨_, rfl⟩
      have hs5 : w5.heap.size = wr.heap.size + 1 := by rw [hw5]; simp
      rw [← hw5] at hb5 hx5
      have HB5 := Lib.hid hb5
      have HX5 := Lib.hid hx5
      have HC1 : Hid (∀ W, Below w5.heap.size w5 W → Calls Tryd.prog 49 #[.slice (some ⟨b, off, none⟩) kk cap, .string x.na] W fun e w' => e = .returned (.int .i64 I1) ∧ Below W.heap.size W w') := Lib.hid (fun W h => by rw [hI1]; exact HCO.out W x.na (HB5.out.trans (h.mono HB5.out.size)))
      have HC2 : Hid (∀ W, Below w5.heap.size w5 W → Calls Tryd.prog 49 #[.slice (some ⟨b, off, none⟩) kk cap, .string x.pa] W fun e w' => e = .returned (.int .i64 I2) ∧ Below W.heap.size W w') := Lib.hid (fun W h => by rw [hI2]; exact HCO.out W x.pa (HB5.out.trans (h.mono HB5.out.size)))
      obtain ⟨nb, hnb⟩ : ∃ nb, nb = nameB x.na := ⟨_, rfl⟩
      rw [← hnb] at HNM hC0
      have HW5 := Lib.hid hw5
      have hkz : (kk : Int) ≤ (l.length : Int) := by omega
      have hkc : (kk : Int) ≤ (cap : Int) := by omega
      clear hx hc htw hhp hx5 HCO hb5 hw5 hnb hI1 hI2
      go_upto_region 8 with (fail)
      rw [← HW5.out]
      obtain ⟨g, hgq⟩ : ∃ g, g = wr.heap.size := ⟨_, rfl⟩
      rw [← hgq] at HX5 hs5 ⊢
      have hg5 : g < w5.heap.size := by omega
      have y0 := (cell_of_block (i := 0) HX5.out).trans rfl
      have y1 := (cell_of_block (i := 1) HX5.out).trans rfl
      have y2 := (cell_of_block (i := 2) HX5.out).trans rfl
      have y3 := (cell_of_block (i := 3) HX5.out).trans rfl
      clear c0 c1 c2 c3 hgq HW5 hs5
      cases nb
      case false =>
        have hv : Hid (5 = F) := Lib.hid (hS.out 5 (by rw [hC0.out]; rfl) (by decide))
        go_wp2_with fail
        refine (HNM.out _).mono ?_
        rintro e w6 ⟨rfl, rfl⟩
        go_wp2
        go_ret
        exact ⟨ret_int hv.out, HB5.out⟩
      go_wp2_with fail
      refine (HNM.out _).mono ?_
      rintro e w6 ⟨rfl, rfl⟩
      have hC1 : Hid (ccOf x tw hp = if tw = true then 7 else if (parB x hp) = true then 9 else if (outB x.de 1 100000 || outB x.ro 0 1000000000000) = true then 1 else 0) := Lib.hid (by rw [hC0.out]; rfl)
      clear hC0
      go_upto_region 10 with (fail)
      go_cut [23] (fun s23 w6 => s23 = .bool tw ∧ Aside (Below w5.heap.size w5 w6))
      case first =>
        cases tw
        case true =>
          have hI : (0 : Int) ≤ I1 := of_decide_eq_true HI1.out
          go_region_with (first | (go_at_call 49; refine (HC1.out _ (below_drewN (Below.refl _ w5) 1)).mono ?_; rintro e w' ⟨rfl, hb⟩))
          all_goals
            have HBQ := Lib.hid ((below_drewN (Below.refl _ w5) 1).trans hb)
            clear hb
            go_wp2_with fail
            go_meet
            exact ⟨rfl, HBQ.out⟩
        case false =>
          have hI : ¬ (0 : Int) ≤ I1 := of_decide_eq_false HI1.out
          go_region_with (first | (go_at_call 49; refine (HC1.out _ (below_drewN (Below.refl _ w5) 1)).mono ?_; rintro e w' ⟨rfl, hb⟩))
          all_goals
            have HBQ := Lib.hid ((below_drewN (Below.refl _ w5) 1).trans hb)
            clear hb
            go_wp2_with fail
            go_meet
            exact ⟨by first | rfl | (simp; omega), HBQ.out⟩
      obtain ⟨rfl, B6⟩ := hcut
      obtain ⟨w6, rfl⟩ : ∃ w6, w6 = wc := ⟨_, rfl⟩
      have hb6 := B6.out
      have HB6 := Lib.hid (HB5.out.trans (hb6.mono HB5.out.size))
      have z1 := (hb6.cell (p := ⟨g, 1, none⟩) hg5).trans y1
      have z2 := (hb6.cell (p := ⟨g, 2, none⟩) hg5).trans y2
      have z3 := (hb6.cell (p := ⟨g, 3, none⟩) hg5).trans y3
      have HC26 := Lib.hid (fun W (h : Below w6.heap.size w6 W) => HC2.out W (hb6.trans (h.mono hb6.size)))
      have hg6 : g < w6.heap.size := Nat.lt_of_lt_of_le hg5 hb6.size
      clear hb6 y0 y1 y2 y3 HC1 HC2 HX5 B6 HI1
      cases tw
      case true =>
        have hv : Hid (7 = F) := Lib.hid (hS.out 7 (by rw [hC1.out]; rfl) (by decide))
        go_wp2_with fail
        go_ret
        exact ⟨ret_int hv.out, HB6.out⟩
      have hC2 : Hid (ccOf x false hp = if (parB x hp) = true then 9 else if (outB x.de 1 100000 || outB x.ro 0 1000000000000) = true then 1 else 0) := Lib.hid (by rw [hC1.out]; rfl)
      clear hC1
      obtain ⟨PB, hPB⟩ : ∃ PB, PB = parB x hp := ⟨_, rfl⟩
      rw [← hPB] at hC2
      have HPB := Lib.hid hPB
      clear hPB
      go_upto_region 12 with (fail)
      go_cut [31] (fun s31 w7 => s31 = .bool PB ∧ Aside (Below w6.heap.size w6 w7))
      case first =>
        by_cases hpe : x.pa = ⟨#[]⟩
        · have hv : Hid (PB = false) := Lib.hid (by rw [HPB.out]; simp [parB, hpe])
          rw [hpe] at z1
          clear hpe
          have hund : undef = Value.tuple #[] := rfl
          go_quiet (fail)
          clear hund
          go_wp2_with fail
          go_meet
          exact ⟨by rw [hv.out], below_drewN (Below.refl _ _) _⟩
        · have hv : Hid (PB = !hp) := Lib.hid (by rw [HPB.out]; simp [parB, hpe])
          obtain ⟨f1, f2, f3⟩ := str_emp hpe
          clear hpe
          cases hp
          case true =>
            have hI : (0 : Int) ≤ I2 := of_decide_eq_true HI2.out
            have hI3 : ¬ I2 < 0 := by omega
            go_region_with (first | (go_at_call 49; refine (HC26.out _ (below_drewN (Below.refl _ w6) 1)).mono ?_; rintro e w' ⟨rfl, hb⟩))
            all_goals
              have HBQ := Lib.hid ((below_drewN (Below.refl _ w6) 1).trans hb)
              clear hb
              go_wp2_with fail
              go_meet
              exact ⟨by rw [hv.out]; first | rfl | (simp; omega), HBQ.out⟩
          case false =>
            have hI : ¬ (0 : Int) ≤ I2 := of_decide_eq_false HI2.out
            have hI3 : I2 < 0 := by omega
            go_region_with (first | (go_at_call 49; refine (HC26.out _ (below_drewN (Below.refl _ w6) 1)).mono ?_; rintro e w' ⟨rfl, hb⟩))
            all_goals
              have HBQ := Lib.hid ((below_drewN (Below.refl _ w6) 1).trans hb)
              clear hb
              go_wp2_with fail
              go_meet
              exact ⟨by rw [hv.out]; first | rfl | (simp; omega), HBQ.out⟩
      obtain ⟨rfl, B7⟩ := hcut
      obtain ⟨w7, rfl⟩ : ∃ w7, w7 = wc := ⟨_, rfl⟩
      have HB7 := Lib.hid (HB6.out.trans (B7.out.mono HB6.out.size))
      have u2 := (B7.out.cell (p := ⟨g, 2, none⟩) hg6).trans z2
      have u3 := (B7.out.cell (p := ⟨g, 3, none⟩) hg6).trans z3
      clear B7 z1 z2 z3 HC26 HPB
      cases PB
      case true =>
        have hv : Hid (9 = F) := Lib.hid (hS.out 9 (by rw [hC2.out]; rfl) (by decide))
        go_wp2_with fail
        go_ret
        exact ⟨ret_int hv.out, HB7.out⟩
      have hC3 : Hid (ccOf x false hp = if (outB x.de 1 100000 || outB x.ro 0 1000000000000) = true then 1 else 0) := Lib.hid (by rw [hC2.out]; rfl)
      clear hC2
      go_upto_region 14 with (fail)
      go_cut [44] (fun s44 w8 => s44 = .bool (outB x.de 1 100000 || outB x.ro 0 1000000000000) ∧ w7 = w8)
      case first =>
        cases o0 : outB x.de 1 100000
        case true =>
          go_wp2_with (go_at_call 41; refine (withinE_any _ _ _ _).mono ?_; rintro e w' ⟨rfl, rfl⟩)
          go_meet
          exact ⟨by simp [*], rfl⟩
        case false =>
          go_wp2_with (go_at_call 41; refine (withinE_any _ _ _ _).mono ?_; rintro e w' ⟨rfl, rfl⟩)
          go_meet
          exact ⟨by simp [*], rfl⟩
      obtain ⟨rfl, rfl⟩ := hcut
      generalize hO : (outB x.de 1 100000 || outB x.ro 0 1000000000000) = O at hC3 ⊢
      clear hO u2 u3
      cases O
      case true =>
        have hv : Hid (1 = F) := Lib.hid (hS.out 1 (by rw [hC3.out]; rfl) (by decide))
        go_wp2_with fail
        go_ret
        exact ⟨ret_int hv.out, HB7.out⟩
      have hz : Hid (ccAt l kk = 0) := Lib.hid (by rw [hat.out, hC3.out]; rfl)
      go_wp2_with fail
      go_roundg (l.length - (kk + 1))
      case measure => omega
      case rel =>
        refine ⟨kk + 1, by omega, by omega, by go_num, HB7.out, (show Aside _ from fun j hj => ?_)⟩
        by_cases e : j = kk
        · rw [e, hz.out]
        · exact HA.out j (by omega)
    · obtain rfl : kk = l.length := by omega
      have hltz : ¬ (l.length : Int) < (l.length : Int) := by omega
      have hz : Hid (0 = F) := Lib.hid (by rw [HF.out, FF_zero HA.out])
      go_wp2_with fail
      go_ret
      exact ⟨ret_int hz.out, HBW.out⟩
end Go.Proofs.YtmgbmoiefgfemaaDoor

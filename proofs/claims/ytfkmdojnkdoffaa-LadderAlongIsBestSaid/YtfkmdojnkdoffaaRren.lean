/- CheckRenditions of the reference. -/
import Derived.Test.YtfkmdojnkdoffaaRen
import Derived.Test.YtfkmdojnkdoffaaOut5
namespace Go.Proofs.Ytfkmdojnkdoffaa
open Go.RowKit

set_option maxRecDepth 100000 in
set_option maxHeartbeats 4000000 in
theorem checkRenR_any (w : World) (l : List Rng) (v : Value) (hl : Sl w 4 encR v l) (hw : ∀ x, x ∈ l → WfR x) :
    Calls Try.prog 43 #[v] w fun e w' => e = .returned (.int .i64 (checkR l)) ∧ Below w.heap.size w w' := by
  have hl0 := Lib.hid hl
  obtain ⟨ao, cap, rfl, hcap, hmax, hnil, hel⟩ := hl
  unfold maxLen at hmax
  by_cases hbig : 100 < l.length
  · have hv : Hid (2 = checkR l) := Lib.hid (by simp [checkR, hbig])
    clear hel hl0
    go_enter Try.func43, Try.ntmps43
    go_wp2
    go_ret
    exact ⟨ret_int hv.out, Below.refl _ _⟩
  have HF : Hid (checkR l = FF (crAt l) l.length) := Lib.hid (by simp [checkR, hbig])
  generalize checkR l = F at HF ⊢
  have HW := Lib.hid hw
  have HEL := Lib.hid hel
  clear hw hel
  go_enter Try.func43, Try.ntmps43
  go_wp2
  go_loopg [3, 4, 6, 12] l.length (fun gg _ _ _ s12 wr => ∃ kk : Nat, kk ≤ l.length ∧ l.length - kk ≤ gg ∧ s12 = .int .i64 kk ∧ Aside (Below w.heap.size w wr) ∧ Aside (∀ j, j < kk → crAt l j = 0))
  case atStart => exact ⟨0, Nat.zero_le _, by omega, rfl, Below.refl _ w, fun j hj => absurd hj (Nat.not_lt_zero _)⟩
  case round =>
    obtain ⟨kk, hkk, hg, rfl, BW, A⟩ := hrel
    by_cases hlt : kk < l.length
    · have hltz : (kk : Int) < (l.length : Int) := by omega
      obtain ⟨x, hx⟩ : ∃ x, l[kk]? = some x := ⟨l[kk], by simp [hlt]⟩
      obtain ⟨p, hp⟩ : ∃ x, l[kk - 1]? = some x := ⟨l[kk - 1]'(by omega), by simp⟩
      obtain ⟨b, off, hao, hc⟩ := HEL.out kk x hx
      subst hao
      obtain ⟨b', off', hao', hc'⟩ := HEL.out (kk - 1) p hp
      simp only [Option.some.injEq, Addr.mk.injEq, and_true] at hao'
      obtain ⟨rfl, rfl⟩ := hao'
      have hlt0 := World.block_lt_of_cell? w ⟨b, off + kk * 4 + 0, none⟩ (hc 0 _ rfl)
      have c0 : wr.cell? ⟨b, off + kk * 4, none⟩ = some (.string x.na) := (BW.out.cell (p := ⟨b, off + kk * 4 + 0, none⟩) hlt0).trans (hc 0 _ rfl)
      have c1 := (BW.out.cell (p := ⟨b, off + kk * 4 + 1, none⟩) hlt0).trans (hc 1 _ rfl)
      have c2 := (BW.out.cell (p := ⟨b, off + kk * 4 + 2, none⟩) hlt0).trans (hc 2 _ rfl)
      have c3 := (BW.out.cell (p := ⟨b, off + kk * 4 + 3, none⟩) hlt0).trans (hc 3 _ rfl)
      have p0 : wr.cell? ⟨b, off + (kk - 1) * 4, none⟩ = some (.string p.na) := (BW.out.cell (p := ⟨b, off + (kk - 1) * 4 + 0, none⟩) hlt0).trans (hc' 0 _ rfl)
      have p1 : wr.cell? ⟨b, off + (kk - 1) * 4 + 1, none⟩ = some (.int .i64 p.ra) := (BW.out.cell (p := ⟨b, off + (kk - 1) * 4 + 1, none⟩) hlt0).trans (hc' 1 _ rfl)
      have hbw : b < wr.heap.size := Nat.lt_of_lt_of_le hlt0 BW.out.size
      have hsz : x.na.size ≤ 9223372036854775807 := HW.out x (List.mem_of_getElem? hx)
      have hin := isName5_any x.na
      have hszw := BW.out.size
      have hsl := (hl0.out.take rfl kk hkk).below BW.out (Nat.le_refl _)
      obtain ⟨tw, htw⟩ : ∃ tw, tw = (l.take kk).any fun o => sameN o x := ⟨_, rfl⟩
      have hat : Hid (crAt l kk = crOf x p kk tw) := Lib.hid (by rw [crAt, getD_of hx, getD_of hp, htw])
      have hS : Hid (∀ z, crOf x p kk tw = z → z ≠ 0 → z = F) := Lib.hid (fun z h hz => by
        rw [HF.out, FF_hit hlt A.out (by rw [hat.out, h]; exact hz), hat.out, h])
      have hC : Hid (crOf x p kk tw = if nameB x.na = false then 5 else if (outB x.ra 1 1000000000 || outB x.he 1 10000 || outB x.qu 0 1000000) = true then 1 else if ordR x p kk = true then 8 else if tw = true then 7 else 0) := Lib.hid rfl
      have HTW := Lib.hid htw
      have HX := Lib.hid hx
      clear hx hp hc hc' hsl htw
      cases e1 : nameB x.na
      case false =>
        have hv : Hid (5 = F) := Lib.hid (hS.out 5 (by rw [hC.out, if_pos e1]) (by decide))
        go_wp2_with (go_at_call 56; refine (hin _ hsz).mono ?_; rintro e w' ⟨rfl, rfl⟩)
        go_ret
        exact ⟨ret_int hv.out, BW.out.alloc hszw _⟩
      have hC2 : Hid (crOf x p kk tw = if (outB x.ra 1 1000000000 || outB x.he 1 10000 || outB x.qu 0 1000000) = true then 1 else if ordR x p kk = true then 8 else if tw = true then 7 else 0) := Lib.hid (by rw [hC.out, e1]; rfl)
      clear hC
      go_upto_region 8 with (go_at_call 56; refine (hin _ hsz).mono ?_; rintro e w' ⟨rfl, rfl⟩)
      go_cut [36] (fun s36 w4 => s36 = .bool (outB x.ra 1 1000000000 || outB x.he 1 10000 || outB x.qu 0 1000000) ∧ w4 = wr.alloc (.cells #[.string x.na, .int .i64 x.ra, .int .i64 x.he, .int .i64 x.qu] 45))
      case first =>
        cases o1 : outB x.ra 1 1000000000
        case true =>
          go_wp2_with (go_at_call 25; refine (within5_any _ _ _ _).mono ?_; rintro e w' ⟨rfl, rfl⟩)
          go_meet
          exact ⟨by simp [*], rfl⟩
        cases o2 : outB x.he 1 10000
        case true =>
          go_wp2_with (go_at_call 25; refine (within5_any _ _ _ _).mono ?_; rintro e w' ⟨rfl, rfl⟩)
          go_meet
          exact ⟨by simp [*], rfl⟩
        case false =>
          go_wp2_with (go_at_call 25; refine (within5_any _ _ _ _).mono ?_; rintro e w' ⟨rfl, rfl⟩)
          go_meet
          exact ⟨by simp [*], rfl⟩
      obtain ⟨rfl, rfl⟩ := hcut
      generalize hO : (outB x.ra 1 1000000000 || outB x.he 1 10000 || outB x.qu 0 1000000) = O at hC2
      clear hO
      cases O
      case true =>
        have hv : Hid (1 = F) := Lib.hid (hS.out 1 (by rw [hC2.out]; rfl) (by decide))
        go_wp2
        go_ret
        exact ⟨ret_int hv.out, BW.out.alloc hszw _⟩
      have hC3 : Hid (crOf x p kk tw = if ordR x p kk = true then 8 else if tw = true then 7 else 0) := Lib.hid (by rw [hC2.out]; rfl)
      clear hC2
      have hor : Hid (ordR x p kk = (decide (0 < kk) && (decide (x.ra < p.ra) || (x.ra == p.ra && (Op.bytesLess x.na.toList p.na.toList || x.na.toList == p.na.toList))))) := Lib.hid rfl
      go_upto_region 10 with (fail)
      go_cut [71] (fun s71 w4 => s71 = .bool (ordR x p kk) ∧ ∃ n, w4 = (wr.alloc (.cells #[.string x.na, .int .i64 x.ra, .int .i64 x.he, .int .i64 x.qu] 45)).drewN n)
      case first =>
        by_cases hk0 : kk = 0
        · have hz : decide ((0 : Int) < (kk : Int)) = false := decide_eq_false (by omega)
          have hz' : ¬ (0 : Int) < (kk : Int) := by omega
          have hz2 : decide (0 < kk) = false := decide_eq_false (by omega)
          have hv : Hid (ordR x p kk = false) := Lib.hid (by rw [hor.out, hz2]; rfl)
          clear hk0
          go_quiet (fail)
          go_wp2
          go_meet
          exact ⟨by rw [hv.out], _, rfl⟩
        · have hz : decide ((0 : Int) < (kk : Int)) = true := decide_eq_true (by omega)
          have hz2 : decide (0 < kk) = true := decide_eq_true (by omega)
          have ez2 : ((kk : Int) - 1).toNat = kk - 1 := by omega
          have hm1 : (kk : Int) - 1 < (l.length : Int) := by omega
          have hm2 : (0 : Int) ≤ (kk : Int) - 1 := by omega
          have hm3 : (1 : Int) ≤ (kk : Int) := by omega
          have hm4 : 0 < kk := by omega
          have hwk : IntKind.i64.wrap ((kk : Int) - 1) = (kk : Int) - 1 := IntWalk.i64_in _ (by omega)
          clear hk0
          by_cases hr : x.ra < p.ra
          · have hr' : decide (x.ra < p.ra) = true := decide_eq_true hr
            have hv : Hid (ordR x p kk = true) := Lib.hid (by rw [hor.out, hz2, hr']; rfl)
            go_quiet (fail)
            go_wp2
            go_meet
            exact ⟨by rw [hv.out], _, rfl⟩
          · have hr' : decide (x.ra < p.ra) = false := decide_eq_false hr
            cases hq : (x.ra == p.ra)
            · have hv : Hid (ordR x p kk = false) := Lib.hid (by rw [hor.out, hz2, hr', hq]; rfl)
              go_quiet (fail)
              go_wp2
              go_meet
              exact ⟨by rw [hv.out], _, rfl⟩
            · have hv : Hid (ordR x p kk = (Op.bytesLess x.na.toList p.na.toList || x.na.toList == p.na.toList)) := Lib.hid (by rw [hor.out, hz2, hr', hq]; rfl)
              go_quiet (fail)
              go_wp2
              go_meet
              exact ⟨by rw [hv.out], _, rfl⟩
      obtain ⟨rfl, nq, rfl⟩ := hcut
      have HBX := Lib.hid (below_drewN (BW.out.alloc hszw (.cells #[.string x.na, .int .i64 x.ra, .int .i64 x.he, .int .i64 x.qu] 45)) nq)
      generalize hOR : ordR x p kk = O2 at hC3 hor
      clear hOR hor
      cases O2
      case true =>
        have hv : Hid (8 = F) := Lib.hid (hS.out 8 (by rw [hC3.out]; rfl) (by decide))
        go_wp2
        go_ret
        exact ⟨ret_int hv.out, HBX.out⟩
      obtain ⟨W0, hW0⟩ : ∃ W0, W0 = (wr.alloc (.cells #[.string x.na, .int .i64 x.ra, .int .i64 x.he, .int .i64 x.qu] 45)).drewN nq := ⟨_, rfl⟩
      have hx0 : W0.cell? ⟨wr.heap.size, 0, none⟩ = some (.string x.na) := by rw [hW0]; simp [go_sem]
      have hzW : W0.heap.size = wr.heap.size + 1 := by rw [hW0]; simp
      have HX0 := Lib.hid hx0
      have HZW := Lib.hid hzW
      rw [← hW0] at HBX ⊢
      have hkc : (kk : Int) ≤ (cap : Int) := by omega
      clear hW0 hx0 hzW c0 c1 c2 c3 p0 p1
      obtain ⟨wo, rfl⟩ : ∃ wo : World, wo = wr := ⟨_, rfl⟩
      go_wp2
      go_loopg [6, 76] kk (fun gg _ s76 wr => ∃ m : Nat, m ≤ kk ∧ kk - m ≤ gg ∧ s76 = .int .i64 m ∧ Aside (Below W0.heap.size W0 wr) ∧ Aside (∀ j y, l[j]? = some y → j < m → sameN y x = false))
      case atStart => exact ⟨0, by omega, by omega, rfl, Below.refl _ _, fun j y _ hj => absurd hj (Nat.not_lt_zero _)⟩
      obtain ⟨m, hm, hgm, rfl, BI, NI⟩ := hrel
      by_cases hmk : m < kk
      · have hmz : (m : Int) < (kk : Int) := by omega
        obtain ⟨y, hy⟩ : ∃ z, l[m]? = some z := ⟨l[m]'(by omega), by simp⟩
        obtain ⟨b', off', hao', hc'⟩ := HEL.out m y hy
        simp only [Option.some.injEq, Addr.mk.injEq, and_true] at hao'
        obtain ⟨rfl, rfl⟩ := hao'
        have hBI := HBX.out.trans (BI.out.mono (by have := HBX.out.size; omega))
        have c0 : wr.cell? ⟨b, off + m * 4, none⟩ = some (.string y.na) := (hBI.cell (p := ⟨b, off + m * 4 + 0, none⟩) hlt0).trans (hc' 0 _ rfl)
        have c1 := (hBI.cell (p := ⟨b, off + m * 4 + 1, none⟩) hlt0).trans (hc' 1 _ rfl)
        have c2 := (hBI.cell (p := ⟨b, off + m * 4 + 2, none⟩) hlt0).trans (hc' 2 _ rfl)
        have c3 := (hBI.cell (p := ⟨b, off + m * 4 + 3, none⟩) hlt0).trans (hc' 3 _ rfl)
        have x0 : wr.cell? ⟨wo.heap.size, 0, none⟩ = some (.string x.na) := (BI.out.cell (p := ⟨wo.heap.size, 0, none⟩) (by show wo.heap.size < W0.heap.size; have := HZW.out; omega)).trans HX0.out
        have hszi := BI.out.size
        have hwl : wo.heap.size < wr.heap.size := by have := HZW.out; omega
        have hbl : b < wr.heap.size := by omega
        have HY := Lib.hid hy
        have hsy : Hid (sameN y x = (x.na.toList == y.na.toList)) := Lib.hid (by unfold sameN; exact Bool.beq_comm)
        have HBI := Lib.hid hBI
        clear hy hc' hBI
        cases e5 : (x.na.toList == y.na.toList)
        case true =>
          have htt : tw = true := by
            rw [HTW.out]
            exact List.any_eq_true.2 ⟨y, List.mem_of_getElem? (by rw [List.getElem?_take, if_pos hmk]; exact HY.out), by rw [hsy.out, e5]⟩
          have hv : Hid (7 = F) := Lib.hid (hS.out 7 (by rw [hC3.out, htt]; rfl) (by decide))
          clear htt
          go_wp2
          go_ret
          exact ⟨ret_int hv.out, HBI.out.alloc (by have := HBX.out.size; omega) _⟩
        case false =>
          go_wp2
          go_roundg (kk - (m + 1))
          case measure => omega
          case rel =>
            refine ⟨m + 1, by omega, by omega, by go_num, BI.out.alloc hszi _, (show Aside (∀ j y, l[j]? = some y → j < m + 1 → sameN y x = false) from fun j z hz hj => ?_)⟩
            by_cases e : j = m
            · subst e
              have := HY.out.symm.trans hz
              simp only [Option.some.injEq] at this
              subst this
              rw [hsy.out, e5]
            · exact NI.out j z hz (by omega)
      · have hmz : ¬ (m : Int) < (kk : Int) := by omega
        have hft : Hid (tw = false) := Lib.hid (by
          rw [HTW.out, List.any_eq_false]
          intro y hy
          obtain ⟨j, hj, rfl⟩ := List.mem_iff_getElem.1 hy
          rw [List.length_take] at hj
          rw [NI.out j _ (by rw [List.getElem_take]; exact List.getElem?_eq_getElem (by omega)) (by omega)]
          simp)
        have hz : Hid (crAt l kk = 0) := Lib.hid (by rw [hat.out, hC3.out, hft.out]; rfl)
        have HBI := Lib.hid (HBX.out.trans (BI.out.mono (by have := HBX.out.size; omega)))
        go_wp2
        go_roundg (l.length - (kk + 1))
        case measure => omega
        case rel =>
          refine ⟨kk + 1, by omega, by omega, by go_num, HBI.out, (show Aside _ from fun j hj => ?_)⟩
          by_cases e : j = kk
          · rw [e, hz.out]
          · exact A.out j (by omega)
    · obtain rfl : kk = l.length := by omega
      have hz : Hid (0 = F) := Lib.hid (by rw [HF.out, FF_zero A.out])
      go_wp2
      go_ret
      exact ⟨ret_int hz.out, BW.out⟩
end Go.Proofs.Ytfkmdojnkdoffaa

/- CheckRenditions of the program. -/
import Derived.Test.YtfkmdojnkdoffaaIdxR
namespace Go.Proofs.Ytfkmdojnkdoffaa
open Go.RowKit

theorem sameName (x y : Rng) (B : Nat) (W : World) (hc : W.cell? ⟨B, 0, none⟩ = some (.string x.na)) :
    Calls Try.prog 40 #[.agg #[.string y.na, .int .i64 y.ra, .int .i64 y.he, .int .i64 y.qu], .pointer (some ⟨B, 0, none⟩)] W fun e w' => e = .returned (.bool (sameN y x)) ∧ Below W.heap.size W w' := by
  have hlt := World.block_lt_of_cell? W _ hc
  go_enter Try.func40, Try.ntmps40
  go_wp2
  go_ret
  exact ⟨rfl, (Below.refl _ _).alloc (Nat.le_refl _) _⟩

set_option maxRecDepth 100000 in
set_option maxHeartbeats 4000000 in
theorem checkRen_any (w : World) (l : List Rng) (v : Value) (hl : Sl w 4 encR v l) (hw : ∀ x, x ∈ l → WfR x) :
    Calls Try.prog 18 #[v] w fun e w' => e = .returned (.int .i64 (checkR l)) ∧ Below w.heap.size w w' := by
  have hl0 := Lib.hid hl
  obtain ⟨ao, cap, rfl, hcap, hmax, hnil, hel⟩ := hl
  unfold maxLen at hmax
  by_cases hbig : 100 < l.length
  · have hv : Hid (2 = checkR l) := Lib.hid (by simp [checkR, hbig])
    clear hel hl0
    go_enter Try.func18, Try.ntmps18
    go_wp2
    go_ret
    exact ⟨ret_int hv.out, Below.refl _ _⟩
  have HF : Hid (checkR l = FF (crAt l) l.length) := Lib.hid (by simp [checkR, hbig])
  generalize checkR l = F at HF ⊢
  have HW := Lib.hid hw
  have HEL := Lib.hid hel
  clear hw hel
  go_enter Try.func18, Try.ntmps18
  go_wp2
  go_loopg [3, 10] l.length (fun gg _ s10 wr => ∃ kk : Nat, kk ≤ l.length ∧ l.length - kk ≤ gg ∧ s10 = .int .i64 kk ∧ Aside (Below w.heap.size w wr) ∧ Aside (∀ j, j < kk → crAt l j = 0))
  case atStart => exact ⟨0, Nat.zero_le _, by omega, rfl, Below.refl _ w, fun j hj => absurd hj (Nat.not_lt_zero _)⟩
  case round =>
    obtain ⟨kk, hkk, hg, rfl, BW, A⟩ := hrel
    by_cases hlt : kk < l.length
    · have hltz : (kk : Int) < (l.length : Int) := by omega
      obtain ⟨x, hx⟩ : ∃ x, l[kk]? = some x := ⟨l[kk], by simp [hlt]⟩
      obtain ⟨p, hp⟩ : ∃ x, l[kk - 1]? = some x := ⟨l[kk - 1]'(by omega), by simp⟩
      obtain ⟨b, off, hao, hc⟩ := HEL.out kk x hx
      subst hao
      obtain ⟨b', off', hao', hc'⟩ := HEL.out (kk - 1) p hp
      simp only [Option.some.injEq, Addr.mk.injEq, and_true] at hao'
      obtain ⟨rfl, rfl⟩ := hao'
      have hlt0 := World.block_lt_of_cell? w ⟨b, off + kk * 4 + 0, none⟩ (hc 0 _ rfl)
      have c0 : wr.cell? ⟨b, off + kk * 4, none⟩ = some (.string x.na) := (BW.out.cell (p := ⟨b, off + kk * 4 + 0, none⟩) hlt0).trans (hc 0 _ rfl)
      have c1 := (BW.out.cell (p := ⟨b, off + kk * 4 + 1, none⟩) hlt0).trans (hc 1 _ rfl)
      have c2 := (BW.out.cell (p := ⟨b, off + kk * 4 + 2, none⟩) hlt0).trans (hc 2 _ rfl)
      have c3 := (BW.out.cell (p := ⟨b, off + kk * 4 + 3, none⟩) hlt0).trans (hc 3 _ rfl)
      have p0 : wr.cell? ⟨b, off + (kk - 1) * 4, none⟩ = some (.string p.na) := (BW.out.cell (p := ⟨b, off + (kk - 1) * 4 + 0, none⟩) hlt0).trans (hc' 0 _ rfl)
      have p1 : wr.cell? ⟨b, off + (kk - 1) * 4 + 1, none⟩ = some (.int .i64 p.ra) := (BW.out.cell (p := ⟨b, off + (kk - 1) * 4 + 1, none⟩) hlt0).trans (hc' 1 _ rfl)
      have hbw : b < wr.heap.size := Nat.lt_of_lt_of_le hlt0 BW.out.size
      have hsz : x.na.size ≤ 9223372036854775807 := HW.out x (List.mem_of_getElem? hx)
      have hin := isName_any x.na
      have hszw := BW.out.size
      have hsl := (hl0.out.take rfl kk hkk).below BW.out (Nat.le_refl _)
      obtain ⟨tw, htw⟩ : ∃ tw, tw = (l.take kk).any fun o => sameN o x := ⟨_, rfl⟩
      have hat : Hid (crAt l kk = crOf x p kk tw) := Lib.hid (by rw [crAt, getD_of hx, getD_of hp, htw])
      have hS : Hid (∀ z, crOf x p kk tw = z → z ≠ 0 → z = F) := Lib.hid (fun z h hz => by
        rw [HF.out, FF_hit hlt A.out (by rw [hat.out, h]; exact hz), hat.out, h])
      have hC : Hid (crOf x p kk tw = if nameB x.na = false then 5 else if (outB x.ra 1 1000000000 || outB x.he 1 10000 || outB x.qu 0 1000000) = true then 1 else if ordR x p kk = true then 8 else if tw = true then 7 else 0) := Lib.hid rfl
      have hany : ∀ W, Below (wr.heap.size + 1) (wr.alloc (.cells #[.string x.na, .int .i64 x.ra, .int .i64 x.he, .int .i64 x.qu] 45)) W → Calls Try.prog 39 #[.slice (some ⟨b, off, none⟩) kk cap, .func (.func 40) #[] #[.pointer (some ⟨wr.heap.size, 0, none⟩)]] W fun e w' => e = .returned (.bool tw) ∧ Below W.heap.size W w' := by
        intro W hW
        have hsz : wr.heap.size + 1 ≤ W.heap.size := by have := hW.size; simpa using this
        rw [htw]
        refine anyR 40 _ (fun o => sameN o x) W (l.take kk) _ (hsl.below (B := wr.heap.size) (((Below.refl _ _).alloc (Nat.le_refl _) _).trans (hW.mono (by omega))) (Nat.le_refl _)) (enters_of Try.func40 (by kernel_rfl) rfl) (fun W' y _ hb => ?_)
        refine sameName x y wr.heap.size W' ?_
        rw [hb.cell (p := ⟨wr.heap.size, 0, none⟩) (by show wr.heap.size < _; omega), hW.cell (p := ⟨wr.heap.size, 0, none⟩) (by show wr.heap.size < _; omega)]
        simp [go_sem]
      have HANY := Lib.hid hany
      clear hx hp hc hc' hsl htw hany
      cases e1 : nameB x.na
      case false =>
        have hv : Hid (5 = F) := Lib.hid (hS.out 5 (by rw [hC.out, if_pos e1]) (by decide))
        go_wp2_with (go_at_call 38; refine (hin _ hsz).mono ?_; rintro e w' ⟨rfl, rfl⟩)
        go_ret
        exact ⟨ret_int hv.out, BW.out.alloc hszw _⟩
      have hC2 : Hid (crOf x p kk tw = if (outB x.ra 1 1000000000 || outB x.he 1 10000 || outB x.qu 0 1000000) = true then 1 else if ordR x p kk = true then 8 else if tw = true then 7 else 0) := Lib.hid (by rw [hC.out, e1]; rfl)
      clear hC
      go_upto_region 8 with (go_at_call 38; refine (hin _ hsz).mono ?_; rintro e w' ⟨rfl, rfl⟩)
      go_cut [20] (fun s20 w4 => s20 = .bool (outB x.ra 1 1000000000 || outB x.he 1 10000 || outB x.qu 0 1000000) ∧ w4 = wr.alloc (.cells #[.string x.na, .int .i64 x.ra, .int .i64 x.he, .int .i64 x.qu] 45))
      case first =>
        cases o1 : outB x.ra 1 1000000000
        case true =>
          go_wp2_with (go_at_call 20; refine (out_any _ _ _ _).mono ?_; rintro e w' ⟨rfl, rfl⟩)
          go_meet
          exact ⟨by simp [*], rfl⟩
        cases o2 : outB x.he 1 10000
        case true =>
          go_wp2_with (go_at_call 20; refine (out_any _ _ _ _).mono ?_; rintro e w' ⟨rfl, rfl⟩)
          go_meet
          exact ⟨by simp [*], rfl⟩
        case false =>
          go_wp2_with (go_at_call 20; refine (out_any _ _ _ _).mono ?_; rintro e w' ⟨rfl, rfl⟩)
          go_meet
          exact ⟨by simp [*], rfl⟩
      obtain ⟨rfl, rfl⟩ := hcut
      generalize hO : (outB x.ra 1 1000000000 || outB x.he 1 10000 || outB x.qu 0 1000000) = O at hC2
      clear hO
      cases O
      case true =>
        have hv : Hid (1 = F) := Lib.hid (hS.out 1 (by rw [hC2.out]; rfl) (by decide))
        go_wp2
        go_ret
        exact ⟨ret_int hv.out, BW.out.alloc hszw _⟩
      have hC3 : Hid (crOf x p kk tw = if ordR x p kk = true then 8 else if tw = true then 7 else 0) := Lib.hid (by rw [hC2.out]; rfl)
      clear hC2
      have hor : Hid (ordR x p kk = (decide (0 < kk) && (decide (x.ra < p.ra) || (x.ra == p.ra && (Op.bytesLess x.na.toList p.na.toList || x.na.toList == p.na.toList))))) := Lib.hid rfl
      go_upto_region 10 with (fail)
      go_cut [34] (fun s34 w4 => s34 = .bool (ordR x p kk) ∧ ∃ n, w4 = (wr.alloc (.cells #[.string x.na, .int .i64 x.ra, .int .i64 x.he, .int .i64 x.qu] 45)).drewN n)
      case first =>
        by_cases hk0 : kk = 0
        · have hz : decide ((0 : Int) < (kk : Int)) = false := decide_eq_false (by omega)
          have hz' : ¬ (0 : Int) < (kk : Int) := by omega
          have hz2 : decide (0 < kk) = false := decide_eq_false (by omega)
          have hv : Hid (ordR x p kk = false) := Lib.hid (by rw [hor.out, hz2]; rfl)
          clear hk0
          go_quiet (fail)
          go_wp2
          go_meet
          exact ⟨by rw [hv.out], _, rfl⟩
        · have hz : decide ((0 : Int) < (kk : Int)) = true := decide_eq_true (by omega)
          have hz2 : decide (0 < kk) = true := decide_eq_true (by omega)
          have ez2 : ((kk : Int) - 1).toNat = kk - 1 := by omega
          have hm1 : (kk : Int) - 1 < (l.length : Int) := by omega
          have hm2 : (0 : Int) ≤ (kk : Int) - 1 := by omega
          have hm3 : (1 : Int) ≤ (kk : Int) := by omega
          have hm4 : 0 < kk := by omega
          have hwk : IntKind.i64.wrap ((kk : Int) - 1) = (kk : Int) - 1 := IntWalk.i64_in _ (by omega)
          clear hk0
          by_cases hr : x.ra < p.ra
          · have hr' : decide (x.ra < p.ra) = true := decide_eq_true hr
            have hv : Hid (ordR x p kk = true) := Lib.hid (by rw [hor.out, hz2, hr']; rfl)
            go_quiet (fail)
            go_wp2
            go_meet
            exact ⟨by rw [hv.out], _, rfl⟩
          · have hr' : decide (x.ra < p.ra) = false := decide_eq_false hr
            cases hq : (x.ra == p.ra)
            · have hv : Hid (ordR x p kk = false) := Lib.hid (by rw [hor.out, hz2, hr', hq]; rfl)
              go_quiet (fail)
              go_wp2
              go_meet
              exact ⟨by rw [hv.out], _, rfl⟩
            · have hv : Hid (ordR x p kk = (Op.bytesLess x.na.toList p.na.toList || x.na.toList == p.na.toList)) := Lib.hid (by rw [hor.out, hz2, hr', hq]; rfl)
              go_quiet (fail)
              go_wp2
              go_meet
              exact ⟨by rw [hv.out], _, rfl⟩
      obtain ⟨rfl, nq, rfl⟩ := hcut
      have HBX := Lib.hid (below_drewN (BW.out.alloc hszw (.cells #[.string x.na, .int .i64 x.ra, .int .i64 x.he, .int .i64 x.qu] 45)) nq)
      generalize hOR : ordR x p kk = O2 at hC3 hor
      clear hOR hor
      cases O2
      case true =>
        have hv : Hid (8 = F) := Lib.hid (hS.out 8 (by rw [hC3.out]; rfl) (by decide))
        go_wp2
        go_ret
        exact ⟨ret_int hv.out, HBX.out⟩
      have hany := HANY.out _ (below_drewN (Below.refl _ _) nq)
      cases tw
      case true =>
        have hv : Hid (7 = F) := Lib.hid (hS.out 7 (by rw [hC3.out]; rfl) (by decide))
        go_wp2_with (go_at_call 39; refine hany.mono ?_; rintro e w' ⟨rfl, hb'⟩)
        go_ret
        exact ⟨ret_int hv.out, HBX.out.thru hb'⟩
      case false =>
        have hz : Hid (crAt l kk = 0) := Lib.hid (by rw [hat.out, hC3.out]; rfl)
        go_wp2_with (go_at_call 39; refine hany.mono ?_; rintro e w' ⟨rfl, hb'⟩)
        go_roundg (l.length - (kk + 1))
        case measure => omega
        case rel =>
          refine ⟨kk + 1, by omega, by omega, by go_num, HBX.out.thru hb', (show Aside _ from fun j hj => ?_)⟩
          by_cases e : j = kk
          · rw [e, hz.out]
          · exact A.out j (by omega)
    · obtain rfl : kk = l.length := by omega
      have hz : Hid (0 = F) := Lib.hid (by rw [HF.out, FF_zero A.out])
      go_wp2
      go_ret
      exact ⟨ret_int hz.out, BW.out⟩
end Go.Proofs.Ytfkmdojnkdoffaa

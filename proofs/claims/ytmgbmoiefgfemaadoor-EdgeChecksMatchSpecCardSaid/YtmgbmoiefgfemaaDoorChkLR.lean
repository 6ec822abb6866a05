/- CheckReleases of the reference. -/
import Derived.Test.YtmgbmoiefgfemaaDoorEdD
import Derived.Test.YtmgbmoiefgfemaaDoorReq
import Derived.Test.YtmgbmoiefgfemaaDoorOutE
namespace Go.Proofs.YtmgbmoiefgfemaaDoor
open Go.RowKit

set_option maxRecDepth 100000 in
set_option maxHeartbeats 4000000 in
theorem checkLR_any (w : World) (l : List Rel) (v : Value) (hl : Sl w 4 encL v l) (hw : ∀ x, x ∈ l → WfL x) :
    Calls Tryd.prog 15 #[v] w fun e w' => e = .returned (.int .i64 (checkL l)) ∧ Below w.heap.size w w' := by
  obtain ⟨ao, cap, rfl, hcap, hmax, hnil, hel⟩ := hl
  unfold maxLen at hmax
  by_cases hbig : 1000 < l.length
  · have hv : Hid (2 = checkL l) := Lib.hid (by simp [checkL, hbig])
    have hbz : (1000 : Int) < (l.length : Int) := by omega
    clear hel
    go_enter Tryd.func15, Tryd.ntmps15
    go_wp2
    go_ret
    exact ⟨ret_int hv.out, Below.refl _ _⟩
  have hbz : ¬ (1000 : Int) < (l.length : Int) := by omega
  have HF : Hid (checkL l = FF (clAt l) l.length) := Lib.hid (by simp [checkL, hbig])
  generalize checkL l = F at HF ⊢
  have HW := Lib.hid hw
  have HEL := Lib.hid hel
  clear hw hel
  go_enter Tryd.func15, Tryd.ntmps15
  go_wp2
  go_loopg [3, 4, 10] l.length (fun gg s3 s4 s10 wr => ∃ kk : Nat, kk ≤ l.length ∧ l.length - kk ≤ gg ∧ s10 = .int .i64 kk ∧ Aside (Below w.heap.size w wr) ∧ Aside (∀ j, j < kk → clAt l j = 0))
  case atStart => exact ⟨0, Nat.zero_le _, by omega, rfl, Below.refl _ w, fun j hj => absurd hj (Nat.not_lt_zero _)⟩
  case round =>
    obtain ⟨kk, hkk, hg, rfl, BW, A⟩ := hrel
    by_cases hlt : kk < l.length
    · have hltz : (kk : Int) < (l.length : Int) := by omega
      obtain ⟨x, hx⟩ : ∃ x, l[kk]? = some x := ⟨l[kk], by simp [hlt]⟩
      obtain ⟨p, hp⟩ : ∃ x, l[kk - 1]? = some x := ⟨l[kk - 1]'(by omega), by simp⟩
      obtain ⟨b, off, hao, hc⟩ := HEL.out kk x hx
      subst hao
      obtain ⟨b', off', hao', hc'⟩ := HEL.out (kk - 1) p hp
      simp only [Option.some.injEq, Addr.mk.injEq, and_true] at hao'
      obtain ⟨rfl, rfl⟩ := hao'
      have hlt0 := World.block_lt_of_cell? w ⟨b, off + kk * 4 + 0, none⟩ (hc 0 _ rfl)
      have c0 : wr.cell? ⟨b, off + kk * 4, none⟩ = some (.string x.ke) := (BW.out.cell (p := ⟨b, off + kk * 4 + 0, none⟩) hlt0).trans (hc 0 _ rfl)
      have p0 : wr.cell? ⟨b, off + (kk - 1) * 4, none⟩ = some (.string p.ke) := (BW.out.cell (p := ⟨b, off + (kk - 1) * 4 + 0, none⟩) hlt0).trans (hc' 0 _ rfl)
      have c1 : wr.cell? ⟨b, off + kk * 4 + 1, none⟩ = some (.int .i64 x.ti) := (BW.out.cell (p := ⟨b, off + kk * 4 + 1, none⟩) hlt0).trans (hc 1 _ rfl)
      have p1 : wr.cell? ⟨b, off + (kk - 1) * 4 + 1, none⟩ = some (.int .i64 p.ti) := (BW.out.cell (p := ⟨b, off + (kk - 1) * 4 + 1, none⟩) hlt0).trans (hc' 1 _ rfl)
      have c2 : wr.cell? ⟨b, off + kk * 4 + 2, none⟩ = some (.int .i64 x.si) := (BW.out.cell (p := ⟨b, off + kk * 4 + 2, none⟩) hlt0).trans (hc 2 _ rfl)
      have p2 : wr.cell? ⟨b, off + (kk - 1) * 4 + 2, none⟩ = some (.int .i64 p.si) := (BW.out.cell (p := ⟨b, off + (kk - 1) * 4 + 2, none⟩) hlt0).trans (hc' 2 _ rfl)
      have c3 : wr.cell? ⟨b, off + kk * 4 + 3, none⟩ = some (.bool x.go) := (BW.out.cell (p := ⟨b, off + kk * 4 + 3, none⟩) hlt0).trans (hc 3 _ rfl)
      have p3 : wr.cell? ⟨b, off + (kk - 1) * 4 + 3, none⟩ = some (.bool p.go) := (BW.out.cell (p := ⟨b, off + (kk - 1) * 4 + 3, none⟩) hlt0).trans (hc' 3 _ rfl)
      have hbw : b < wr.heap.size := Nat.lt_of_lt_of_le hlt0 BW.out.size
      have hsz : x.ke.size ≤ 9223372036854775807 := HW.out x (List.mem_of_getElem? hx)
      have hin := isReqR_any x.ke
      have hszw := BW.out.size
      have hat : Hid (clAt l kk = clOf x p kk) := Lib.hid (by rw [clAt, getD_of hx, getD_of hp])
      have hS : Hid (∀ z, clOf x p kk = z → z ≠ 0 → z = F) := Lib.hid (fun z h hz => by
        rw [HF.out, FF_hit hlt A.out (by rw [hat.out, h]; exact hz), hat.out, h])
      have hC0 : Hid (clOf x p kk = if (!reqB x.ke) = true then 3 else if (outB x.ti 0 1000000000000) = true then 1 else if (x.go && x.si != 0) = true then 3 else if (!x.go && outB x.si 1 1000000000) = true then 1 else if (ordL x p kk) = true then 8 else 0) := Lib.hid rfl
      clear hx hp hc hc'
      have HB0 := Lib.hid (BW.out.alloc hszw (.cells #[.string x.ke, .int .i64 x.ti, .int .i64 x.si, .bool x.go] 32))
      go_upto_region 6 with (fail)
      go_cut [15] (fun s w4 => s = .bool (!reqB x.ke) ∧ w4 = (wr.alloc (.cells #[.string x.ke, .int .i64 x.ti, .int .i64 x.si, .bool x.go] 32)))
      case first =>
        go_wp2_with (go_at_call 38; refine (hin _ hsz).mono ?_; rintro e w' ⟨rfl, rfl⟩)
        go_meet
        exact ⟨by simp, rfl⟩
      obtain ⟨rfl, rfl⟩ := hcut
      generalize hO : (!reqB x.ke) = O at hC0 ⊢
      clear hO
      cases O
      case true =>
        have hv : Hid (3 = F) := Lib.hid (hS.out 3 (by rw [hC0.out]; rfl) (by decide))
        go_wp2
        go_ret
        exact ⟨ret_int hv.out, HB0.out⟩
      have hC1 : Hid (clOf x p kk = if (outB x.ti 0 1000000000000) = true then 1 else if (x.go && x.si != 0) = true then 3 else if (!x.go && outB x.si 1 1000000000) = true then 1 else if (ordL x p kk) = true then 8 else 0) := Lib.hid (by rw [hC0.out]; rfl)
      clear hC0
      go_upto_region 8 with (fail)
      go_cut [20] (fun s w4 => s = .bool (outB x.ti 0 1000000000000) ∧ w4 = (wr.alloc (.cells #[.string x.ke, .int .i64 x.ti, .int .i64 x.si, .bool x.go] 32)))
      case first =>
        cases o0 : outB x.ti 0 1000000000000
        all_goals
          go_wp2_with (go_at_call 41; refine (withinE_any _ _ _ _).mono ?_; rintro e w' ⟨rfl, rfl⟩)
          go_meet
          exact ⟨by simp [*], rfl⟩
      obtain ⟨rfl, rfl⟩ := hcut
      generalize hO : (outB x.ti 0 1000000000000) = O at hC1 ⊢
      clear hO
      cases O
      case true =>
        have hv : Hid (1 = F) := Lib.hid (hS.out 1 (by rw [hC1.out]; rfl) (by decide))
        go_wp2
        go_ret
        exact ⟨ret_int hv.out, HB0.out⟩
      have hC2 : Hid (clOf x p kk = if (x.go && x.si != 0) = true then 3 else if (!x.go && outB x.si 1 1000000000) = true then 1 else if (ordL x p kk) = true then 8 else 0) := Lib.hid (by rw [hC1.out]; rfl)
      clear hC1
      go_upto_region 10 with (fail)
      go_cut [25] (fun s w4 => s = .bool (x.go && x.si != 0) ∧ w4 = (wr.alloc (.cells #[.string x.ke, .int .i64 x.ti, .int .i64 x.si, .bool x.go] 32)))
      case first =>
        cases g0 : x.go
        all_goals
          rw [g0] at c3
          cases o0 : (x.si != 0)
          all_goals
            go_wp2_with (go_at_call 41; refine (withinE_any _ _ _ _).mono ?_; rintro e w' ⟨rfl, rfl⟩)
            go_meet
            exact ⟨by first | (simp [*]; done) | (rw [g0]; simp [*]), by rw [g0]⟩
      obtain ⟨rfl, rfl⟩ := hcut
      generalize hO : (x.go && x.si != 0) = O at hC2 ⊢
      clear hO
      cases O
      case true =>
        have hv : Hid (3 = F) := Lib.hid (hS.out 3 (by rw [hC2.out]; rfl) (by decide))
        go_wp2
        go_ret
        exact ⟨ret_int hv.out, HB0.out⟩
      have hC3 : Hid (clOf x p kk = if (!x.go && outB x.si 1 1000000000) = true then 1 else if (ordL x p kk) = true then 8 else 0) := Lib.hid (by rw [hC2.out]; rfl)
      clear hC2
      go_upto_region 12 with (fail)
      go_cut [33] (fun s w4 => s = .bool (!x.go && outB x.si 1 1000000000) ∧ w4 = (wr.alloc (.cells #[.string x.ke, .int .i64 x.ti, .int .i64 x.si, .bool x.go] 32)))
      case first =>
        cases g0 : x.go
        all_goals
          rw [g0] at c3
          cases o0 : (outB x.si 1 1000000000)
          all_goals
            go_wp2_with (go_at_call 41; refine (withinE_any _ _ _ _).mono ?_; rintro e w' ⟨rfl, rfl⟩)
            go_meet
            exact ⟨by first | (simp [*]; done) | (rw [g0]; simp [*]), by rw [g0]⟩
      obtain ⟨rfl, rfl⟩ := hcut
      generalize hO : (!x.go && outB x.si 1 1000000000) = O at hC3 ⊢
      clear hO
      cases O
      case true =>
        have hv : Hid (1 = F) := Lib.hid (hS.out 1 (by rw [hC3.out]; rfl) (by decide))
        go_wp2
        go_ret
        exact ⟨ret_int hv.out, HB0.out⟩
      have hC4 : Hid (clOf x p kk = if (ordL x p kk) = true then 8 else 0) := Lib.hid (by rw [hC3.out]; rfl)
      clear hC3
      go_upto_region 14 with (fail)
      have hor : Hid ((ordL x p kk) = (decide (0 < kk) && (Op.bytesLess x.ke.toList p.ke.toList || ((x.ke.toList == p.ke.toList) && decide (x.ti ≤ p.ti))))) := Lib.hid rfl
      generalize hOG : (ordL x p kk) = OG at hor hC4 ⊢
      have HOG := Lib.hid hOG
      clear hOG
      go_cut [43] (fun s w4 => s = .bool OG ∧ ∃ n, w4 = (wr.alloc (.cells #[.string x.ke, .int .i64 x.ti, .int .i64 x.si, .bool x.go] 32)).drewN n)
      case first =>
        by_cases hk0 : kk = 0
        · have hz : decide ((0 : Int) < (kk : Int)) = false := decide_eq_false (by omega)
          have hz' : ¬ (0 : Int) < (kk : Int) := by omega
          have hz2 : decide (0 < kk) = false := decide_eq_false (by omega)
          have hv : Hid (OG = false) := Lib.hid (by rw [hor.out, hz2]; rfl)
          clear hk0
          go_quiet (fail)
          go_wp2
          go_meet
          exact ⟨by rw [hv.out], _, rfl⟩
        · have hz : decide ((0 : Int) < (kk : Int)) = true := decide_eq_true (by omega)
          have hz2 : decide (0 < kk) = true := decide_eq_true (by omega)
          have ez2 : ((kk : Int) - 1).toNat = kk - 1 := by omega
          have hm1 : (kk : Int) - 1 < (l.length : Int) := by omega
          have hm2 : (0 : Int) ≤ (kk : Int) - 1 := by omega
          have hm3 : (1 : Int) ≤ (kk : Int) := by omega
          have hm4 : 0 < kk := by omega
          have hwk : IntKind.i64.wrap ((kk : Int) - 1) = (kk : Int) - 1 := IntWalk.i64_in _ (by omega)
          clear hk0
          cases q1 : Op.bytesLess x.ke.toList p.ke.toList
          · cases q2 : (x.ke.toList == p.ke.toList)
            · have hv : Hid (OG = false) := Lib.hid (by rw [hor.out, hz2, q1, q2]; rfl)
              go_quiet (fail)
              go_wp2
              go_meet
              exact ⟨by rw [hv.out], _, rfl⟩
            · have hv : Hid (OG = decide (x.ti ≤ p.ti)) := Lib.hid (by rw [hor.out, hz2, q1, q2]; rfl)
              go_quiet (fail)
              go_wp2
              go_meet
              exact ⟨by rw [hv.out], _, rfl⟩
          · have hv : Hid (OG = true) := Lib.hid (by rw [hor.out, hz2, q1]; rfl)
            go_quiet (fail)
            go_wp2
            go_meet
            exact ⟨by rw [hv.out], _, rfl⟩
      obtain ⟨rfl, nq, rfl⟩ := hcut
      rw [HOG.out.symm] at hC4
      have HBn := Lib.hid (below_drewN HB0.out nq)
      rw [HOG.out.symm]
      clear hor HOG
      generalize hO : (ordL x p kk) = O at hC4 ⊢
      clear hO
      cases O
      case true =>
        have hv : Hid (8 = F) := Lib.hid (hS.out 8 (by rw [hC4.out]; rfl) (by decide))
        go_wp2
        go_ret
        exact ⟨ret_int hv.out, HBn.out⟩
      have hC5 : Hid (clOf x p kk = 0) := Lib.hid (by rw [hC4.out]; rfl)
      clear hC4
      have hz : Hid (clAt l kk = 0) := Lib.hid (by rw [hat.out, hC5.out])
      go_wp2
      go_roundg (l.length - (kk + 1))
      case measure => omega
      case rel =>
        refine ⟨kk + 1, by omega, by omega, by go_num, HBn.out, (show Aside _ from fun j hj => ?_)⟩
        by_cases e : j = kk
        · rw [e, hz.out]
        · exact A.out j (by omega)
    · obtain rfl : kk = l.length := by omega
      have hltz : ¬ (l.length : Int) < (l.length : Int) := by omega
      have hz : Hid (0 = F) := Lib.hid (by rw [HF.out, FF_zero A.out])
      go_wp2
      go_ret
      exact ⟨ret_int hz.out, BW.out⟩
end Go.Proofs.YtmgbmoiefgfemaaDoor

/- CheckRules of the program. -/
import Derived.Test.YtmgbmoiefgfemaaDoorEdD
import Derived.Test.YtmgbmoiefgfemaaDoorReq
namespace Go.Proofs.YtmgbmoiefgfemaaDoor
open Go.RowKit

set_option maxRecDepth 100000 in
set_option maxHeartbeats 4000000 in
theorem checkU_any (w : World) (l : List Crl) (v : Value) (hl : Sl w 4 encU v l) (hw : ∀ x, x ∈ l → WfU x) :
    Calls Tryd.prog 12 #[v] w fun e w' => e = .returned (.int .i64 (checkU l)) ∧ Below w.heap.size w w' := by
  obtain ⟨ao, cap, rfl, hcap, hmax, hnil, hel⟩ := hl
  unfold maxLen at hmax
  by_cases hbig : 100 < l.length
  · have hv : Hid (2 = checkU l) := Lib.hid (by simp [checkU, hbig])
    have hbz : (100 : Int) < (l.length : Int) := by omega
    clear hel
    go_enter Tryd.func12, Tryd.ntmps12
    go_wp2
    go_ret
    exact ⟨ret_int hv.out, Below.refl _ _⟩
  have hbz : ¬ (100 : Int) < (l.length : Int) := by omega
  have HF : Hid (checkU l = FF (cuAt l) l.length) := Lib.hid (by simp [checkU, hbig])
  generalize checkU l = F at HF ⊢
  have HW := Lib.hid hw
  have HEL := Lib.hid hel
  clear hw hel
  go_enter Tryd.func12, Tryd.ntmps12
  go_wp2
  go_loopg [3, 4, 10] l.length (fun gg s3 s4 s10 wr => ∃ kk : Nat, kk ≤ l.length ∧ l.length - kk ≤ gg ∧ s10 = .int .i64 kk ∧ Aside (Below w.heap.size w wr) ∧ Aside (∀ j, j < kk → cuAt l j = 0))
  case atStart => exact ⟨0, Nat.zero_le _, by omega, rfl, Below.refl _ w, fun j hj => absurd hj (Nat.not_lt_zero _)⟩
  case round =>
    obtain ⟨kk, hkk, hg, rfl, BW, A⟩ := hrel
    by_cases hlt : kk < l.length
    · have hltz : (kk : Int) < (l.length : Int) := by omega
      obtain ⟨x, hx⟩ : ∃ x, l[kk]? = some x := ⟨l[kk], by simp [hlt]⟩
      obtain ⟨p, hp⟩ : ∃ x, l[kk - 1]? = some x := ⟨l[kk - 1]'(by omega), by simp⟩
      obtain ⟨b, off, hao, hc⟩ := HEL.out kk x hx
      subst hao
      obtain ⟨b', off', hao', hc'⟩ := HEL.out (kk - 1) p hp
      simp only [Option.some.injEq, Addr.mk.injEq, and_true] at hao'
      obtain ⟨rfl, rfl⟩ := hao'
      have hlt0 := World.block_lt_of_cell? w ⟨b, off + kk * 4 + 0, none⟩ (hc 0 _ rfl)
      have c0 : wr.cell? ⟨b, off + kk * 4, none⟩ = some (.string x.pr) := (BW.out.cell (p := ⟨b, off + kk * 4 + 0, none⟩) hlt0).trans (hc 0 _ rfl)
      have p0 : wr.cell? ⟨b, off + (kk - 1) * 4, none⟩ = some (.string p.pr) := (BW.out.cell (p := ⟨b, off + (kk - 1) * 4 + 0, none⟩) hlt0).trans (hc' 0 _ rfl)
      have c1 : wr.cell? ⟨b, off + kk * 4 + 1, none⟩ = some (.int .i64 x.li) := (BW.out.cell (p := ⟨b, off + kk * 4 + 1, none⟩) hlt0).trans (hc 1 _ rfl)
      have p1 : wr.cell? ⟨b, off + (kk - 1) * 4 + 1, none⟩ = some (.int .i64 p.li) := (BW.out.cell (p := ⟨b, off + (kk - 1) * 4 + 1, none⟩) hlt0).trans (hc' 1 _ rfl)
      have c2 : wr.cell? ⟨b, off + kk * 4 + 2, none⟩ = some (.int .i64 x.st) := (BW.out.cell (p := ⟨b, off + kk * 4 + 2, none⟩) hlt0).trans (hc 2 _ rfl)
      have p2 : wr.cell? ⟨b, off + (kk - 1) * 4 + 2, none⟩ = some (.int .i64 p.st) := (BW.out.cell (p := ⟨b, off + (kk - 1) * 4 + 2, none⟩) hlt0).trans (hc' 2 _ rfl)
      have c3 : wr.cell? ⟨b, off + kk * 4 + 3, none⟩ = some (.int .i64 x.go) := (BW.out.cell (p := ⟨b, off + kk * 4 + 3, none⟩) hlt0).trans (hc 3 _ rfl)
      have p3 : wr.cell? ⟨b, off + (kk - 1) * 4 + 3, none⟩ = some (.int .i64 p.go) := (BW.out.cell (p := ⟨b, off + (kk - 1) * 4 + 3, none⟩) hlt0).trans (hc' 3 _ rfl)
      have hbw : b < wr.heap.size := Nat.lt_of_lt_of_le hlt0 BW.out.size
      have hsz : x.pr.size ≤ 9223372036854775807 := HW.out x (List.mem_of_getElem? hx)
      have hin := isReq_any x.pr
      have hszw := BW.out.size
      have hat : Hid (cuAt l kk = cuOf x p kk) := Lib.hid (by rw [cuAt, getD_of hx, getD_of hp])
      have hS : Hid (∀ z, cuOf x p kk = z → z ≠ 0 → z = F) := Lib.hid (fun z h hz => by
        rw [HF.out, FF_hit hlt A.out (by rw [hat.out, h]; exact hz), hat.out, h])
      have hC0 : Hid (cuOf x p kk = if (!reqB x.pr) = true then 3 else if (ordU x p kk) = true then 8 else if (outB x.li 0 1000000000 || outB x.st 0 1000000000 || outB x.go 0 1000000000) = true then 1 else 0) := Lib.hid rfl
      clear hx hp hc hc'
      have HB0 := Lib.hid (BW.out.alloc hszw (.cells #[.string x.pr, .int .i64 x.li, .int .i64 x.st, .int .i64 x.go] 25))
      go_upto_region 6 with (fail)
      go_cut [15] (fun s w4 => s = .bool (!reqB x.pr) ∧ w4 = (wr.alloc (.cells #[.string x.pr, .int .i64 x.li, .int .i64 x.st, .int .i64 x.go] 25)))
      case first =>
        go_wp2_with (go_at_call 36; refine (hin _ hsz).mono ?_; rintro e w' ⟨rfl, rfl⟩)
        go_meet
        exact ⟨by simp, rfl⟩
      obtain ⟨rfl, rfl⟩ := hcut
      generalize hO : (!reqB x.pr) = O at hC0 ⊢
      clear hO
      cases O
      case true =>
        have hv : Hid (3 = F) := Lib.hid (hS.out 3 (by rw [hC0.out]; rfl) (by decide))
        go_wp2
        go_ret
        exact ⟨ret_int hv.out, HB0.out⟩
      have hC1 : Hid (cuOf x p kk = if (ordU x p kk) = true then 8 else if (outB x.li 0 1000000000 || outB x.st 0 1000000000 || outB x.go 0 1000000000) = true then 1 else 0) := Lib.hid (by rw [hC0.out]; rfl)
      clear hC0
      go_upto_region 8 with (fail)
      have hor : Hid ((ordU x p kk) = (decide (0 < kk) && (Op.bytesLess x.pr.toList p.pr.toList || x.pr.toList == p.pr.toList))) := Lib.hid rfl
      generalize hOG : (ordU x p kk) = OG at hor hC1 ⊢
      have HOG := Lib.hid hOG
      clear hOG
      go_cut [20] (fun s w4 => s = .bool OG ∧ ∃ n, w4 = (wr.alloc (.cells #[.string x.pr, .int .i64 x.li, .int .i64 x.st, .int .i64 x.go] 25)).drewN n)
      case first =>
        by_cases hk0 : kk = 0
        · have hz : decide ((0 : Int) < (kk : Int)) = false := decide_eq_false (by omega)
          have hz' : ¬ (0 : Int) < (kk : Int) := by omega
          have hz2 : decide (0 < kk) = false := decide_eq_false (by omega)
          have hv : Hid (OG = false) := Lib.hid (by rw [hor.out, hz2]; rfl)
          clear hk0
          go_quiet (fail)
          go_wp2
          go_meet
          exact ⟨by rw [hv.out], _, rfl⟩
        · have hz : decide ((0 : Int) < (kk : Int)) = true := decide_eq_true (by omega)
          have hz2 : decide (0 < kk) = true := decide_eq_true (by omega)
          have ez2 : ((kk : Int) - 1).toNat = kk - 1 := by omega
          have hm1 : (kk : Int) - 1 < (l.length : Int) := by omega
          have hm2 : (0 : Int) ≤ (kk : Int) - 1 := by omega
          have hm3 : (1 : Int) ≤ (kk : Int) := by omega
          have hm4 : 0 < kk := by omega
          have hwk : IntKind.i64.wrap ((kk : Int) - 1) = (kk : Int) - 1 := IntWalk.i64_in _ (by omega)
          clear hk0
          have hv : Hid (OG = ((Op.bytesLess x.pr.toList p.pr.toList || x.pr.toList == p.pr.toList))) := Lib.hid (by rw [hor.out, hz2]; rfl)
          go_quiet (fail)
          go_wp2
          go_meet
          exact ⟨by rw [hv.out], _, rfl⟩
      obtain ⟨rfl, nq, rfl⟩ := hcut
      rw [HOG.out.symm] at hC1
      have HBn := Lib.hid (below_drewN HB0.out nq)
      rw [HOG.out.symm]
      clear hor HOG
      generalize hO : (ordU x p kk) = O at hC1 ⊢
      clear hO
      cases O
      case true =>
        have hv : Hid (8 = F) := Lib.hid (hS.out 8 (by rw [hC1.out]; rfl) (by decide))
        go_wp2
        go_ret
        exact ⟨ret_int hv.out, HBn.out⟩
      have hC2 : Hid (cuOf x p kk = if (outB x.li 0 1000000000 || outB x.st 0 1000000000 || outB x.go 0 1000000000) = true then 1 else 0) := Lib.hid (by rw [hC1.out]; rfl)
      clear hC1
      go_upto_region 10 with (fail)
      go_cut [34] (fun s w4 => s = .bool (outB x.li 0 1000000000 || outB x.st 0 1000000000 || outB x.go 0 1000000000) ∧ w4 = ((wr.alloc (.cells #[.string x.pr, .int .i64 x.li, .int .i64 x.st, .int .i64 x.go] 25)).drewN nq))
      case first =>
        cases o0 : outB x.li 0 1000000000
        case true =>
          go_wp2_with (go_at_call 40; refine (out_any _ _ _ _).mono ?_; rintro e w' ⟨rfl, rfl⟩)
          go_meet
          exact ⟨by simp [*], rfl⟩
        cases o1 : outB x.st 0 1000000000
        case true =>
          go_wp2_with (go_at_call 40; refine (out_any _ _ _ _).mono ?_; rintro e w' ⟨rfl, rfl⟩)
          go_meet
          exact ⟨by simp [*], rfl⟩
        cases o2 : outB x.go 0 1000000000
        all_goals
          go_wp2_with (go_at_call 40; refine (out_any _ _ _ _).mono ?_; rintro e w' ⟨rfl, rfl⟩)
          go_meet
          exact ⟨by simp [*], rfl⟩
      obtain ⟨rfl, rfl⟩ := hcut
      generalize hO : (outB x.li 0 1000000000 || outB x.st 0 1000000000 || outB x.go 0 1000000000) = O at hC2 ⊢
      clear hO
      cases O
      case true =>
        have hv : Hid (1 = F) := Lib.hid (hS.out 1 (by rw [hC2.out]; rfl) (by decide))
        go_wp2
        go_ret
        exact ⟨ret_int hv.out, HBn.out⟩
      have hC3 : Hid (cuOf x p kk = 0) := Lib.hid (by rw [hC2.out]; rfl)
      clear hC2
      have hz : Hid (cuAt l kk = 0) := Lib.hid (by rw [hat.out, hC3.out])
      go_wp2
      go_roundg (l.length - (kk + 1))
      case measure => omega
      case rel =>
        refine ⟨kk + 1, by omega, by omega, by go_num, HBn.out, (show Aside _ from fun j hj => ?_)⟩
        by_cases e : j = kk
        · rw [e, hz.out]
        · exact A.out j (by omega)
    · obtain rfl : kk = l.length := by omega
      have hltz : ¬ (l.length : Int) < (l.length : Int) := by omega
      have hz : Hid (0 = F) := Lib.hid (by rw [HF.out, FF_zero A.out])
      go_wp2
      go_ret
      exact ⟨ret_int hz.out, BW.out⟩
end Go.Proofs.YtmgbmoiefgfemaaDoor

/- CheckBreaks of the reference: what it returns. -/
import Derived.Test.YteijcombdlgioaaCb
namespace Go.Proofs.Yteijcombdlgioaa
open Go.RowKit

set_option maxRecDepth 100000 in
set_option maxHeartbeats 2000000 in
theorem checkBreaksR_any (w : World) (l : List Brk) (v : Value) (hl : Sl w 3 encB v l) :
    Calls Try.prog 55 #[v] w fun e w' => e = .returned (.int .i64 (checkB l)) ∧ Below w.heap.size w w' := by
  obtain ⟨ao, cap, rfl, hcap, hmax, hnil, hel⟩ := hl
  unfold maxLen at hmax
  by_cases hbig : 200 < l.length
  · have hv : Hid (2 = checkB l) := Lib.hid (by simp [checkB, hbig])
    clear hel
    go_enter Try.func55, Try.ntmps55
    go_wp2
    go_ret
    exact ⟨ret_int hv.out, Below.refl _ _⟩
  · have hF : checkB l = FF (cbAt l) l.length := by simp [checkB, hbig]
    have HF := Lib.hid hF
    clear hF
    go_enter Try.func55, Try.ntmps55
    go_wp2
    go_loopg [3] l.length (fun gg s3 wr => ∃ kk : Nat, kk ≤ l.length ∧ l.length - kk ≤ gg ∧ s3 = .int .i64 kk ∧ Aside (Below w.heap.size w wr) ∧ Aside (∀ j, j < kk → cbAt l j = 0))
    case atStart => exact ⟨0, Nat.zero_le _, by omega, rfl, Below.refl _ w, fun j hj => absurd hj (Nat.not_lt_zero _)⟩
    case round =>
      obtain ⟨kk, hkk, hg, rfl, BW, A⟩ := hrel
      by_cases hlt : kk < l.length
      · have hltz : (kk : Int) < (l.length : Int) := by omega
        obtain ⟨x, hx⟩ : ∃ x, l[kk]? = some x := ⟨l[kk], by simp [hlt]⟩
        obtain ⟨b, off, rfl, hc⟩ := hel kk x hx
        have hlt0 := World.block_lt_of_cell? w _ (hc 0 _ rfl)
        have c0 := (BW.out.cell (p := ⟨b, off + kk * 3, none⟩) hlt0).trans (hc 0 _ rfl)
        have c1 := (BW.out.cell (p := ⟨b, off + kk * 3 + 1, none⟩) hlt0).trans (hc 1 _ rfl)
        have c2 := (BW.out.cell (p := ⟨b, off + kk * 3 + 2, none⟩) hlt0).trans (hc 2 _ rfl)
        obtain ⟨p, hp⟩ : ∃ x, l[kk - 1]? = some x := ⟨l[kk - 1]'(by omega), by simp⟩
        obtain ⟨b', off', hb', hc'⟩ := hel (kk - 1) p hp
        obtain ⟨rfl, rfl⟩ : b = b' ∧ off = off' := by simpa using hb'
        have cm : wr.cell? ⟨b, off + (kk - 1) * 3 + 2, none⟩ = some (.int .i64 p.en) := (BW.out.cell (p := ⟨b, off + (kk - 1) * 3 + 2, none⟩) hlt0).trans (hc' 2 _ rfl)
        have hbw : b < wr.heap.size := Nat.lt_of_lt_of_le hlt0 BW.out.size
        have hcj : ∀ j y, l[j]? = some y → wr.cell? ⟨b, off + j * 3, none⟩ = some (.int .i64 y.ev) := fun j y hy => by
          obtain ⟨b2, off2, hb2, hc2⟩ := hel j y hy
          obtain ⟨rfl, rfl⟩ : b = b2 ∧ off = off2 := by simpa using hb2
          exact (BW.out.cell (p := ⟨b, off + j * 3, none⟩) hlt0).trans (hc2 0 _ rfl)
        have HCJ := Lib.hid hcj
        obtain ⟨tw, htw⟩ : ∃ tw, tw = (l.take kk).any fun o => o.ev == x.ev := ⟨_, rfl⟩
        have HTW := Lib.hid htw
        have hat : Hid (cbAt l kk = cbOf x p kk tw) := Lib.hid (by simp [cbAt, List.getD_eq_getElem?_getD, hx, hp, htw])
        have HFk := fun (h : cbOf x p kk tw ≠ 0) => (FF_hit (f := cbAt l) (n := l.length) (k := kk) hlt A.out (by rw [hat.out]; exact h)).trans hat.out
        have hszw := BW.out.size
        have B1 := fun (h : cbOf x p kk tw ≠ 0) => HF.out.trans (HFk h)
        have HB1 := Lib.hid B1
        clear B1 HF HFk hx hp hb' hc hc' hel htw hcj
        have hk0 : kk = 0 ∨ 0 < kk := by omega
        have HK0 := Lib.hid hk0
        clear hk0
        have hC : Hid (cbOf x p kk tw = if (outB x.ev 0 4294967295 || outB x.be 0 1000000000000000 || outB x.en (-1) 1000000000000000) = true then 1 else if ((x.en != -1) && decide (x.en ≤ x.be)) = true then 8 else if (decide (0 < kk) && (p.en == -1)) = true then 11 else if (decide (0 < kk) && decide (x.be < p.en)) = true then 8 else if tw then 7 else 0) := Lib.hid (by simp [cbOf])
        go_upto_region 7 with (fail)
        go_cut [34] (fun s34 w2 => s34 = .bool (outB x.ev 0 4294967295 || outB x.be 0 1000000000000000 || outB x.en (-1) 1000000000000000) ∧ w2 = wr.alloc (.cells #[.int .i64 x.ev, .int .i64 x.be, .int .i64 x.en] 54))
        case first =>
          go_wp2_with (first | (go_at_call 35; refine (within_any _ _ _ _).mono ?_; rintro e w' ⟨rfl, rfl⟩))
          all_goals (go_meet; exact ⟨by simp [*], rfl⟩)
        case rest =>
          obtain ⟨rfl, rfl⟩ := hcut
          generalize hO : (outB x.ev 0 4294967295 || outB x.be 0 1000000000000000 || outB x.en (-1) 1000000000000000) = O at hC ⊢
          have HO := Lib.hid hO
          clear hO
          cases O
          case true =>
            have hv : Hid (cbOf x p kk tw = 1) := Lib.hid (by rw [hC.out]; rfl)
            go_wp2
            go_ret
            exact ⟨ret_int (by rw [HB1.out (by rw [hv.out]; decide), hv.out]), BW.out.alloc hszw _⟩
          go_upto_region 9 with (fail)
          go_cut [44] (fun s44 w2 => s44 = .bool ((x.en != -1) && decide (x.en ≤ x.be)) ∧ w2 = wr.alloc (.cells #[.int .i64 x.ev, .int .i64 x.be, .int .i64 x.en] 54))
          case first =>
            cases e1 : (x.en != -1)
            all_goals
              go_wp2
              go_meet
              exact ⟨by simp [*], rfl⟩
          obtain ⟨rfl, rfl⟩ := hcut
          generalize hO2 : ((x.en != -1) && decide (x.en ≤ x.be)) = O at hC ⊢
          have HO2 := Lib.hid hO2
          clear hO2
          cases O
          case true =>
            have hv : Hid (cbOf x p kk tw = 8) := Lib.hid (by rw [hC.out]; rfl)
            go_wp2
            go_ret
            exact ⟨ret_int (by rw [HB1.out (by rw [hv.out]; decide), hv.out]), BW.out.alloc hszw _⟩
          go_upto_region 11 with (fail)
          go_cut [55] (fun s55 w2 => s55 = .bool (decide (0 < kk) && (p.en == -1)) ∧ w2 = wr.alloc (.cells #[.int .i64 x.ev, .int .i64 x.be, .int .i64 x.en] 54))
          case first =>
            rcases HK0.out with z | z
            · have hd' : ¬ (0 : Int) < (kk : Int) := by omega
              have hd : decide (0 < kk) = false := by simp; omega
              have Z := Lib.hid z
              clear z
              go_wp2
              go_meet
              exact ⟨by simp [hd], rfl⟩
            · have hd' : (0 : Int) < (kk : Int) := by omega
              go_wp2
              go_meet
              exact ⟨by simp [z], rfl⟩
          obtain ⟨rfl, rfl⟩ := hcut
          generalize hO3 : (decide (0 < kk) && (p.en == -1)) = O at hC ⊢
          have HO3 := Lib.hid hO3
          clear hO3
          cases O
          case true =>
            have hv : Hid (cbOf x p kk tw = 11) := Lib.hid (by rw [hC.out]; rfl)
            go_wp2
            go_ret
            exact ⟨ret_int (by rw [HB1.out (by rw [hv.out]; decide), hv.out]), BW.out.alloc hszw _⟩
          go_upto_region 13 with (fail)
          go_cut [68] (fun s68 w2 => s68 = .bool (decide (0 < kk) && decide (x.be < p.en)) ∧ ∃ nq, w2 = (wr.alloc (.cells #[.int .i64 x.ev, .int .i64 x.be, .int .i64 x.en] 54)).drewN nq)
          case first =>
            rcases HK0.out with z | z
            · have hd' : decide ((0 : Int) < (kk : Int)) = false := by simp; omega
              have hd : decide (0 < kk) = false := by simp; omega
              have Z := Lib.hid z
              clear z
              go_quiet (fail)
              go_wp2
              go_meet
              exact ⟨by simp [hd], _, rfl⟩
            · have hd' : decide ((0 : Int) < (kk : Int)) = true := by simp; omega
              go_quiet (fail)
              go_wp2
              go_meet
              exact ⟨by simp [z], _, rfl⟩
          obtain ⟨rfl, nq, rfl⟩ := hcut
          generalize hO4 : (decide (0 < kk) && decide (x.be < p.en)) = O at hC ⊢
          have HO4 := Lib.hid hO4
          clear hO4
          cases O
          case true =>
            have hv : Hid (cbOf x p kk tw = 8) := Lib.hid (by rw [hC.out]; rfl)
            go_wp2
            go_ret
            exact ⟨ret_int (by rw [HB1.out (by rw [hv.out]; decide), hv.out]), below_drewN (BW.out.alloc hszw _) _⟩
          obtain ⟨wo, rfl⟩ : ∃ wo : World, wo = wr := ⟨_, rfl⟩
          go_wp2
          go_loopg [5] kk (fun gg s5 wr => ∃ jj : Nat, jj ≤ kk ∧ kk - jj ≤ gg ∧ s5 = .int .i64 jj ∧ (∃ n, wr = (wo.alloc (.cells #[.int .i64 x.ev, .int .i64 x.be, .int .i64 x.en] 54)).drewN n) ∧ Aside (∀ j y, l[j]? = some y → j < jj → (y.ev == x.ev) = false))
          case atStart => exact ⟨0, Nat.zero_le _, by omega, rfl, ⟨_, rfl⟩, fun j y _ hj => absurd hj (Nat.not_lt_zero _)⟩
          obtain ⟨jj, hjj, hgj, rfl, ⟨n, rfl⟩, AJ⟩ := hrel
          by_cases hlj : jj < kk
          · have hljz : (jj : Int) < (kk : Int) := by omega
            have hjl : (jj : Int) < (l.length : Int) := by omega
            obtain ⟨y, hy⟩ : ∃ y, l[jj]? = some y := ⟨l[jj]'(by omega), by simp⟩
            have cj := HCJ.out jj y hy
            have HY := Lib.hid hy
            clear hy
            cases e1 : (y.ev == x.ev)
            case true =>
              have ht : tw = true := by
                rw [HTW.out]
                exact List.any_eq_true.2 ⟨y, List.mem_of_getElem? (i := jj) (by rw [List.getElem?_take, if_pos hlj]; exact HY.out), e1⟩
              have hv : Hid (cbOf x p kk tw = 7) := Lib.hid (by rw [hC.out, ht]; rfl)
              clear ht
              go_upto_region 18 with (fail)
              go_quiet (fail)
              go_wp2
              go_ret
              exact ⟨ret_int (by rw [HB1.out (by rw [hv.out]; decide), hv.out]), below_drewN (below_drewN (BW.out.alloc hszw _) _) _⟩
            case false =>
              go_upto_region 18 with (fail)
              go_quiet (fail)
              go_wp2
              go_roundg (kk - (jj + 1))
              case measure => omega
              case rel =>
                refine ⟨jj + 1, by omega, by omega, by go_num, ⟨_, rfl⟩, (show Aside _ from fun j z hz hj => ?_)⟩
                by_cases e : j = jj
                · subst e
                  have := HY.out.symm.trans hz
                  simp at this; subst this; exact e1
                · exact AJ.out j z hz (by omega)
          · have hljz : ¬ (jj : Int) < (kk : Int) := by omega
            have ht : tw = false := by
              rw [HTW.out, List.any_eq_false]
              intro y hy
              obtain ⟨j, hj, rfl⟩ := List.mem_iff_getElem.1 hy
              have hj' : j < kk ∧ j < l.length := by
                simp at hj
                omega
              simp only [List.getElem_take]
              simp [AJ.out j l[j] (by simp [hj'.2]) (by omega)]
            have hv : Hid (cbOf x p kk tw = 0) := Lib.hid (by rw [hC.out, ht]; rfl)
            clear ht
            go_wp2
            go_roundg (l.length - (kk + 1))
            case measure => omega
            case rel =>
              refine ⟨kk + 1, by omega, by omega, by go_num, below_drewN (BW.out.alloc hszw _) _, (show Aside _ from fun j hj => ?_)⟩
              by_cases e : j = kk
              · rw [e, hat.out, hv.out]
              · exact A.out j (by omega)
      · have hltz : ¬ (kk : Int) < (l.length : Int) := by omega
        clear hel
        have hz : Hid (checkB l = 0) := Lib.hid (by rw [HF.out, FF_zero (fun j hj => A.out j (by omega))])
        go_wp2
        go_ret
        exact ⟨ret_int hz.out.symm, BW.out⟩
end Go.Proofs.Yteijcombdlgioaa

/- Hull of the reference. -/
import Derived.Test.YtikgkgfcnciomaaHulR
namespace Go.Proofs.Ytikgkgfcnciomaa
open Go.RowKit

theorem refN_mem (l : List Rng) : ∀ i x, x ∈ refN l i → x < i
  | 0, x, h => by simp [refN] at h
  | i + 1, x, h => by
    have ih := refN_mem l i
    unfold refN at h
    split at h
    · rcases incS_mem h with h | h
      · have := ih x h; omega
      · omega
    · have := ih x h; omega
theorem refN_len (l : List Rng) : ∀ i, (refN l i).length ≤ i
  | 0 => by simp [refN]
  | i + 1 => by
    have ih := refN_len l i
    have := incS_len (qA l) (refN l i) i
    unfold refN
    split <;> omega

set_option maxRecDepth 100000 in
set_option maxHeartbeats 4000000 in
theorem HullR_any (w : World) (l : List Rng) (v : Value) (hl : Sl w 4 encR v l) (hw : ∀ x, x ∈ l → WfR x) :
    Calls Try.prog 13 #[v] w (SlPost w 1 encI (hulR l) (checkR l)) := by
  have HC := Lib.hid (checkRenR_any w l v hl hw)
  have HV : Hid (hulR l = if checkR l = 0 then zL (refN l l.length) else []) := Lib.hid (by
    unfold hulR
    split
    · rename_i h; rw [hulN_ref h]
    · rfl)
  have HZ := Lib.hid (fun (h : checkR l = 0) => (checkR_zero h).1)
  have HIR := Lib.hid (fun (h : checkR l = 0) => inR_of h)
  have HSL := Lib.hid hl
  obtain ⟨C, hC⟩ : ∃ C, C = checkR l := ⟨_, rfl⟩
  rw [← hC] at HC HZ HV HIR ⊢
  generalize hulR l = RL at HV ⊢
  clear hC hw hl
  cases e1 : (C != 0)
  case true =>
    have hne : C ≠ 0 := by simpa using e1
    have hv2 : Hid (RL = []) := Lib.hid (by rw [HV.out, if_neg hne])
    clear hne
    go_enter Try.func13, Try.ntmps13
    go_wp2_with (go_at_call 10; refine HC.out.mono ?_; rintro e w1 ⟨rfl, hb⟩)
    go_ret2
    exact SlPost.mk rfl (by rw [hv2.out]; exact Sl.nil) hb
  obtain rfl : C = 0 := by simpa using e1
  have hlen := HZ.out rfl
  have HIN := Lib.hid (HIR.out rfl)
  have HRL : Hid (RL = zL (refN l l.length)) := Lib.hid (by rw [HV.out]; rfl)
  obtain ⟨ao, cap, rfl, hcap, hmax, _, hel⟩ := HSL.out
  unfold maxLen at hmax
  have HEL := Lib.hid hel
  clear e1 HZ HV hel HIR
  go_enter Try.func13, Try.ntmps13
  go_wp2_with fail
  refine HC.out.mono ?_
  rintro e w1 ⟨rfl, hb⟩
  have HB1 := Lib.hid hb
  have hsz1 := hb.size
  clear hb HC
  go_wp2
  obtain ⟨wq, rfl⟩ : ∃ wq, wq = w1 := ⟨_, rfl⟩
  go_loopg [5, 15] l.length (fun gg s5 s15 wr => ∃ j : Nat, j ≤ l.length ∧ l.length - j ≤ gg ∧ s15 = .int .i64 j ∧ Aside (Own wr wq.heap.size 3 1 encI s5 (zL (refN l j))) ∧ Aside (Below wq.heap.size wq wr))
  case atStart => exact ⟨0, Nat.zero_le _, by omega, rfl, (show Own _ _ _ _ _ _ (zL []) from Own.nil), Below.refl _ wq⟩
  obtain ⟨j, hj, hg, rfl, OW, BW⟩ := hrel
  by_cases hlt : j < l.length
  · have hltz : (j : Int) < (l.length : Int) := by omega
    obtain ⟨x, hx⟩ : ∃ x, l[j]? = some x := ⟨l[j], by simp [hlt]⟩
    obtain ⟨b, off, hao, hc⟩ := HEL.out j x hx
    subst hao
    have hblt : b < w.heap.size := World.block_lt_of_cell? w ⟨b, off + j * 4 + 0, none⟩ (hc 0 _ rfl)
    have HBX := Lib.hid (HB1.out.trans (BW.out.mono hsz1))
    have c0 : wr.cell? ⟨b, off + j * 4, none⟩ = some (.string x.na) := (HBX.out.cell (p := ⟨b, off + j * 4 + 0, none⟩) hblt).trans (hc 0 _ rfl)
    have c1 := (HBX.out.cell (p := ⟨b, off + j * 4 + 1, none⟩) hblt).trans (hc 1 _ rfl)
    have c2 := (HBX.out.cell (p := ⟨b, off + j * 4 + 2, none⟩) hblt).trans (hc 2 _ rfl)
    have c3 := (HBX.out.cell (p := ⟨b, off + j * 4 + 3, none⟩) hblt).trans (hc 3 _ rfl)
    have HOW := Lib.hid OW.out
    have HBWj := Lib.hid BW.out
    have hszj := BW.out.size
    have hsx : Hid (Sl wr 4 encR (.slice (some ⟨b, off, none⟩) l.length cap) l) := Lib.hid (HSL.out.below HBX.out (Nat.le_refl _))
    have HF1 := Lib.hid (fun W (hb : Below wr.heap.size wr W) => first_anyR W l _ j x hx (hsx.out.below hb (Nat.le_refl _)))
    have HF2 := Lib.hid (fun W (hb : Below wr.heap.size wr W) => corner_any W l _ j x hx (hsx.out.below hb (Nat.le_refl _)) HIN.out)
    have hqx : qA l j = x.qu := by unfold qA; rw [getD_of hx]
    have hol := refN_len l j
    have HOM := Lib.hid (refN_mem l j)
    have HST : Hid (refN l (j + 1) = if (frstB l j && corB l j) = true then (if (decide ((refN l j).length = 0) || decide (qA l ((refN l j).getD ((refN l j).length - 1) 0) < x.qu)) = true then refN l j ++ [j] else refN l j) else refN l j) := Lib.hid (by
      show (if _ then _ else _) = _
      unfold incS
      rw [hqx]
      congr 1
      by_cases h : (refN l j).length = 0 ∨ qA l ((refN l j).getD ((refN l j).length - 1) 0) < x.qu
      · rw [if_pos h, if_pos (by simpa using h)]
      · rw [if_neg h, if_neg (by simpa using h)])
    obtain ⟨o, ho⟩ : ∃ o, o = refN l j := ⟨_, rfl⟩
    rw [← ho] at HOM HOW hol HST
    obtain ⟨oo, ocap, rfl, hocap, homax, _, hoel⟩ := Own.sl OW.out encI_len
    rw [← ho, zL_len] at HOW hocap ⊢
    rw [← ho] at hoel
    unfold maxLen at homax
    have HOEL := Lib.hid hoel
    have HA := Lib.hid ((Below.refl wr.heap.size wr).alloc (Nat.le_refl _) (boxR x))
    have HK1 := Lib.hid (block_new wr (boxR x))
    generalize frstB l j = B1 at HF1 HST
    generalize corB l j = B2 at HF2 HST
    clear hc OW BW hx ho hoel hqx
    obtain ⟨wp, rfl⟩ : ∃ wp, wp = wr := ⟨_, rfl⟩
    go_upto_region 8 with (fail)
    obtain ⟨w2, hw2⟩ : ∃ w2, w2 = wp.alloc (boxR x) := ⟨_, rfl⟩
    rw [show wp.alloc (.cells #[.string x.na, .int .i64 x.ra, .int .i64 x.he, .int .i64 x.qu] 33) = w2 from hw2.symm]
    rw [← hw2] at HA HK1
    clear hw2 c0 c1 c2 c3
    go_cut [29] (fun s29 w4 => s29 = .bool (!(B1 && B2)) ∧ Aside (Below w2.heap.size w2 w4))
    case first =>
      cases B1
      case false =>
        go_wp2_with (go_at_call 30; refine (HF1.out _ HA.out).mono ?_; rintro e w3 ⟨rfl, hb⟩)
        go_meet
        exact ⟨rfl, hb⟩
      case true =>
        go_wp2_with fail
        refine (HF1.out _ HA.out).mono ?_
        rintro e w3 ⟨rfl, hb⟩
        have HB3 := Lib.hid hb
        have HC3 := Lib.hid (HF2.out _ (HA.out.thru hb))
        clear hb
        go_wp2_with fail
        refine HC3.out.mono ?_
        rintro e w4 ⟨rfl, hb⟩
        go_wp2
        go_meet
        exact ⟨rfl, HB3.out.thru hb⟩
    obtain ⟨rfl, HC⟩ := hcut
    obtain ⟨w3, rfl⟩ : ∃ w3, w3 = wc := ⟨_, rfl⟩
    have HWA := Lib.hid (HA.out.thru HC.out)
    have HB3 := Lib.hid (HBWj.out.thru HWA.out)
    have HO3 := Lib.hid (HOW.out.below HWA.out (Nat.le_refl _))
    have HK3 := Lib.hid ((HC.out.block _ (lt_of_block HK1.out)).trans HK1.out)
    have hsz3 := HB3.out.size
    clear HC HF1 HF2 HK1
    cases hBB : (B1 && B2)
    case false =>
      have HFO : Hid (o = refN l (j + 1)) := Lib.hid (by rw [HST.out, hBB]; rfl)
      clear hBB HST
      go_wp2
      go_roundg (l.length - (j + 1))
      case measure => omega
      case rel => exact ⟨j + 1, by omega, by omega, by go_num, (show Own _ _ _ _ _ _ _ by rw [← HFO.out]; exact HO3.out), HB3.out⟩
    case true =>
      have HST2 : Hid (refN l (j + 1) = if (decide (o.length = 0) || decide (qA l (o.getD (o.length - 1) 0) < x.qu)) = true then o ++ [j] else o) := Lib.hid (by rw [HST.out, hBB]; rfl)
      obtain ⟨B, hB⟩ : ∃ B, B = (decide (o.length = 0) || decide (qA l (o.getD (o.length - 1) 0) < x.qu)) := ⟨_, rfl⟩
      rw [← hB] at HST2
      have HBB := Lib.hid hB
      have k3 := (cell_of_block (i := 3) HK3.out).trans rfl
      have hk3 := lt_of_block HK3.out
      clear hBB HST hB
      go_upto_region 9 with (fail)
      go_cut [47] (fun s47 w4 => s47 = .bool B ∧ ∃ n, w4 = w3.drewN n)
      case first =>
        by_cases h0 : o.length = 0
        · have hv : Hid (true = B) := Lib.hid (by rw [HBB.out, decide_eq_true h0]; rfl)
          have d1 : ((o.length : Int) == 0) = true := by simpa using h0
          clear h0
          go_quiet (fail)
          go_wp2
          go_meet
          exact ⟨by rw [← hv.out], _, rfl⟩
        · obtain ⟨q, hq⟩ : ∃ q, q = o.getD (o.length - 1) 0 := ⟨_, rfl⟩
          have hqi : q < j := by rw [hq]; exact HOM.out _ (mem_getD.2 ⟨o.length - 1, by omega, rfl⟩)
          obtain ⟨b3, off3, hao3, hd3⟩ := HOEL.out (o.length - 1) (q : Int) (by rw [hq]; exact zL_get (by omega))
          subst hao3
          have e3 : wp.cell? ⟨b3, off3 + (o.length - 1), none⟩ = some (.int .i64 (q : Int)) := by have := hd3 0 _ rfl; simpa using this
          have cq := (HWA.out.cell (p := ⟨b3, off3 + (o.length - 1), none⟩) (World.block_lt_of_cell? wp _ e3)).trans e3
          obtain ⟨y, hy⟩ : ∃ y, l[q]? = some y := ⟨l[q]'(by omega), by simp⟩
          obtain ⟨b4, off4, hao4, hc4⟩ := HEL.out q y hy
          simp only [Option.some.injEq, Addr.mk.injEq, and_true] at hao4
          obtain ⟨rfl, rfl⟩ := hao4
          have y3 := ((HB1.out.thru HB3.out).cell (p := ⟨b, off + q * 4 + 3, none⟩) hblt).trans (hc4 3 _ rfl)
          have hv : Hid (decide (y.qu < x.qu) = B) := Lib.hid (by rw [HBB.out, decide_eq_false h0, ← hq]; unfold qA; rw [getD_of hy]; rfl)
          have d1 : ((o.length : Int) == 0) = false := by simpa using h0
          have w2 : IntKind.i64.wrap ((o.length : Int) - 1) = (o.length : Int) - 1 := IntWalk.i64_in _ (by omega)
          have w3' : ((o.length : Int) - 1).toNat = o.length - 1 := by omega
          have w4 : (0 : Int) ≤ (o.length : Int) - 1 := by omega
          have w5 : (o.length : Int) - 1 < (o.length : Int) := by omega
          have w6 : (1 : Int) ≤ (o.length : Int) := by omega
          have hqz : (q : Int) < (l.length : Int) := by omega
          clear h0 hq hd3 hy hc4 e3
          go_quiet (fail)
          go_wp2
          go_meet
          exact ⟨by rw [← hv.out], _, rfl⟩
      obtain ⟨rfl, nq, rfl⟩ := hcut
      have HO4 := Lib.hid (HO3.out.drewN nq)
      have HB4 := Lib.hid (below_drewN HB3.out nq)
      clear k3
      cases B
      case false =>
        have HFO : Hid (o = refN l (j + 1)) := Lib.hid (by rw [HST2.out]; rfl)
        go_wp2
        go_roundg (l.length - (j + 1))
        case measure => omega
        case rel => exact ⟨j + 1, by omega, by omega, by go_num, (show Own _ _ _ _ _ _ _ by rw [← HFO.out]; exact HO4.out), HB4.out⟩
      case true =>
        have HFO : Hid (o ++ [j] = refN l (j + 1)) := Lib.hid (by rw [HST2.out]; rfl)
        have hcnt : Hid (((zL o).length + 1) * 8 ≤ 140737488355328) := Lib.hid (by rw [zL_len]; omega)
        have hszj2 : wq.heap.size ≤ (w3.drewN nq).heap.size := hsz3
        go_wp2_with (at_builtin; refine wpList_push rfl _ _ 23 rfl slI rfl rfl (j : Int) rfl rfl rfl HO4.out rfl hcnt.out hszj2 ?_; intro v5 w5 ho5 hb5; obtain ⟨ao6, L6, cp6, rfl⟩ := Own.slv encI_len ho5; have HO5 := Lib.hid ho5; have HB5 := Lib.hid (HB4.out.trans hb5); clear ho5 hb5)
        go_roundg (l.length - (j + 1))
        case measure => omega
        case rel => exact ⟨j + 1, by omega, by omega, by go_num, (show Own _ _ _ _ _ _ _ by rw [← HFO.out, zL_snoc]; exact HO5.out), HB5.out⟩
  · obtain rfl : j = l.length := by omega
    have HS := Lib.hid (Own.sl OW.out encI_len)
    have HBE := Lib.hid (HB1.out.thru BW.out)
    rw [← HRL.out] at HS
    go_wp2
    go_ret2
    exact SlPost.mk rfl HS.out HBE.out
end Go.Proofs.Ytikgkgfcnciomaa

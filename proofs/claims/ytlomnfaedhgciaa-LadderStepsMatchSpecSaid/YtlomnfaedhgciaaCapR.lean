/- Capped of the reference. -/
import Derived.Test.YtlomnfaedhgciaaCapD
import Derived.Test.YtlomnfaedhgciaaRren
import Derived.Test.YtlomnfaedhgciaaCap
namespace Go.Proofs.Ytlomnfaedhgciaa
open Go.RowKit

/-- The reference's least one: -1 where none has been seen. -/
def lwI (l : List Rng) (k : Nat) : Int := if k = 0 then -1 else (lowA l k : Int)
set_option maxRecDepth 100000 in
set_option maxHeartbeats 4000000 in
theorem cappedR_any (w : World) (l : List Rng) (v : Value) (r h : Int) (hl : Sl w 4 encR v l) (hw : ∀ x, x ∈ l → WfR x) :
    Calls Try.prog 12 #[v, .int .i64 r, .int .i64 h] w (SlPost w 1 encI (capL l r h) (capF l r h)) := by
  have HC := Lib.hid (checkRenR_any w l v hl hw)
  have HF : Hid (capF l r h = if checkR l ≠ 0 then checkR l else if (outB r 0 1000000000 || outB h 1 10000) = true then 1 else 0) := Lib.hid rfl
  have HL : Hid (capL l r h = if capF l r h ≠ 0 then [] else if (fitL l r h l.length).length = 0 ∧ 0 < l.length then [(lowA l l.length : Int)] else fitL l r h l.length) := Lib.hid rfl
  have HZ := Lib.hid (fun (h : checkR l = 0) => (checkR_zero h).1)
  obtain ⟨C, hC⟩ : ∃ C, C = checkR l := ⟨_, rfl⟩
  rw [← hC] at HC HF HZ
  have HSL := Lib.hid hl
  obtain ⟨ao, cap, rfl, hcap, hmax, hnil, hel⟩ := hl
  unfold maxLen at hmax
  obtain ⟨F, hF⟩ : ∃ F, F = capF l r h := ⟨_, rfl⟩
  obtain ⟨RL, hRL⟩ : ∃ RL, RL = capL l r h := ⟨_, rfl⟩
  rw [← hF] at HF HL ⊢
  rw [← hRL] at HL ⊢
  clear hC hw hel hF hRL
  cases e1 : (C != 0)
  case true =>
    have hne : C ≠ 0 := by simpa using e1
    have hv : Hid (C = F) := Lib.hid (by rw [HF.out, if_pos hne])
    have hv2 : Hid (RL = []) := Lib.hid (by rw [HL.out, ← hv.out, if_pos hne])
    clear hne
    go_enter Try.func12, Try.ntmps12
    go_wp2_with (go_at_call 23; refine HC.out.mono ?_; rintro e w1 ⟨rfl, hb⟩)
    go_ret2
    exact SlPost.mk hv.out (by rw [hv2.out]; exact Sl.nil) hb
  obtain rfl : C = 0 := by simpa using e1
  have HF2 : Hid (F = if (outB r 0 1000000000 || outB h 1 10000) = true then 1 else 0) := Lib.hid (by rw [HF.out]; rfl)
  have hlen := HZ.out rfl
  clear e1 HF HZ
  go_enter Try.func12, Try.ntmps12
  go_upto_region 4 with (go_at_call 23; refine HC.out.mono ?_; rintro e w1 ⟨rfl, hb⟩; have HB1 := Lib.hid hb; clear hb)
  go_cut [25] (fun s25 w4 => s25 = .bool (outB r 0 1000000000 || outB h 1 10000) ∧ w1 = w4)
  case first =>
    cases o1 : outB r 0 1000000000
    case true =>
      go_wp2_with (go_at_call 27; refine (within5_any _ _ _ _).mono ?_; rintro e w' ⟨rfl, rfl⟩)
      go_meet
      exact ⟨by simp [*], rfl⟩
    case false =>
      go_wp2_with (go_at_call 27; refine (within5_any _ _ _ _).mono ?_; rintro e w' ⟨rfl, rfl⟩)
      go_meet
      exact ⟨by simp [*], rfl⟩
  obtain ⟨rfl, rfl⟩ := hcut
  generalize hO : (outB r 0 1000000000 || outB h 1 10000) = O at HF2
  clear hO
  cases O
  case true =>
    have hv : Hid (1 = F) := Lib.hid (by rw [HF2.out]; rfl)
    have hv2 : Hid (RL = []) := Lib.hid (by rw [HL.out, ← hv.out, if_pos (by decide)])
    go_wp2
    go_ret2
    exact SlPost.mk hv.out (by rw [hv2.out]; exact Sl.nil) HB1.out
  have hv : Hid (0 = F) := Lib.hid (by rw [HF2.out]; rfl)
  have hv2 : Hid (RL = if (fitL l r h l.length).length = 0 ∧ 0 < l.length then [(lowA l l.length : Int)] else fitL l r h l.length) := Lib.hid (by rw [HL.out, ← hv.out]; rfl)
  clear HF2 HL
  obtain ⟨_, _, he, _, _, _, hel⟩ := HSL.out.below HB1.out (Nat.le_refl _)
  simp only [Value.slice.injEq, true_and] at he
  obtain ⟨rfl, rfl⟩ := he
  have HEL := Lib.hid hel
  clear hel HSL
  go_wp2
  go_loopg [9, 10, 11, 12, 28] l.length (fun gg s9 s10 _ _ s28 wr => ∃ k : Nat, k ≤ l.length ∧ l.length - k ≤ gg ∧ s28 = .int .i64 k ∧ s10 = .int .i64 (lwI l k) ∧ Aside (Own wr w1.heap.size 3 1 encI s9 (fitL l r h k)) ∧ Aside (Below w1.heap.size w1 wr))
  case atStart => exact ⟨0, Nat.zero_le _, by omega, rfl, rfl, (show Own _ _ _ _ _ _ _ from Own.nil), Below.refl _ w1⟩
  case round =>
    obtain ⟨k, hk, hg, rfl, rfl, OW, BW⟩ := hrel
    have HOW := Lib.hid OW.out
    obtain ⟨oo, oL, ocap, rfl⟩ := Own.slv encI_len OW.out
    by_cases hlt : k < l.length
    · have hltz : (k : Int) < (l.length : Int) := by omega
      obtain ⟨x, hx⟩ : ∃ x, l[k]? = some x := ⟨l[k], by simp [hlt]⟩
      have hlow := lowA_le l k
      obtain ⟨q, hq⟩ : ∃ q, q = lowA l k := ⟨_, rfl⟩
      rw [← hq] at hlow
      obtain ⟨y, hy⟩ : ∃ x, l[q]? = some x := ⟨l[q]'(by omega), by simp⟩
      have hqz : (q : Int) < (l.length : Int) := by omega
      obtain ⟨b, off, hao, hc⟩ := HEL.out k x hx
      subst hao
      obtain ⟨b', off', hao', hd⟩ := HEL.out q y hy
      simp only [Option.some.injEq, Addr.mk.injEq, and_true] at hao'
      obtain ⟨rfl, rfl⟩ := hao'
      have hblt : b < w1.heap.size := World.block_lt_of_cell? w1 ⟨b, off + k * 4 + 0, none⟩ (hc 0 _ rfl)
      have c0 : wr.cell? ⟨b, off + k * 4, none⟩ = some (.string x.na) := (BW.out.cell (p := ⟨b, off + k * 4 + 0, none⟩) hblt).trans (hc 0 _ rfl)
      have c1 := (BW.out.cell (p := ⟨b, off + k * 4 + 1, none⟩) hblt).trans (hc 1 _ rfl)
      have c2 := (BW.out.cell (p := ⟨b, off + k * 4 + 2, none⟩) hblt).trans (hc 2 _ rfl)
      have c3 := (BW.out.cell (p := ⟨b, off + k * 4 + 3, none⟩) hblt).trans (hc 3 _ rfl)
      have hd2 : w1.cell? ⟨b, off + q * 4 + 2, none⟩ = some (.int .i64 y.he) := hd 2 _ rfl
      have HD2 := Lib.hid hd2
      have hszw := BW.out.size
      have hbw : b < wr.heap.size := by omega
      have HFL : Hid (fitL l r h (k + 1) = if fitB r h x then fitL l r h k ++ [(k : Int)] else fitL l r h k) := Lib.hid (by simp only [fitL, getD_of hx])
      have HLW : Hid (lowA l (k + 1) = if x.he < y.he then k else q) := Lib.hid (by simp only [lowA, ← hq, getD_of hx, getD_of hy])
      have HFB : Hid (fitB r h x = (decide (x.ra ≤ r) && decide (x.he ≤ h))) := Lib.hid rfl
      have hfl := fitL_len l r h k
      have HFN : Hid (((fitL l r h k).length + 1) * 8 ≤ 140737488355328) := Lib.hid (by omega)
      obtain ⟨fb, hfb⟩ : ∃ fb, fb = fitB r h x := ⟨_, rfl⟩
      rw [← hfb] at HFL HFB
      have HBX := Lib.hid (BW.out.alloc hszw (.cells #[.string x.na, .int .i64 x.ra, .int .i64 x.he, .int .i64 x.qu] 47))
      have HKX := Lib.hid (block_new wr (.cells #[.string x.na, .int .i64 x.ra, .int .i64 x.he, .int .i64 x.qu] 47))
      have HQ := Lib.hid hq.symm
      clear hx hy hc hd hd2 hq hfb hfl OW
      go_upto_region 11 with (fail)
      go_cut [42] (fun s42 w4 => s42 = .bool fb ∧ w4 = wr.alloc (.cells #[.string x.na, .int .i64 x.ra, .int .i64 x.he, .int .i64 x.qu] 47))
      case first =>
        by_cases h1 : x.ra ≤ r
        · have d1 : decide (x.ra ≤ r) = true := decide_eq_true h1
          have hfv : Hid (decide (x.he ≤ h) = fb) := Lib.hid (by rw [HFB.out, d1]; rfl)
          go_wp2
          go_meet
          exact ⟨by rw [← hfv.out], rfl⟩
        · have d1 : decide (x.ra ≤ r) = false := decide_eq_false h1
          have hfv : Hid (false = fb) := Lib.hid (by rw [HFB.out, d1]; rfl)
          go_wp2
          go_meet
          exact ⟨by rw [← hfv.out], rfl⟩
      obtain ⟨rfl, rfl⟩ := hcut
      go_upto_if 42 with (fail)
      go_cut [9] (fun s9 w5 => Aside (Own w5 w1.heap.size 3 1 encI s9 (fitL l r h (k + 1))) ∧ Aside (Below w1.heap.size w1 w5) ∧ Aside (w5.heap[wr.heap.size]? = some (.cells #[.string x.na, .int .i64 x.ra, .int .i64 x.he, .int .i64 x.qu] 47)))
      case first =>
        cases fb
        case false =>
          go_wp2
          go_meet
          exact ⟨by rw [HFL.out]; exact HOW.out.al _, HBX.out, HKX.out⟩
        case true =>
          go_wp2_with (at_builtin; refine wpList_pushK rfl _ _ 25 rfl slI rfl rfl (k : Int) rfl rfl rfl (HOW.out.al _) (by simp) HFN.out (Nat.le_trans hszw (Nat.le_of_lt (by simp))) ?_; intro v5 w5 ho5 hb5 hk5; obtain ⟨ao5, L5, cp5, rfl⟩ := Own.slv encI_len ho5; have HO5 := Lib.hid ho5; have HB5 := Lib.hid (HBX.out.trans hb5); have HK5 := Lib.hid (hk5 _ _ _ _ HKX.out (by decide)); clear ho5 hb5 hk5)
          go_meet
          exact ⟨by rw [HFL.out]; exact HO5.out, HB5.out, HK5.out⟩
      obtain ⟨O5, B5, K5⟩ := hcut
      have HO5 := Lib.hid O5.out
      obtain ⟨ao5, L5, cp5, rfl⟩ := Own.slv encI_len O5.out
      have x2 := (cell_of_block (i := 2) K5.out).trans rfl
      have y2 := (B5.out.cell (p := ⟨b, off + q * 4 + 2, none⟩) hblt).trans HD2.out
      have hl5 := lt_of_block K5.out
      have hb5 : b < wc.heap.size := by omega
      have HB5 := Lib.hid B5.out
      clear O5 B5 K5 c0 c1 c2 c3
      by_cases hk0 : k = 0
      · subst hk0
        have hl0 : lwI l 0 = -1 := rfl
        have HLN : Hid (lwI l (0 + 1) = ((0 : Nat) : Int)) := Lib.hid (by
          have h5 : lowA l (0 + 1) ≤ 0 := lowA_le l 1
          have h6 : lwI l (0 + 1) = (lowA l (0 + 1) : Int) := rfl
          rw [h6]; omega)
        rw [hl0]
        clear hl0
        go_wp2
        go_quiet (fail)
        go_wp2
        go_roundg (l.length - (0 + 1))
        case measure => omega
        case rel => exact ⟨0 + 1, by omega, by omega, by go_num, by rw [HLN.out], HO5.out, below_drewN HB5.out _⟩
      have hlq : lwI l k = (q : Int) := by unfold lwI; rw [if_neg hk0, HQ.out]
      rw [hlq]
      have hq0 : decide ((q : Int) < 0) = false := decide_eq_false (by omega)
      have hq1 : ¬ (q : Int) < 0 := by omega
      have HLN0 : Hid (lwI l (k + 1) = (lowA l (k + 1) : Int)) := Lib.hid rfl
      clear hlq hk0
      by_cases h4 : x.he < y.he
      · have HLN : Hid (lwI l (k + 1) = k) := Lib.hid (by rw [HLN0.out, HLW.out, if_pos h4])
        go_wp2
        go_quiet (fail)
        go_wp2
        go_roundg (l.length - (k + 1))
        case measure => omega
        case rel => exact ⟨k + 1, by omega, by omega, by go_num, by rw [HLN.out], HO5.out, below_drewN HB5.out _⟩
      · have HLN : Hid (lwI l (k + 1) = q) := Lib.hid (by rw [HLN0.out, HLW.out, if_neg h4])
        have d4 : decide (x.he < y.he) = false := decide_eq_false h4
        go_wp2
        go_quiet (fail)
        go_wp2
        go_roundg (l.length - (k + 1))
        case measure => omega
        case rel => exact ⟨k + 1, by omega, by omega, by go_num, by rw [HLN.out], HO5.out, below_drewN HB5.out _⟩
    · obtain rfl : k = l.length := by omega
      have hoL : Hid (oL = (fitL l r h l.length).length) := Lib.hid (by
        obtain ⟨_, _, h, _⟩ := Own.sl HOW.out encI_len
        simp only [Value.slice.injEq] at h
        exact h.2.1)
      obtain rfl : oL = (fitL l r h l.length).length := hoL.out
      have HBF := Lib.hid (HB1.out.thru BW.out)
      clear hoL OW
      by_cases h0 : (fitL l r h l.length).length = 0
      · rw [h0]
        by_cases h2 : 0 < l.length
        · have h2' : (0 : Int) < (l.length : Int) := by omega
          have hlw : lwI l l.length = (lowA l l.length : Int) := by unfold lwI; rw [if_neg (by omega)]
          have hlw0 : (0 : Int) ≤ (lowA l l.length : Int) := by omega
          rw [hlw]
          clear hlw
          have hv3 : Hid (RL = [(lowA l l.length : Int)]) := Lib.hid (by rw [hv2.out, if_pos ⟨h0, h2⟩])
          clear h0
          go_wp2
          go_ret2
          exact SlPost.mk hv.out (by rw [hv3.out]; exact Sl.fresh encI_len wr 3 (0, 0) [(lowA l l.length : Int)] (by simp [maxLen])) (HBF.out.alloc HBF.out.size _)
        · have hlw : lwI l l.length = -1 := by unfold lwI; rw [if_pos (by omega)]
          rw [hlw]
          clear hlw
          have hv3 : Hid (RL = fitL l r h l.length) := Lib.hid (by rw [hv2.out, if_neg (fun h => h2 h.2)])
          have HSF : Hid (Sl wr 1 encI (.slice oo 0 ocap) (fitL l r h l.length)) := Lib.hid (by have h5 := HOW.out.sl encI_len; rw [h0] at h5; exact h5)
          clear h0
          go_wp2
          go_ret2
          exact SlPost.mk hv.out (by rw [hv3.out]; exact HSF.out) HBF.out
      · have h0' : (((fitL l r h l.length).length : Int) == 0) = false := by simpa using h0
        have hv3 : Hid (RL = fitL l r h l.length) := Lib.hid (by rw [hv2.out, if_neg (fun h => h0 h.1)])
        have HSF := Lib.hid (HOW.out.sl encI_len)
        clear h0
        go_wp2
        go_ret2
        exact SlPost.mk hv.out (by rw [hv3.out]; exact HSF.out) HBF.out
end Go.Proofs.Ytlomnfaedhgciaa

/- Peak of the program. -/
import Derived.Test.YtjfjilbogpcfjaaPeak0
namespace Go.Proofs.Ytjfjilbogpcfjaa
open Go.RowKit

/-- Does a row take the place of what was found? -/
def tkB (lo : Int) (B T x y : Int) : Bool := decide (lo ≤ y) && (decide (T = 0) || decide (B * y < x * T))
theorem pkS_of {lo hi B T x y : Int} (hy : y ≤ hi) : pkS lo hi (B, T) x y = if tkB lo B T x y = true then (x, y) else (B, T) := by
  unfold pkS tkB
  by_cases h1 : lo ≤ y
  · by_cases h2 : T = 0
    · simp [h1, h2, hy]
    · by_cases h3 : B * y < x * T
      · simp [h1, h3, hy]
      · simp [h1, h2, h3, hy]
  · simp [h1]

set_option maxRecDepth 100000 in
set_option maxHeartbeats 4000000 in
theorem peak_any (w : World) (s l : List Int) (u v : Value) (c lo hi : Int) (hs : Sl w 1 encI u s) (hl : Sl w 1 encI v l) :
    Calls Try.prog 7 #[u, v, .int .i64 c, .int .i64 lo, .int .i64 hi] w (Rt3 w (pkN s l c lo hi) (pkD s l c lo hi) (pkB s l c lo hi) (pkF s l c lo hi)) := by
  have hB0 : Below w.heap.size w (w.alloc (.cells #[.int .i64 0, .int .i64 0] 24)) := (Below.refl _ _).alloc (Nat.le_refl _) _
  have hsf' := segmentsFault_any _ s l u v c (hs.below hB0 (Nat.le_refl _)) (hl.below hB0 (Nat.le_refl _))
  have hz := @segF_zero s l c
  obtain ⟨ao, cap, rfl, hcap, hmax, hnil, hel⟩ := hs
  obtain ⟨bo, cbp, rfl, hcbp, hmbx, hnbl, hem⟩ := hl
  unfold maxLen at hmax hmbx
  have hF : Hid (pkF s l c lo hi = if segF s l c ≠ 0 then segF s l c else if (outB lo 1 hi || decide (1000000000000000 < hi)) = true then 1 else if (pkA lo hi s l s.length).2 = 0 then 0 else ratF (pkA lo hi s l s.length).1.toNat (pkA lo hi s l s.length).2.toNat c.toNat) := Lib.hid rfl
  have hG : Hid (pkG s l c lo hi = (decide (segF s l c = 0) && !(outB lo 1 hi || decide (1000000000000000 < hi)) && decide ((pkA lo hi s l s.length).2 ≠ 0))) := Lib.hid rfl
  have hN : Hid (pkN s l c lo hi = if pkG s l c lo hi = true then ratN (pkA lo hi s l s.length).1.toNat (pkA lo hi s l s.length).2.toNat c.toNat else 0) := Lib.hid rfl
  have hD : Hid (pkD s l c lo hi = if pkG s l c lo hi = true then ratD (pkA lo hi s l s.length).1.toNat (pkA lo hi s l s.length).2.toNat c.toNat else 0) := Lib.hid rfl
  have hB : Hid (pkB s l c lo hi = (pkG s l c lo hi && decide (pkF s l c lo hi = 0))) := Lib.hid rfl
  generalize pkF s l c lo hi = F at hF hB ⊢
  generalize pkN s l c lo hi = N at hN ⊢
  generalize pkD s l c lo hi = D at hD ⊢
  generalize pkB s l c lo hi = B at hB ⊢
  generalize pkG s l c lo hi = G at hG hN hD hB
  generalize segF s l c = SG at hsf' hz hF hG
  have HBK := Lib.hid (block_new w (.cells #[.int .i64 0, .int .i64 0] 24))
  have HB0 := Lib.hid hB0
  clear hB0
  cases e1 : (SG != 0)
  case true =>
    have hne : SG ≠ 0 := by simpa using e1
    have hg : G = false := by rw [hG.out, decide_eq_false hne]; rfl
    have hv : Hid (0 = N ∧ 0 = D ∧ false = B ∧ SG = F) := Lib.hid ⟨by rw [hN.out, hg]; rfl, by rw [hD.out, hg]; rfl, by rw [hB.out, hg]; rfl, by rw [hF.out, if_pos hne]⟩
    clear hne hz hel hem hg
    go_enter Try.func7, Try.ntmps7
    go_wp2_with (go_at_call 13; refine hsf'.mono ?_; rintro e w1 ⟨rfl, rfl⟩)
    exact bodyPost_ret (v := .tuple #[.agg #[.int .i64 0, .int .i64 0], .bool false, .int .i64 SG]) (by simp [results, Try.results7, go_sem]) rfl (Rt3.mk hv.out.1 hv.out.2.1 hv.out.2.2.1 hv.out.2.2.2 HB0.out)
  obtain rfl : SG = 0 := by simpa using e1
  clear e1
  obtain ⟨hn1, hn2, hn3, hn4, hn5, hc0, hc1⟩ := hz rfl
  have hF2 : Hid (F = if (outB lo 1 hi || decide (1000000000000000 < hi)) = true then 1 else if (pkA lo hi s l s.length).2 = 0 then 0 else ratF (pkA lo hi s l s.length).1.toNat (pkA lo hi s l s.length).2.toNat c.toNat) := Lib.hid (by rw [hF.out]; rfl)
  have hG2 : Hid (G = (!(outB lo 1 hi || decide (1000000000000000 < hi)) && decide ((pkA lo hi s l s.length).2 ≠ 0))) := Lib.hid (by rw [hG.out]; rfl)
  clear hF hG hz
  cases o1 : outB lo 1 hi
  case true =>
    have hg : G = false := by rw [hG2.out, o1]; rfl
    have hv : Hid (0 = N ∧ 0 = D ∧ false = B ∧ 1 = F) := Lib.hid ⟨by rw [hN.out, hg]; rfl, by rw [hD.out, hg]; rfl, by rw [hB.out, hg]; rfl, by rw [hF2.out, o1]; rfl⟩
    clear hel hem hg hn3 hn4 hn5
    go_enter Try.func7, Try.ntmps7
    go_wp2_with (first | (go_at_call 13; refine hsf'.mono ?_; rintro e w1 ⟨rfl, rfl⟩) | (go_at_call 18; refine (out_any _ _ _ _).mono ?_; rintro e w' ⟨rfl, rfl⟩))
    exact bodyPost_ret (v := .tuple #[.agg #[.int .i64 0, .int .i64 0], .bool false, .int .i64 1]) (by simp [results, Try.results7, go_sem]) rfl (Rt3.mk hv.out.1 hv.out.2.1 hv.out.2.2.1 hv.out.2.2.2 HB0.out)
  obtain ⟨hlo1, hlo2⟩ := outB_no o1
  by_cases hbig : 1000000000000000 < hi
  · have hg : G = false := by rw [hG2.out, decide_eq_true hbig]; simp
    have hv : Hid (0 = N ∧ 0 = D ∧ false = B ∧ 1 = F) := Lib.hid ⟨by rw [hN.out, hg]; rfl, by rw [hD.out, hg]; rfl, by rw [hB.out, hg]; rfl, by rw [hF2.out, decide_eq_true hbig]; simp⟩
    clear hel hem hg hn3 hn4 hn5
    go_enter Try.func7, Try.ntmps7
    go_wp2_with (first | (go_at_call 13; refine hsf'.mono ?_; rintro e w1 ⟨rfl, rfl⟩) | (go_at_call 18; refine (out_any _ _ _ _).mono ?_; rintro e w' ⟨rfl, rfl⟩))
    exact bodyPost_ret (v := .tuple #[.agg #[.int .i64 0, .int .i64 0], .bool false, .int .i64 1]) (by simp [results, Try.results7, go_sem]) rfl (Rt3.mk hv.out.1 hv.out.2.1 hv.out.2.2.1 hv.out.2.2.2 HB0.out)
  have hF3 : Hid (F = if (pkA lo hi s l s.length).2 = 0 then 0 else ratF (pkA lo hi s l s.length).1.toNat (pkA lo hi s l s.length).2.toNat c.toNat) := Lib.hid (by rw [hF2.out, o1, decide_eq_false hbig]; rfl)
  have hG3 : Hid (G = decide ((pkA lo hi s l s.length).2 ≠ 0)) := Lib.hid (by rw [hG2.out, o1, decide_eq_false hbig]; rfl)
  have hhi : hi ≤ 1000000000000000 := by omega
  have H3 := Lib.hid hn3
  have H4 := Lib.hid hn4
  have H5 := Lib.hid hn5
  have hll : (s.length : Int) ≤ (l.length : Int) := by omega
  have HEL := Lib.hid hel
  have HEM := Lib.hid hem
  have hok := Lib.hid (fun n => pkA_ok (lo := lo) (hi := hi) hn4 hn5 hn2 n)
  clear hF2 hG2 hn3 hn4 hn5 hel hem hbig
  go_enter Try.func7, Try.ntmps7
  go_wp2_with (first | (go_at_call 13; refine hsf'.mono ?_; rintro e w1 ⟨rfl, rfl⟩) | (go_at_call 18; refine (out_any _ _ _ _).mono ?_; rintro e w' ⟨rfl, rfl⟩))
  obtain ⟨w1, hw1⟩ : ∃ w1, w1 = w.alloc (.cells #[.int .i64 0, .int .i64 0] 24) := ⟨_, rfl⟩
  have HB1 : Hid (Below w.heap.size w w1) := Lib.hid (by rw [hw1]; exact HB0.out)
  have HK1 : Hid (w1.heap[w.heap.size]? = some (.cells #[.int .i64 0, .int .i64 0] 24 (0, 0))) := Lib.hid (by rw [hw1]; exact HBK.out)
  rw [← hw1]
  clear hw1 hsf'
  go_loopg [14, 15, 16, 17, 18, 19, 40] s.length (fun gg s14 s15 _ _ _ _ s40 wr => ∃ (i : Nat) (p q : Int), i ≤ s.length ∧ s.length - i ≤ gg ∧ s40 = .int .i64 i ∧ s14 = .int .i64 p ∧ s15 = .int .i64 q ∧ Aside ((p, q) = pkA lo hi s l i) ∧ Aside (Below w1.heap.size w1 wr))
  case atStart => exact ⟨0, 0, 0, Nat.zero_le _, by omega, rfl, rfl, rfl, (show Aside _ from rfl), Below.refl _ _⟩
  case round =>
    obtain ⟨i, p, q, hi0, hgi, rfl, rfl, rfl, A, BW⟩ := hrel
    by_cases hlt : i < s.length
    · have hltz : (i : Int) < (s.length : Int) := by omega
      obtain ⟨wo, rfl⟩ : ∃ wo : World, wo = wr := ⟨_, rfl⟩
      go_wp2
      go_loopg [14, 15, 17, 18, 19] (s.length - i) (fun gg s14 s15 s17 s18 s19 wr => ∃ (m : Nat) (p q x y : Int), i + m ≤ s.length ∧ s.length - i - m ≤ gg ∧ s19 = .int .i64 ((i + m : Nat) : Int) ∧ s14 = .int .i64 p ∧ s15 = .int .i64 q ∧ s17 = .int .i64 x ∧ s18 = .int .i64 y ∧ Aside ((p, q) = pkI lo hi s l i m (pkA lo hi s l i)) ∧ Aside (x = rowS s i m) ∧ Aside (y = rowS l i m) ∧ Aside (Below w1.heap.size w1 wr))
      case atStart => exact ⟨0, p, q, 0, 0, by omega, by omega, by simp, rfl, rfl, rfl, rfl, (show Aside _ from A.out), (show Aside _ from rfl), (show Aside _ from rfl), BW.out⟩
      obtain ⟨m, p', q', x, y, him, hgm, rfl, rfl, rfl, rfl, rfl, PQ, X, Y, BI⟩ := hrel
      by_cases hlm : i + m < s.length
      · have hlmz : ((i + m : Nat) : Int) < (s.length : Int) := by omega
        have hlmz2 : ((i + m : Nat) : Int) < (l.length : Int) := by omega
        obtain ⟨a, ha⟩ : ∃ z, s[i + m]? = some z := ⟨s[i + m], by simp [hlm]⟩
        obtain ⟨b, hb⟩ : ∃ z, l[i + m]? = some z := ⟨l[i + m]'(by have := H3.out; omega), by simp⟩
        obtain ⟨b1, o1', hao, hc⟩ := HEL.out (i + m) a ha
        obtain ⟨b2, o2', hao2, hd⟩ := HEM.out (i + m) b hb
        subst hao hao2
        have hlt1 := World.block_lt_of_cell? w ⟨b1, o1' + (i + m) * 1 + 0, none⟩ (hc 0 _ rfl)
        have hlt2 := World.block_lt_of_cell? w ⟨b2, o2' + (i + m) * 1 + 0, none⟩ (hd 0 _ rfl)
        have c0 : wr.cell? ⟨b1, o1' + (i + m), none⟩ = some (.int .i64 a) := by
          have h := (BI.out.cell (p := ⟨b1, o1' + (i + m) * 1 + 0, none⟩) (Nat.lt_of_lt_of_le hlt1 HB1.out.size)).trans ((HB1.out.cell (p := ⟨b1, o1' + (i + m) * 1 + 0, none⟩) hlt1).trans (hc 0 _ rfl))
          simpa using h
        have d0 : wr.cell? ⟨b2, o2' + (i + m), none⟩ = some (.int .i64 b) := by
          have h := (BI.out.cell (p := ⟨b2, o2' + (i + m) * 1 + 0, none⟩) (Nat.lt_of_lt_of_le hlt2 HB1.out.size)).trans ((HB1.out.cell (p := ⟨b2, o2' + (i + m) * 1 + 0, none⟩) hlt2).trans (hd 0 _ rfl))
          simpa using h
        have hx' : Hid (x + a = rowS s i (m + 1)) := Lib.hid (by rw [rowS_succ ha, X.out])
        have hy' : Hid (y + b = rowS l i (m + 1)) := Lib.hid (by rw [rowS_succ hb, Y.out])
        have hxb := rowS_bd H4.out (by omega) i (m + 1) (by omega)
        have hyb := rowS_bd H5.out (by omega) i (m + 1) (by omega)
        have hxb0 := rowS_bd H4.out (by omega) i m (by omega)
        have hyb0 := rowS_bd H5.out (by omega) i m (by omega)
        rw [← hx'.out] at hxb
        rw [← hy'.out] at hyb
        rw [← X.out] at hxb0
        rw [← Y.out] at hyb0
        have hpo := pkI_ok (lo := lo) (hi := hi) H4.out H5.out i (hok.out i) m (by omega)
        rw [← PQ.out] at hpo
        obtain ⟨hp0, hp1, hq0, hq1⟩ := hpo
        simp only at hp0 hp1 hq0 hq1
        obtain ⟨_, hxb1, hxb2⟩ := hxb
        obtain ⟨_, hyb1, hyb2⟩ := hyb
        obtain ⟨_, hxb3, hxb4⟩ := hxb0
        obtain ⟨_, hyb3, hyb4⟩ := hyb0
        have ha' := H4.out a (List.mem_of_getElem? ha)
        have hb' := H5.out b (List.mem_of_getElem? hb)
        obtain ⟨ha0, ha1⟩ := ha'
        obtain ⟨hb0, hb1⟩ := hb'
        have hst : Hid (pkI lo hi s l i (m + 1) (pkA lo hi s l i) = pkS lo hi (p', q') (x + a) (y + b)) := Lib.hid (by rw [pkI, ← PQ.out, hx'.out, hy'.out])
        have hstop := Lib.hid (fun h d => pkI_stop (lo := lo) (s := s) (st := pkA lo hi s l i) (i := i) (m := m) (hi := hi) H5.out h d)
        obtain ⟨x', hxe⟩ : ∃ z, z = x + a := ⟨_, rfl⟩
        obtain ⟨y', hye⟩ : ∃ z, z = y + b := ⟨_, rfl⟩
        have hcmp := fun (W : World) => wcmp_int x' y' p' q' W (by omega) (by omega) (by omega) (by omega)
        rw [hxe, hye] at hcmp
        have HCMP := Lib.hid hcmp
        clear ha hb hc hd hxe hye hcmp
        by_cases hgt : hi < y + b
        · have hpk : Hid ((p', q') = pkA lo hi s l (i + 1)) := Lib.hid (by
            rw [pkA, show s.length - i = m + (s.length - i - m) by omega, hstop.out (by rw [← hy'.out]; exact hgt), ← PQ.out])
          go_wp2
          go_roundg (s.length - (i + 1))
          case measure => omega
          case rel => exact ⟨i + 1, p', q', by omega, by omega, by go_num, rfl, rfl, (show Aside _ from hpk.out), BI.out⟩
        · have hst2 : Hid (pkI lo hi s l i (m + 1) (pkA lo hi s l i) = if tkB lo p' q' (x + a) (y + b) = true then (x + a, y + b) else (p', q')) := Lib.hid (by rw [hst.out, pkS_of (by omega)])
          go_upto_region 17 with (fail)
          go_cut [79] (fun s79 w4 => s79 = .bool (tkB lo p' q' (x + a) (y + b)) ∧ Below wr.heap.size wr w4)
          case first =>
            have htk : Hid (tkB lo p' q' (x + a) (y + b) = (decide (lo ≤ y + b) && (decide (q' = 0) || decide (p' * (y + b) < (x + a) * q')))) := Lib.hid rfl
            by_cases h1 : lo ≤ y + b
            · by_cases h2 : q' = 0
              · have e1 : (q' == 0) = true := by simp [h2]
                have hv : Hid (tkB lo p' q' (x + a) (y + b) = true) := Lib.hid (by rw [htk.out, decide_eq_true h1, decide_eq_true h2]; rfl)
                clear h2
                go_wp2
                go_meet
                exact ⟨by rw [hv.out], Below.refl _ _⟩
              · have e1 : (q' == 0) = false := by simpa using h2
                have hv : Hid (tkB lo p' q' (x + a) (y + b) = decide (0 < sgn ((x + a) * q') (p' * (y + b)))) := Lib.hid (by
                  rw [htk.out, decide_eq_true h1, decide_eq_false h2]
                  simp only [Bool.true_and, Bool.false_or]
                  rw [decide_eq_decide]
                  unfold sgn
                  constructor
                  · intro h; rw [if_neg (by omega), if_pos h]; decide
                  · intro h
                    rcases Int.lt_trichotomy (p' * (y + b)) ((x + a) * q') with h3 | h3 | h3
                    · exact h3
                    · rw [if_neg (by omega), if_neg (by omega)] at h; simp at h
                    · rw [if_pos h3] at h; simp at h)
                have hc1 := HCMP.out wr
                generalize sgn ((x + a) * q') (p' * (y + b)) = SGN at hv hc1
                clear h2
                go_wp2_with (go_at_call 19; ((with_reducible refine hc1.mono ?_); rintro e w5 ⟨rfl, hb5⟩))
                go_meet
                exact ⟨by rw [hv.out], hb5⟩
            · have hv : Hid (tkB lo p' q' (x + a) (y + b) = false) := Lib.hid (by rw [htk.out, decide_eq_false h1]; rfl)
              have h1' : decide (lo ≤ y + b) = false := decide_eq_false h1
              go_wp2
              go_meet
              exact ⟨by rw [hv.out], Below.refl _ _⟩
          obtain ⟨rfl, hb4⟩ := hcut
          have HB4 := Lib.hid (BI.out.thru hb4)
          clear hb4
          cases hT : tkB lo p' q' (x + a) (y + b)
          case true =>
            have hpk : Hid ((x + a, y + b) = pkI lo hi s l i (m + 1) (pkA lo hi s l i)) := Lib.hid (by rw [hst2.out, hT]; rfl)
            clear hT
            go_wp2
            go_roundg (s.length - i - (m + 1))
            case measure => omega
            case rel => exact ⟨m + 1, x + a, y + b, x + a, y + b, by omega, by omega, by go_num, rfl, rfl, rfl, rfl, (show Aside _ from hpk.out), (show Aside _ from hx'.out), (show Aside _ from hy'.out), HB4.out⟩
          case false =>
            have hpk : Hid ((p', q') = pkI lo hi s l i (m + 1) (pkA lo hi s l i)) := Lib.hid (by rw [hst2.out, hT]; rfl)
            clear hT
            go_wp2
            go_roundg (s.length - i - (m + 1))
            case measure => omega
            case rel => exact ⟨m + 1, p', q', x + a, y + b, by omega, by omega, by go_num, rfl, rfl, rfl, rfl, (show Aside _ from hpk.out), (show Aside _ from hx'.out), (show Aside _ from hy'.out), HB4.out⟩
      · have hml : Hid ((p', q') = pkA lo hi s l (i + 1)) := Lib.hid (by rw [pkA, show s.length - i = m by omega]; exact PQ.out)
        have hlmz : ¬ ((i + m : Nat) : Int) < (s.length : Int) := by omega
        go_wp2
        go_roundg (s.length - (i + 1))
        case measure => omega
        case rel => exact ⟨i + 1, p', q', by omega, by omega, by go_num, rfl, rfl, (show Aside _ from hml.out), BI.out⟩
    · obtain rfl : i = s.length := by omega
      have hpo := hok.out s.length
      rw [← A.out] at hpo
      obtain ⟨hp0, hp1, hq0, hq1⟩ := hpo
      simp only at hp0 hp1 hq0 hq1
      have hA := A.out
      have HK2 := Lib.hid ((BW.out.block w.heap.size (lt_of_block HK1.out)).trans HK1.out)
      have c0 := (cell_of_block (i := 0) HK2.out).trans rfl
      have c1 := (cell_of_block (i := 1) HK2.out).trans rfl
      have f0 := froz_of_block (i := 0) HK2.out
      have f1 := froz_of_block (i := 1) HK2.out
      have hltw := lt_of_block HK2.out
      have HBR := Lib.hid (HB1.out.thru BW.out)
      by_cases hq : q = 0
      · have hg : G = false := by rw [hG3.out, ← hA]; simp [hq]
        have hv : Hid (0 = N ∧ 0 = D ∧ false = B ∧ 0 = F) := Lib.hid ⟨by rw [hN.out, hg]; rfl, by rw [hD.out, hg]; rfl, by rw [hB.out, hg]; rfl, by rw [hF3.out, ← hA, if_pos hq]⟩
        have e1 : (q == 0) = true := by simp [hq]
        clear hq hg hA
        go_wp2
        exact bodyPost_ret (v := .tuple #[.agg #[.int .i64 0, .int .i64 0], .bool false, .int .i64 0]) (by simp [results, Try.results7, go_sem, c0, c1]) rfl (Rt3.mk hv.out.1 hv.out.2.1 hv.out.2.2.1 hv.out.2.2.2 ((HBR.out.setCell (Nat.le_refl _) _).setCell (Nat.le_refl _) _))
      · have hg : G = true := by rw [hG3.out, ← hA]; simp [hq]
        have e1 : (q == 0) = false := by simpa using hq
        have hF4 : F = ratF p.toNat q.toNat c.toNat := by rw [hF3.out, ← hA, if_neg hq]
        have hN4 : N = ratN p.toNat q.toNat c.toNat := by rw [hN.out, hg, if_pos rfl, ← hA]
        have hD4 : D = ratD p.toNat q.toNat c.toNat := by rw [hD.out, hg, if_pos rfl, ← hA]
        have hB4 : B = decide (F = 0) := by rw [hB.out, hg]; rfl
        have hr := rateOf_any p.toNat q.toNat c.toNat wr (by omega) (by omega) (by omega) (by omega) (by omega)
        rw [← hF4, ← hN4, ← hD4, Int.toNat_of_nonneg hp0, Int.toNat_of_nonneg hq0, Int.toNat_of_nonneg (show 0 ≤ c by omega)] at hr
        unfold RtP at hr
        have HR := Lib.hid hr
        have HB4 := Lib.hid hB4
        clear hq hg hA hF4 hN4 hD4 hB4 hr c0 c1 f0 f1
        cases eF : (F == 0)
        all_goals
          have hBv : Hid (B = _) := Lib.hid (HB4.out.trans (show decide (F = 0) = (F == 0) from rfl))
          go_wp2_with (go_at_call 14; refine HR.out.mono ?_; rintro e w2 ⟨rfl, hb2⟩; have hK2 := (hb2.block w.heap.size hltw).trans HK2.out; have c0 := (cell_of_block (i := 0) hK2).trans rfl; have c1 := (cell_of_block (i := 1) hK2).trans rfl; have f0 := froz_of_block (i := 0) hK2; have f1 := froz_of_block (i := 1) hK2; have hlt2 := lt_of_block hK2; have HB2 := Lib.hid (HBR.out.thru hb2); clear hb2 hK2)
          exact bodyPost_ret (v := .tuple #[.agg #[.int .i64 N, .int .i64 D], .bool B, .int .i64 F]) (by simp [results, Try.results7, go_sem, c0, c1, hlt2, hBv.out, eF]) rfl (Rt3.mk rfl rfl rfl rfl (((HB2.out.setCell (Nat.le_refl _) _).setCell (Nat.le_refl _) _).alloc (by simp; omega) _))
end Go.Proofs.Ytjfjilbogpcfjaa

/- Peak of the reference. -/
import Derived.Test.YtjfjilbogpcfjaaPeak1
namespace Go.Proofs.Ytjfjilbogpcfjaa
open Go.RowKit

/-- A part of a slice reads as a part of the list. -/
theorem Sl.part {w : World} {b off cap n : Nat} {s : List Int} (h : Sl w 1 encI (.slice (some ⟨b, off, none⟩) n cap) s) (hn : n = s.length) {i m : Nat} (hi : i + m ≤ s.length) : Sl w 1 encI (.slice (some ⟨b, off + i, none⟩) m (cap - i)) ((s.drop i).take m) := by
  subst hn
  obtain ⟨ao, cap', h1, h2, h3, h4, h5⟩ := h
  simp only [Value.slice.injEq, true_and] at h1
  obtain ⟨rfl, rfl⟩ := h1
  have hl : ((s.drop i).take m).length = m := by simp; omega
  refine ⟨_, _, by rw [hl], by rw [hl]; omega, by omega, fun e => by simp at e, fun j x hx => ⟨b, off + i, rfl, fun q u hu => ?_⟩⟩
  rw [List.getElem?_take] at hx
  split at hx
  · rw [List.getElem?_drop] at hx
    obtain ⟨b', off', ha, hc⟩ := h5 (i + j) x hx
    simp only [Option.some.injEq, Addr.mk.injEq, and_true] at ha
    obtain ⟨rfl, rfl⟩ := ha
    have := hc q u hu
    rw [← this]
    congr 2
    omega
  · simp at hx

def rB (st : Int × Int) : Int := if st.2 = 0 then -1 else st.1
def rT (st : Int × Int) : Int := if st.2 = 0 then 1 else st.2
def tkR (lo hi : Int) (st : Int × Int) (x y : Int) : Bool := (!outB y lo hi) && (decide (rB st < 0) || decide (rB st * y < x * rT st))
theorem pkS_R {lo hi : Int} {st : Int × Int} {x y : Int} (h0 : 0 ≤ st.1) : pkS lo hi st x y = if tkR lo hi st x y = true then (x, y) else st := by
  unfold pkS tkR rB rT
  by_cases h1 : lo ≤ y ∧ y ≤ hi
  · have ho : outB y lo hi = false := by simp [outB]; omega
    rw [ho]
    by_cases h2 : st.2 = 0
    · simp [h1, h2]
    · by_cases h3 : st.1 * y < x * st.2
      · simp [h1, h2, h3]
      · have h4 : ¬ st.1 < 0 := by omega
        simp [h1, h2, h3, h4]
  · have ho : outB y lo hi = true := by simp [outB]; omega
    rw [ho, if_neg (by rintro ⟨a, b, _⟩; exact h1 ⟨a, b⟩)]
    simp

set_option maxRecDepth 100000 in
set_option maxHeartbeats 4000000 in
theorem peakR_any (w : World) (s l : List Int) (u v : Value) (c lo hi : Int) (hs : Sl w 1 encI u s) (hl : Sl w 1 encI v l) :
    Calls Try.prog 8 #[u, v, .int .i64 c, .int .i64 lo, .int .i64 hi] w (Rt3 w (pkN s l c lo hi) (pkD s l c lo hi) (pkB s l c lo hi) (pkF s l c lo hi)) := by
  have hB0 : Below w.heap.size w (w.alloc (.cells #[.int .i64 0, .int .i64 0] 24)) := (Below.refl _ _).alloc (Nat.le_refl _) _
  have hsf' := checkSegments_any _ s l u v c (hs.below hB0 (Nat.le_refl _)) (hl.below hB0 (Nat.le_refl _))
  have hz := @segF_zero s l c
  have HSS := Lib.hid hs
  have HSL := Lib.hid hl
  obtain ⟨ao, cap, rfl, hcap, hmax, hnil, hel⟩ := hs
  obtain ⟨bo, cbp, rfl, hcbp, hmbx, hnbl, hem⟩ := hl
  unfold maxLen at hmax hmbx
  have hF : Hid (pkF s l c lo hi = if segF s l c ≠ 0 then segF s l c else if (outB lo 1 hi || decide (1000000000000000 < hi)) = true then 1 else if (pkA lo hi s l s.length).2 = 0 then 0 else ratF (pkA lo hi s l s.length).1.toNat (pkA lo hi s l s.length).2.toNat c.toNat) := Lib.hid rfl
  have hG : Hid (pkG s l c lo hi = (decide (segF s l c = 0) && !(outB lo 1 hi || decide (1000000000000000 < hi)) && decide ((pkA lo hi s l s.length).2 ≠ 0))) := Lib.hid rfl
  have hN : Hid (pkN s l c lo hi = if pkG s l c lo hi = true then ratN (pkA lo hi s l s.length).1.toNat (pkA lo hi s l s.length).2.toNat c.toNat else 0) := Lib.hid rfl
  have hD : Hid (pkD s l c lo hi = if pkG s l c lo hi = true then ratD (pkA lo hi s l s.length).1.toNat (pkA lo hi s l s.length).2.toNat c.toNat else 0) := Lib.hid rfl
  have hB : Hid (pkB s l c lo hi = (pkG s l c lo hi && decide (pkF s l c lo hi = 0))) := Lib.hid rfl
  generalize pkF s l c lo hi = F at hF hB ⊢
  generalize pkN s l c lo hi = N at hN ⊢
  generalize pkD s l c lo hi = D at hD ⊢
  generalize pkB s l c lo hi = B at hB ⊢
  generalize pkG s l c lo hi = G at hG hN hD hB
  generalize segF s l c = SG at hsf' hz hF hG
  have HBK := Lib.hid (block_new w (.cells #[.int .i64 0, .int .i64 0] 24))
  have HB0 := Lib.hid hB0
  clear hB0
  cases e1 : (SG != 0)
  case true =>
    have hne : SG ≠ 0 := by simpa using e1
    have hg : G = false := by rw [hG.out, decide_eq_false hne]; rfl
    have hv : Hid (0 = N ∧ 0 = D ∧ false = B ∧ SG = F) := Lib.hid ⟨by rw [hN.out, hg]; rfl, by rw [hD.out, hg]; rfl, by rw [hB.out, hg]; rfl, by rw [hF.out, if_pos hne]⟩
    clear hne hz hel hem hg
    go_enter Try.func8, Try.ntmps8
    go_wp2_with (go_at_call 15; refine hsf'.mono ?_; rintro e w1 ⟨rfl, rfl⟩)
    exact bodyPost_ret (v := .tuple #[.agg #[.int .i64 0, .int .i64 0], .bool false, .int .i64 SG]) (by simp [results, Try.results8, go_sem]) rfl (Rt3.mk hv.out.1 hv.out.2.1 hv.out.2.2.1 hv.out.2.2.2 HB0.out)
  obtain rfl : SG = 0 := by simpa using e1
  clear e1
  obtain ⟨hn1, hn2, hn3, hn4, hn5, hc0, hc1⟩ := hz rfl
  have hF2 : Hid (F = if (outB lo 1 hi || decide (1000000000000000 < hi)) = true then 1 else if (pkA lo hi s l s.length).2 = 0 then 0 else ratF (pkA lo hi s l s.length).1.toNat (pkA lo hi s l s.length).2.toNat c.toNat) := Lib.hid (by rw [hF.out]; rfl)
  have hG2 : Hid (G = (!(outB lo 1 hi || decide (1000000000000000 < hi)) && decide ((pkA lo hi s l s.length).2 ≠ 0))) := Lib.hid (by rw [hG.out]; rfl)
  clear hF hG hz
  cases o1 : outB lo 1 hi
  case true =>
    have hg : G = false := by rw [hG2.out, o1]; rfl
    have hv : Hid (0 = N ∧ 0 = D ∧ false = B ∧ 1 = F) := Lib.hid ⟨by rw [hN.out, hg]; rfl, by rw [hD.out, hg]; rfl, by rw [hB.out, hg]; rfl, by rw [hF2.out, o1]; rfl⟩
    clear hel hem hg hn3 hn4 hn5
    go_enter Try.func8, Try.ntmps8
    go_wp2_with (first | (go_at_call 15; refine hsf'.mono ?_; rintro e w1 ⟨rfl, rfl⟩) | (go_at_call 20; refine (within5_any _ _ _ _).mono ?_; rintro e w' ⟨rfl, rfl⟩))
    exact bodyPost_ret (v := .tuple #[.agg #[.int .i64 0, .int .i64 0], .bool false, .int .i64 1]) (by simp [results, Try.results8, go_sem]) rfl (Rt3.mk hv.out.1 hv.out.2.1 hv.out.2.2.1 hv.out.2.2.2 HB0.out)
  obtain ⟨hlo1, hlo2⟩ := outB_no o1
  by_cases hbig : 1000000000000000 < hi
  · have hg : G = false := by rw [hG2.out, decide_eq_true hbig]; simp
    have hv : Hid (0 = N ∧ 0 = D ∧ false = B ∧ 1 = F) := Lib.hid ⟨by rw [hN.out, hg]; rfl, by rw [hD.out, hg]; rfl, by rw [hB.out, hg]; rfl, by rw [hF2.out, decide_eq_true hbig]; simp⟩
    clear hel hem hg hn3 hn4 hn5
    go_enter Try.func8, Try.ntmps8
    go_wp2_with (first | (go_at_call 15; refine hsf'.mono ?_; rintro e w1 ⟨rfl, rfl⟩) | (go_at_call 20; refine (within5_any _ _ _ _).mono ?_; rintro e w' ⟨rfl, rfl⟩))
    exact bodyPost_ret (v := .tuple #[.agg #[.int .i64 0, .int .i64 0], .bool false, .int .i64 1]) (by simp [results, Try.results8, go_sem]) rfl (Rt3.mk hv.out.1 hv.out.2.1 hv.out.2.2.1 hv.out.2.2.2 HB0.out)
  have hF3 : Hid (F = if (pkA lo hi s l s.length).2 = 0 then 0 else ratF (pkA lo hi s l s.length).1.toNat (pkA lo hi s l s.length).2.toNat c.toNat) := Lib.hid (by rw [hF2.out, o1, decide_eq_false hbig]; rfl)
  have hG3 : Hid (G = decide ((pkA lo hi s l s.length).2 ≠ 0)) := Lib.hid (by rw [hG2.out, o1, decide_eq_false hbig]; rfl)
  have hhi : hi ≤ 1000000000000000 := by omega
  have H3 := Lib.hid hn3
  have H4 := Lib.hid hn4
  have H5 := Lib.hid hn5
  have hll : (s.length : Int) ≤ (l.length : Int) := by omega
  have HEL := Lib.hid hel
  have HEM := Lib.hid hem
  have hok := Lib.hid (fun n => pkA_ok (lo := lo) (hi := hi) hn4 hn5 hn2 n)
  clear hF2 hG2 hn3 hn4 hn5 hel hem hbig
  go_enter Try.func8, Try.ntmps8
  go_wp2_with (first | (go_at_call 15; refine hsf'.mono ?_; rintro e w1 ⟨rfl, rfl⟩) | (go_at_call 20; refine (within5_any _ _ _ _).mono ?_; rintro e w' ⟨rfl, rfl⟩))
  obtain ⟨w1, hw1⟩ : ∃ w1, w1 = w.alloc (.cells #[.int .i64 0, .int .i64 0] 24) := ⟨_, rfl⟩
  have HB1 : Hid (Below w.heap.size w w1) := Lib.hid (by rw [hw1]; exact HB0.out)
  have HK1 : Hid (w1.heap[w.heap.size]? = some (.cells #[.int .i64 0, .int .i64 0] 24 (0, 0))) := Lib.hid (by rw [hw1]; exact HBK.out)
  rw [← hw1]
  clear hw1 hsf'
  have HS1 := Lib.hid (HSS.out.below HB1.out (Nat.le_refl _))
  have HL1 := Lib.hid (HSL.out.below HB1.out (Nat.le_refl _))
  obtain ⟨x0, hx0⟩ : ∃ z, s[0]? = some z := ⟨s[0]'(by omega), by simp⟩
  obtain ⟨y0, hy0⟩ : ∃ z, l[0]? = some z := ⟨l[0]'(by have := H3.out; omega), by simp⟩
  obtain ⟨b1, o1', hao, _⟩ := HEL.out 0 x0 hx0
  obtain ⟨b2, o2', hao2, _⟩ := HEM.out 0 y0 hy0
  subst hao hao2
  clear hx0 hy0 HEL HEM HSS HSL
  go_loopg [14, 15, 16, 17, 18, 19, 41] s.length (fun gg s14 s15 _ _ _ _ s41 wr => ∃ (i : Nat) (p q : Int), i ≤ s.length ∧ s.length - i ≤ gg ∧ s41 = .int .i64 i ∧ s14 = .int .i64 (rB (p, q)) ∧ s15 = .int .i64 (rT (p, q)) ∧ Aside ((p, q) = pkA lo hi s l i) ∧ Aside (Below w1.heap.size w1 wr))
  case atStart => exact ⟨0, 0, 0, Nat.zero_le _, by omega, rfl, rfl, rfl, (show Aside _ from rfl), Below.refl _ _⟩
  case round =>
    obtain ⟨i, p, q, hi0, hgi, rfl, rfl, rfl, A, BW⟩ := hrel
    by_cases hlt : i < s.length
    · have hltz : (i : Int) < (s.length : Int) := by omega
      obtain ⟨wo, rfl⟩ : ∃ wo : World, wo = wr := ⟨_, rfl⟩
      go_wp2
      go_loopg [14, 15, 17, 18, 19] (s.length - i) (fun gg s14 s15 s17 _ _ wr => ∃ (m k : Nat) (st : Int × Int), i + m ≤ s.length ∧ s.length - i - m ≤ gg ∧ i + 1 ≤ k ∧ k ≤ s.length + 1 ∧ Aside (k = i + m + 1) ∧ s17 = .int .i64 (k : Int) ∧ s14 = .int .i64 (rB st) ∧ s15 = .int .i64 (rT st) ∧ Aside (st = pkI lo hi s l i m (pkA lo hi s l i)) ∧ Aside (Below w1.heap.size w1 wr))
      case atStart => exact ⟨0, i + 1, (p, q), by omega, by omega, by omega, by omega, (show Aside _ from rfl), by simp, rfl, rfl, (show Aside _ from A.out), BW.out⟩
      obtain ⟨m, k, st, him, hgm, hk1, hk2, K, rfl, rfl, rfl, PQ, BI⟩ := hrel
      by_cases hlm : i + m < s.length
      · have hK := K.out
        have hlmz : (k : Int) ≤ (s.length : Int) := by omega
        have hlmz2 : (k : Int) ≤ (l.length : Int) := by omega
        have hlmz3 : (k : Int) ≤ (cap : Int) := by omega
        have hlmz4 : (k : Int) ≤ (cbp : Int) := by omega
        have hlmz5 : (i : Int) ≤ (k : Int) := by omega
        have hlmz6 : ¬ cap = i := by omega
        have hlmz7 : ¬ cbp = i := by omega
        have hxb := rowS_bd H4.out (by omega) i (m + 1) (by omega)
        have hyb := rowS_bd H5.out (by omega) i (m + 1) (by omega)
        have hpo := pkI_ok (lo := lo) (hi := hi) H4.out H5.out i (hok.out i) m (by omega)
        rw [← PQ.out] at hpo
        have hyp : 1 ≤ rowS l i (m + 1) := by
          have h1 : 1 ≤ (m + 1).min (l.length - i) := Nat.le_min.2 ⟨by omega, by have := H3.out; omega⟩
          have := hyb.1
          omega
        have hst : Hid (pkI lo hi s l i (m + 1) (pkA lo hi s l i) = if tkR lo hi st (rowS s i (m + 1)) (rowS l i (m + 1)) = true then (rowS s i (m + 1), rowS l i (m + 1)) else st) := Lib.hid (by rw [pkI, ← PQ.out, pkS_R hpo.1])
        have hsum1 := fun (W : World) (h : Below w1.heap.size w1 W) => sum_any W ((s.drop i).take (m + 1)) _ ((HS1.out.below h (Nat.le_refl _)).part rfl (i := i) (m := m + 1) (by omega)) (fun x hx => H4.out x (List.mem_of_mem_drop (List.mem_of_mem_take hx))) (by simp; omega)
        have hsum2 := fun (W : World) (h : Below w1.heap.size w1 W) => sum_any W ((l.drop i).take (m + 1)) _ ((HL1.out.below h (Nat.le_refl _)).part rfl (i := i) (m := m + 1) (by have := H3.out; omega)) (fun x hx => by have := H5.out x (List.mem_of_mem_drop (List.mem_of_mem_take hx)); omega) (by simp; omega)
        rw [show sumI ((s.drop i).take (m + 1)) = rowS s i (m + 1) from rfl] at hsum1
        rw [show sumI ((l.drop i).take (m + 1)) = rowS l i (m + 1) from rfl] at hsum2
        rw [show m + 1 = k - i by omega] at hsum1 hsum2
        rw [show rowS s i (k - i) = rowS s i (m + 1) by congr 1; omega] at hsum1
        rw [show rowS l i (k - i) = rowS l i (m + 1) by congr 1; omega] at hsum2
        obtain ⟨x, hx⟩ : ∃ z, z = rowS s i (m + 1) := ⟨_, rfl⟩
        obtain ⟨y, hy⟩ : ∃ z, z = rowS l i (m + 1) := ⟨_, rfl⟩
        rw [← hx] at hsum1 hst hxb
        rw [← hy] at hsum2 hst hyb hyp
        obtain ⟨_, hxb1, hxb2⟩ := hxb
        obtain ⟨_, hyb1, hyb2⟩ := hyb
        obtain ⟨hp0, hp1, hq0, hq1⟩ := hpo
        have HSU1 := Lib.hid hsum1
        have HSU2 := Lib.hid hsum2
        clear hx hy hsum1 hsum2 hK
        go_upto_region 13 with (fail)
        go_cut [18, 19] (fun s18 s19 w2 => s18 = .int .i64 x ∧ s19 = .int .i64 y ∧ ∃ n, w2 = wr.drewN n)
        case first =>
          go_quiet (first | (go_at_call 17; ((with_reducible exact Calls.quiet_of_same ((HSU1.out _ (below_drewN BI.out _)).mono fun _ _ h => ⟨h.1, h.2.symm⟩)))) | (go_at_call 17; ((with_reducible exact Calls.quiet_of_same ((HSU2.out _ (below_drewN BI.out _)).mono fun _ _ h => ⟨h.1, h.2.symm⟩)))))
          go_wp2
          go_meet
          exact ⟨rfl, rfl, _, rfl⟩
        obtain ⟨rfl, rfl, nq, rfl⟩ := hcut
        obtain ⟨w2, hw2⟩ : ∃ w2, w2 = wr.drewN nq := ⟨_, rfl⟩
        have HB2 : Hid (Below w1.heap.size w1 w2) := Lib.hid (by rw [hw2]; exact below_drewN BI.out _)
        rw [← hw2]
        clear hw2
        have hrb0 : -1 ≤ rB st ∧ rB st ≤ 1000000000000 := by unfold rB; split <;> omega
        have hrt0 : 1 ≤ rT st ∧ rT st ≤ 1000000000000 := by unfold rT; split <;> omega
        have htk : Hid (tkR lo hi st x y = ((!outB y lo hi) && (decide (rB st < 0) || decide (rB st * y < x * rT st)))) := Lib.hid rfl
        obtain ⟨RB, hRB⟩ : ∃ z, z = rB st := ⟨_, rfl⟩
        obtain ⟨RT, hRT⟩ : ∃ z, z = rT st := ⟨_, rfl⟩
        rw [← hRB] at hrb0 htk
        rw [← hRT] at hrt0 htk
        have HRB := Lib.hid hRB
        have HRT := Lib.hid hRT
        rw [← hRB, ← hRT]
        obtain ⟨hrb1, hrb2⟩ := hrb0
        obtain ⟨hrt1, hrt2⟩ := hrt0
        clear hRB hRT
        go_upto_region 14 with (fail)
        go_cut [76] (fun s76 w4 => s76 = .bool (tkR lo hi st x y) ∧ Below w2.heap.size w2 w4)
        case first =>
          cases o2 : outB y lo hi
          case true =>
            have hv : Hid (tkR lo hi st x y = false) := Lib.hid (by rw [htk.out, o2]; rfl)
            go_wp2_with (go_at_call 20; refine (within5_any _ _ _ _).mono ?_; rintro e w' ⟨rfl, rfl⟩)
            go_meet
            exact ⟨by rw [hv.out], Below.refl _ _⟩
          case false =>
            by_cases hneg : RB < 0
            · have hv : Hid (tkR lo hi st x y = true) := Lib.hid (by rw [htk.out, o2, decide_eq_true hneg]; rfl)
              go_wp2_with (go_at_call 20; refine (within5_any _ _ _ _).mono ?_; rintro e w' ⟨rfl, rfl⟩)
              go_meet
              exact ⟨by rw [hv.out], Below.refl _ _⟩
            · have hv : Hid (tkR lo hi st x y = decide (RB * y < x * RT)) := Lib.hid (by rw [htk.out, o2, decide_eq_false hneg]; simp)
              have hl := less_int RB RT x y w2 (by omega) (by omega) (by omega) (by omega)
              have hneg' : decide (RB < 0) = false := decide_eq_false hneg
              generalize decide (RB * y < x * RT) = LS at hl hv
              go_wp2_with (first | (go_at_call 20; refine (within5_any _ _ _ _).mono ?_; rintro e w' ⟨rfl, rfl⟩) | (go_at_call 12; ((with_reducible refine hl.mono ?_); rintro e w5 ⟨rfl, hb5⟩)))
              go_meet
              exact ⟨by rw [hv.out], hb5⟩
        obtain ⟨rfl, hb4⟩ := hcut
        have HB4 := Lib.hid (HB2.out.thru hb4)
        clear hb4
        cases hT : tkR lo hi st x y
        case true =>
          have hpk : Hid ((x, y) = pkI lo hi s l i (m + 1) (pkA lo hi s l i)) := Lib.hid (by rw [hst.out, hT]; rfl)
          have hr1 : Hid (rB (x, y) = x) := Lib.hid (by unfold rB; rw [if_neg (by show ¬ y = 0; omega)])
          have hr2 : Hid (rT (x, y) = y) := Lib.hid (by unfold rT; rw [if_neg (by show ¬ y = 0; omega)])
          clear hT
          go_wp2
          go_roundg (s.length - i - (m + 1))
          case measure => omega
          case rel => exact ⟨m + 1, k + 1, (x, y), by omega, by omega, by omega, by omega, (show Aside _ from by have := K.out; show _ = _; omega), by go_num, by rw [hr1.out], by rw [hr2.out], (show Aside _ from hpk.out), HB4.out⟩
        case false =>
          have hpk : Hid (st = pkI lo hi s l i (m + 1) (pkA lo hi s l i)) := Lib.hid (by rw [hst.out, hT]; rfl)
          clear hT
          go_wp2
          go_roundg (s.length - i - (m + 1))
          case measure => omega
          case rel => exact ⟨m + 1, k + 1, st, by omega, by omega, by omega, by omega, (show Aside _ from by have := K.out; show _ = _; omega), by go_num, by rw [HRB.out], by rw [HRT.out], (show Aside _ from hpk.out), HB4.out⟩
      · have hml : Hid ((st.1, st.2) = pkA lo hi s l (i + 1)) := Lib.hid (by rw [pkA, show s.length - i = m by omega]; exact PQ.out)
        have hK := K.out
        have hlmz : ¬ (k : Int) ≤ (s.length : Int) := by omega
        clear hK
        go_wp2
        go_roundg (s.length - (i + 1))
        case measure => omega
        case rel => exact ⟨i + 1, st.1, st.2, by omega, by omega, by go_num, rfl, rfl, (show Aside _ from hml.out), BI.out⟩
    · obtain rfl : i = s.length := by omega
      have hpo := hok.out s.length
      rw [← A.out] at hpo
      obtain ⟨hp0, hp1, hq0, hq1⟩ := hpo
      simp only at hp0 hp1 hq0 hq1
      have hA := A.out
      have HK2 := Lib.hid ((BW.out.block w.heap.size (lt_of_block HK1.out)).trans HK1.out)
      have c0 := (cell_of_block (i := 0) HK2.out).trans rfl
      have c1 := (cell_of_block (i := 1) HK2.out).trans rfl
      have f0 := froz_of_block (i := 0) HK2.out
      have f1 := froz_of_block (i := 1) HK2.out
      have hltw := lt_of_block HK2.out
      have HBR := Lib.hid (HB1.out.thru BW.out)
      by_cases hq : q = 0
      · have hg : G = false := by rw [hG3.out, ← hA]; simp [hq]
        have hv : Hid (0 = N ∧ 0 = D ∧ false = B ∧ 0 = F) := Lib.hid ⟨by rw [hN.out, hg]; rfl, by rw [hD.out, hg]; rfl, by rw [hB.out, hg]; rfl, by rw [hF3.out, ← hA, if_pos hq]⟩
        have hr1 : rB (p, q) = -1 := by unfold rB; rw [if_pos hq]
        rw [hr1]
        clear hq hg hA hr1
        go_wp2
        exact bodyPost_ret (v := .tuple #[.agg #[.int .i64 0, .int .i64 0], .bool false, .int .i64 0]) (by simp [results, Try.results8, go_sem, c0, c1]) rfl (Rt3.mk hv.out.1 hv.out.2.1 hv.out.2.2.1 hv.out.2.2.2 ((HBR.out.setCell (Nat.le_refl _) _).setCell (Nat.le_refl _) _))
      · have hg : G = true := by rw [hG3.out, ← hA]; simp [hq]
        have hr1 : rB (p, q) = p := by unfold rB; rw [if_neg hq]
        have hr2 : rT (p, q) = q := by unfold rT; rw [if_neg hq]
        rw [hr1, hr2]
        have hF4 : F = ratF p.toNat q.toNat c.toNat := by rw [hF3.out, ← hA, if_neg hq]
        have hN4 : N = ratN p.toNat q.toNat c.toNat := by rw [hN.out, hg, if_pos rfl, ← hA]
        have hD4 : D = ratD p.toNat q.toNat c.toNat := by rw [hD.out, hg, if_pos rfl, ← hA]
        have hB4 : B = decide (F = 0) := by rw [hB.out, hg]; rfl
        have hr := bits_any p.toNat q.toNat c.toNat wr (by omega) (by omega) (by omega) (by omega) (by omega)
        rw [← hF4, ← hN4, ← hD4, Int.toNat_of_nonneg hp0, Int.toNat_of_nonneg hq0, Int.toNat_of_nonneg (show 0 ≤ c by omega)] at hr
        unfold RtP at hr
        have HR := Lib.hid hr
        have HB4 := Lib.hid hB4
        have hpn : ¬ p < 0 := by omega
        clear hq hg hA hF4 hN4 hD4 hB4 hr c0 c1 f0 f1 hr1 hr2
        cases eF : (F == 0)
        all_goals
          have hBv : Hid (B = _) := Lib.hid (HB4.out.trans (show decide (F = 0) = (F == 0) from rfl))
          go_wp2_with (go_at_call 16; refine HR.out.mono ?_; rintro e w2 ⟨rfl, hb2⟩; have hK2 := (hb2.block w.heap.size hltw).trans HK2.out; have c0 := (cell_of_block (i := 0) hK2).trans rfl; have c1 := (cell_of_block (i := 1) hK2).trans rfl; have f0 := froz_of_block (i := 0) hK2; have f1 := froz_of_block (i := 1) hK2; have hlt2 := lt_of_block hK2; have HB2 := Lib.hid (HBR.out.thru hb2); clear hb2 hK2)
          exact bodyPost_ret (v := .tuple #[.agg #[.int .i64 N, .int .i64 D], .bool B, .int .i64 F]) (by simp [results, Try.results8, go_sem, c0, c1, hlt2, hBv.out, eF]) rfl (Rt3.mk rfl rfl rfl rfl (((HB2.out.setCell (Nat.le_refl _) _).setCell (Nat.le_refl _) _).alloc (by simp; omega) _))
end Go.Proofs.Ytjfjilbogpcfjaa

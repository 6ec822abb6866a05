/- LadderAlongIsBest: the walk of the law. -/
import Derived.Test.YtfkmdojnkdoffaaAlgR
import Derived.Test.YtfkmdojnkdoffaaTalW
import Derived.Test.YtfkmdojnkdoffaaSomB
import Derived.Test.YtfkmdojnkdoffaaBstP
import Derived.Test.YtfkmdojnkdoffaaWthP
import Derived.Test.YtfkmdojnkdoffaaAwk5
namespace Go.Proofs.Ytfkmdojnkdoffaa
open Go.RowKit

theorem selR_drop (l : List Rng) : ∀ (L : List Int) (a : Nat), L.Pairwise (· < ·) → (∀ k, k ∈ L → (a : Int) ≤ k ∧ k < l.length) → (selR l L).Sublist (l.drop a)
  | [], a, _, _ => List.nil_sublist _
  | x :: r, a, hp, hr => by
    obtain ⟨h1, h2⟩ := List.pairwise_cons.1 hp
    have hx := hr x (by simp)
    obtain ⟨q, rfl⟩ := Int.eq_ofNat_of_zero_le (by omega : 0 ≤ x)
    have hql : q < l.length := by omega
    have ih := selR_drop l r (q + 1) h2 fun k hk => ⟨by have := h1 k hk; omega, (hr k (by simp [hk])).2⟩
    have e : selR l ((q : Int) :: r) = l[q] :: selR l r := by
      simp only [selR, List.map_cons, Int.toNat_natCast]
      rw [getD_of (List.getElem?_eq_getElem hql)]
    rw [e]
    have h3 : (l[q] :: selR l r).Sublist (l.drop q) := by
      rw [List.drop_eq_getElem_cons hql]
      exact ih.cons_cons _
    exact h3.trans (by
      obtain ⟨d, hd⟩ : ∃ d, q = a + d := ⟨q - a, by omega⟩
      rw [hd, ← List.drop_drop]
      exact List.drop_sublist _ _)
theorem selR_sub {l : List Rng} {m : Nat} {L : List Int} (h : okW l.length m L) : (selR l L).Sublist l := by
  have := selR_drop l L 0 h.inc fun k hk => by have := h.rng k hk; omega
  simpa using this
theorem worthF_sel {l : List Rng} {c : List Vw} {m : Nat} {L : List Int} (h : okW l.length m L) (hc : checkRV l c = 0) : checkRV (selR l L) c = 0 ∧ worthF (selR l L) c = wOf l c L := by
  obtain ⟨h1, h2⟩ := checkRV_zero hc
  have h3 : checkRV (selR l L) c = 0 := by
    unfold checkRV
    rw [checkR_sub (selR_sub h) h1, if_neg (by simp)]
    exact h2
  exact ⟨h3, by unfold worthF; rw [if_pos h3]; rfl⟩
theorem bestFa_zero {l : List Rng} {c : List Vw} {m : Int} (h : bestFa l c m = 0) : checkRV l c = 0 ∧ (0 ≤ m ∧ m ≤ 100) ∧ l.length ≤ 14 := by
  unfold bestFa at h
  split at h
  · rename_i h1; exact absurd h h1
  rename_i h1
  split at h
  · simp at h
  rename_i h2
  split at h
  · simp at h
  rename_i h3
  exact ⟨by simpa using h1, outB_no' h2, by omega⟩
theorem checkV_tall {c : List Vw} (h : checkV c = 0) : checkV (tallC c) = 0 := by
  obtain ⟨h1, h2⟩ := checkV_zero h
  unfold checkV
  have hl : (tallC c).length = c.length := by simp [tallC]
  rw [hl, if_neg (by omega)]
  refine FF_zero fun i hi => ?_
  have hi2 : i < c.length := by omega
  unfold cvAt
  have hx : (tallC c)[i]? = some (tallV c[i]) := by simp [tallC, hi2]
  rw [getD_of hx]
  obtain ⟨a1, a2, a3⟩ := h2 _ (List.getElem_mem hi2)
  rw [if_neg]
  unfold vwB outB tallV
  simp
  omega
/-- What the law asks of a choice. -/
theorem along_ok {l : List Rng} {c : List Vw} {M : Nat} (h : checkRV l c = 0) (hm : M ≤ 100) : okW l.length M (castL (alP l c M)) ∧ checkRV (selR l (castL (alP l c M))) (tallC c) = 0 ∧ worthF (selR l (castL (alP l c M))) (tallC c) = alN l c M ∧ (l.length ≤ 14 → bestFa l (tallC c) M = 0 ∧ ∀ B, bestW (wOf l (tallC c)) l.length M B → wOf l (tallC c) B = alN l c M) := by
  obtain ⟨h1, h2⟩ := checkRV_zero h
  obtain ⟨c1, _, c3⟩ := checkR_zero h1
  obtain ⟨d1, d2⟩ := checkV_zero h2
  have hs := srtR_of h1
  have hh : ∀ x, x ∈ l → x.he ≤ 10000 := fun x hx => (c3 x hx).2.2.1.2
  have hc : ∀ v, v ∈ c → (0 ≤ v.ra ∧ v.ra ≤ 1000000000) ∧ 0 ≤ v.we := fun v hv => ⟨(d2 v hv).1, by have := (d2 v hv).2.2; omega⟩
  obtain ⟨a1, a2, a3⟩ := alP_ok l c M
  have ok := castL_okW a1 a2
  have ht : checkRV l (tallC c) = 0 := by
    unfold checkRV
    rw [h1, if_neg (by simp)]
    exact checkV_tall h2
  obtain ⟨e1, e2⟩ := worthF_sel ok ht
  refine ⟨ok, e1, ?_, fun h14 => ⟨?_, fun B hB => best_al hs hh hc hB⟩⟩
  · rw [e2]
    unfold wOf
    rw [wtR_chain a1 hs hh (fun v hv => (hc v hv).1), a3]
  · unfold bestFa
    rw [if_neg (by simp [ht]), if_neg (by simp [outB]; omega), if_neg (by omega)]
set_option maxRecDepth 100000 in
set_option maxHeartbeats 4000000 in
theorem alongLw_any (w : World) (l : List Rng) (u : Value) (c : List Vw) (v : Value) (m : Int) (hl : Sl w 4 encR u l) (hw : ∀ x, x ∈ l → WfR x) (hc : Sl w 3 encV v c) (hb : c.length * 24 ≤ 140737488355328) :
    Calls Try.prog 4 #[u, v, .int .i64 m] w fun e w' => e = .returned (.bool true) ∧ Below w.heap.size w w' := by
  have H1 := Lib.hid (Along_any w l u c v m hl hw hc)
  have H2 := Lib.hid (fun (W : World) (hb : Below w.heap.size w W) => AlongR_any W l u c v m (hl.below hb (Nat.le_refl _)) hw (hc.below hb (Nat.le_refl _)))
  have H3 := Lib.hid (fun (W : World) (hb2 : Below w.heap.size w W) => tall_any W c v (hc.below hb2 (Nat.le_refl _)) hb)
  have H4 := Lib.hid (fun (W : World) (hb2 : Below w.heap.size w W) (x : Value) (L : List Int) (hx : Sl W 1 encI x L) (h1 : L.length ≤ 1000) (h2 : ∀ x, x ∈ L → 0 ≤ x ∧ x < (l.length : Int)) => some_any W l u x L (hl.below hb2 (Nat.le_refl _)) hx h1 h2)
  have H5 := Lib.hid (fun (W : World) (S : List Rng) (x t : Value) (hx : Sl W 4 encR x S) (ht : Sl W 3 encV t (tallC c)) (hS : ∀ y, y ∈ S → WfR y) => Worth_any W S x (tallC c) t hx hS ht)
  have H6 := Lib.hid (fun (W : World) (hb2 : Below w.heap.size w W) (t : Value) (ht : Sl W 3 encV t (tallC c)) => Best_any W l u (tallC c) t m (hl.below hb2 (Nat.le_refl _)) hw ht)
  have HWR := Lib.hid hw
  have HNO := Lib.hid (fun (h : algF l c m ≠ 0) => show algL l c m = [] from by unfold algL; rw [if_neg h])
  have HF0 := Lib.hid (fun (h : algF l c m = 0) => show checkRV l c = 0 ∧ (0 ≤ m ∧ m ≤ 100) from by
    unfold algF at h
    split at h
    · rename_i h1; exact absurd h h1
    · rename_i h1
      split at h
      · simp at h
      · rename_i h2; exact ⟨by simpa using h1, outB_no' h2⟩)
  have HYES := Lib.hid (fun (h : algF l c m = 0) => And.intro (show algN l c m = alN l c m.toNat from by unfold algN; rw [if_pos h]) (show algL l c m = castL (alP l c m.toNat) from by unfold algL; rw [if_pos h]))
  have HOK := Lib.hid (fun (M : Nat) (h : checkRV l c = 0) (hM : M ≤ 100) => along_ok (M := M) h hM)
  unfold AlgP at H1
  unfold AlrP at H2
  unfold OwnRet at H3
  unfold SlRet at H4
  unfold WPost at H5
  unfold BsP at H6
  obtain ⟨ao, cap, rfl, hcap, hmax, _, _⟩ := hl
  unfold maxLen at hmax
  clear hw hc hb
  go_enter Try.func4, Try.ntmps4
  go_wp2_with fail
  refine H1.out.mono ?_
  rintro e w1 ⟨v1, rfl, hs1, hb1⟩
  have HB1 := Lib.hid hb1
  have HS1 := Lib.hid hs1
  clear hb1 hs1 H1
  go_wp2_with fail
  refine (H2.out w1 HB1.out).mono ?_
  rintro e w2 ⟨v2, rfl, hb2⟩
  have HB2 := Lib.hid (HB1.out.thru hb2)
  have HS2 := Lib.hid (HS1.out.below hb2 (Nat.le_refl _))
  clear hb2 H2 HS1 HB1
  obtain ⟨n, hn⟩ : ∃ n, n = algN l c m := ⟨_, rfl⟩
  obtain ⟨f, hf⟩ : ∃ f, f = algF l c m := ⟨_, rfl⟩
  obtain ⟨L, hL⟩ : ∃ L, L = algL l c m := ⟨_, rfl⟩
  rw [← hn, ← hf]
  rw [← hf, ← hL] at HNO
  rw [← hf] at HF0
  rw [← hf, ← hn, ← hL] at HYES
  rw [← hL] at HS2
  clear hn hf hL
  have hfs : (f != f) = false := by simp
  have hns : (n != n) = false := by simp
  obtain ⟨xo, xc, rfl, hxc, hxm, _, _⟩ := HS2.out
  unfold maxLen at hxm
  by_cases hf0 : f = 0
  case neg =>
    have hfne : (f != 0) = true := by simpa using hf0
    obtain rfl := HNO.out hf0
    go_wp2_with (go_at_call 9; refine (awake5_any _).mono ?_; rintro e w3 ⟨rfl, hb3⟩; have HB3 := Lib.hid (HB2.out.thru hb3); clear hb3)
    go_ret
    exact ⟨rfl, HB3.out⟩
  subst hf0
  obtain ⟨hrv, hm0, hm1⟩ := HF0.out rfl
  obtain ⟨M, rfl⟩ : ∃ M : Nat, m = (M : Int) := ⟨m.toNat, by omega⟩
  obtain ⟨k1, k2⟩ := HYES.out rfl
  rw [Int.toNat_natCast] at k1 k2
  obtain ⟨q1, q2, q3, q4⟩ := HOK.out M hrv (by omega)
  rw [← k2, ← k1] at q3
  rw [← k2] at q1 q2
  rw [← k1] at q4
  have HQ4 := Lib.hid q4
  have hLM := q1.len
  have HIC := Lib.hid (fun (W : World) (x : Value) (hx : Sl W 1 encI x L) => isChoice_any W l.length L x hx q1.rng q1.inc)
  have HRG := Lib.hid q1.rng
  obtain ⟨S, hS⟩ : ∃ S, S = selR l L := ⟨_, rfl⟩
  have HSW : Hid (∀ y, y ∈ S → WfR y) := Lib.hid (fun y hy => by
    rw [hS] at hy
    unfold selR at hy
    rw [List.mem_map] at hy
    obtain ⟨k, hk, rfl⟩ := hy
    have h := q1.rng k hk
    have hkl : k.toNat < l.length := by omega
    rw [getD_of (show l[k.toNat]? = some l[k.toNat] by simp [hkl])]
    exact HWR.out _ (List.getElem_mem hkl))
  rw [← hS] at q2 q3
  have HSE := Lib.hid hS
  have HQ2 := Lib.hid q2
  have HQ3 := Lib.hid q3
  have hLz : ¬ (M : Int) < (L.length : Int) := by omega
  clear k1 k2 q1 q2 q3 q4 hS hrv HYES HOK HF0 HNO
  go_upto_region 7 with (go_at_call 9; refine (awake5_any _).mono ?_; rintro e w3 ⟨rfl, hb3⟩; have HB3 := Lib.hid (HB2.out.thru hb3); have HS3 := Lib.hid (HS2.out.below hb3 (Nat.le_refl _)); clear hb3)
  go_wp2_with fail
  refine (H3.out w3 HB3.out).mono ?_
  rintro e w4 ⟨v4, rfl, ho4, hb4⟩
  have HB4 := Lib.hid (HB3.out.thru hb4)
  have HS4 := Lib.hid (HS3.out.below hb4 (Nat.le_refl _))
  have HT4 := Lib.hid (ho4.sl encV_len)
  clear ho4 hb4 H3 HS3 HB3 HS2 HB2
  go_wp2_with fail
  refine (HIC.out w4 _ HS4.out).mono ?_
  rintro e w5 ⟨rfl, hb5⟩
  have HB5 := Lib.hid (HB4.out.thru hb5)
  have HS5 := Lib.hid (HS4.out.below hb5 (Nat.le_refl _))
  have HT5 := Lib.hid (HT4.out.below hb5 (Nat.le_refl _))
  clear hb5 HB4 HS4 HT4
  go_wp2_with fail
  refine (H4.out w5 HB5.out _ L HS5.out (by omega) HRG.out).mono ?_
  rintro e w6 ⟨v6, rfl, hs6, hb6⟩
  rw [← HSE.out] at hs6
  have HB6 := Lib.hid (HB5.out.thru hb6)
  have HT6 := Lib.hid (HT5.out.below hb6 (Nat.le_refl _))
  have HX6 := Lib.hid hs6
  clear hs6 hb6 HB5 HS5 HT5 H4
  have h5 := H5.out w6 S _ _ HX6.out HT6.out HSW.out
  rw [HQ2.out, HQ3.out] at h5
  have H5' := Lib.hid h5
  clear h5
  go_wp2_with fail
  refine H5'.out.mono ?_
  rintro e w7 ⟨rfl, hb7⟩
  have HB7 := Lib.hid (HB6.out.thru hb7)
  have HT7 := Lib.hid (HT6.out.below hb7 (Nat.le_refl _))
  clear hb7 HB6 HT6 HX6 H5 H5'
  by_cases h14 : 14 < l.length
  · have h14z : (14 : Int) < (l.length : Int) := by omega
    go_wp2
    go_ret
    exact ⟨rfl, HB7.out⟩
  · have h14z : ¬ (14 : Int) < (l.length : Int) := by omega
    obtain ⟨b1, b2⟩ := HQ4.out (by omega)
    have h6 := H6.out w7 HB7.out _ HT7.out
    rw [b1, Int.toNat_natCast] at h6
    have H6' := Lib.hid h6
    have HBE := Lib.hid b2
    clear b1 b2 h6 HQ4 H6
    go_wp2_with fail
    refine H6'.out.mono ?_
    rintro e w8 ⟨v8, B, z, rfl, _, hb8, hok, _⟩
    obtain ⟨g1, g2⟩ := hok (by first | trivial | rfl)
    obtain rfl : z = n := by rw [g2, HBE.out B g1]
    have HB8 := Lib.hid (HB7.out.thru hb8)
    clear g1 g2 hok hb8
    go_wp2
    go_ret
    exact ⟨by simp, HB8.out⟩
theorem bytesVw : Try.prog.bytesOf 63 = 24 := by kernel_rfl
end Go.Proofs.Ytfkmdojnkdoffaa

/- LadderBestIsWorthMost: what Best chooses is worth most. -/
import Derived.Test.YtfkmdojnkdoffaaBest
import Derived.Test.YtfkmdojnkdoffaaChoi
import Derived.Test.YtfkmdojnkdoffaaWthP
import Derived.Test.YtfkmdojnkdoffaaRenL
namespace Go.Proofs.Ytfkmdojnkdoffaa
open Go.RowKit

theorem selR_drop (l : List Rng) : ∀ (L : List Int) (a : Nat), L.Pairwise (· < ·) → (∀ k, k ∈ L → (a : Int) ≤ k ∧ k < l.length) → (selR l L).Sublist (l.drop a)
  | [], a, _, _ => List.nil_sublist _
  | x :: r, a, hp, hr => by
    obtain ⟨h1, h2⟩ := List.pairwise_cons.1 hp
    have hx := hr x (by simp)
    obtain ⟨q, rfl⟩ := Int.eq_ofNat_of_zero_le (by omega : 0 ≤ x)
    have hql : q < l.length := by omega
    have ih := selR_drop l r (q + 1) h2 fun k hk => ⟨by have := h1 k hk; omega, (hr k (by simp [hk])).2⟩
    have e : selR l ((q : Int) :: r) = l[q] :: selR l r := by
      simp only [selR, List.map_cons, Int.toNat_natCast]
      rw [getD_of (List.getElem?_eq_getElem hql)]
    rw [e]
    have h3 : (l[q] :: selR l r).Sublist (l.drop q) := by
      rw [List.drop_eq_getElem_cons hql]
      exact ih.cons_cons _
    exact h3.trans (by
      obtain ⟨d, hd⟩ : ∃ d, q = a + d := ⟨q - a, by omega⟩
      rw [hd, ← List.drop_drop]
      exact List.drop_sublist _ _)
theorem selR_sub {l : List Rng} {m : Nat} {L : List Int} (h : okW l.length m L) : (selR l L).Sublist l := by
  have := selR_drop l L 0 h.inc fun k hk => by have := h.rng k hk; omega
  simpa using this
theorem worthF_sel {l : List Rng} {c : List Vw} {m : Nat} {L : List Int} (h : okW l.length m L) (hc : checkRV l c = 0) : checkRV (selR l L) c = 0 ∧ worthF (selR l L) c = wOf l c L := by
  obtain ⟨h1, h2⟩ := checkRV_zero hc
  have h3 : checkRV (selR l L) c = 0 := by
    unfold checkRV
    rw [checkR_sub (selR_sub h) h1, if_neg (by simp)]
    exact h2
  exact ⟨h3, by unfold worthF; rw [if_pos h3]; rfl⟩
theorem bestFa_zero {l : List Rng} {c : List Vw} {m : Int} (h : bestFa l c m = 0) : checkRV l c = 0 ∧ (0 ≤ m ∧ m ≤ 100) ∧ l.length ≤ 14 := by
  unfold bestFa at h
  split at h
  · rename_i h1; exact absurd h h1
  rename_i h1
  split at h
  · simp at h
  rename_i h2
  split at h
  · simp at h
  rename_i h3
  exact ⟨by simpa using h1, outB_no' h2, by omega⟩
theorem bestFa_next {l : List Rng} {c : List Vw} {m : Int} (h : bestFa l c m = 0) (hm : m ≠ 100) : bestFa l c (m + 1) = 0 := by
  obtain ⟨h1, h2, h3⟩ := bestFa_zero h
  unfold bestFa
  rw [if_neg (by simpa using h1), if_neg (by simp [outB]; omega), if_neg (by omega)]
theorem bestW_up {f : List Int → Int} {n m : Nat} {B C : List Int} (h : bestW f n m B) (k : bestW f n (m + 1) C) : f B ≤ f C := btW_le (k.2 B ⟨h.1.rng, h.1.inc, by have := h.1.len; omega⟩)
where btW_le {f : List Int → Int} {A B : List Int} (h : btW f A B = false) : f A ≤ f B := btW_no h

set_option maxRecDepth 100000 in
set_option maxHeartbeats 4000000 in
theorem bwst_any (w : World) (l : List Rng) (u : Value) (c : List Vw) (v : Value) (m : Int) (O : List Int) (vo : Value) (hl : Sl w 4 encR u l) (hw : ∀ x, x ∈ l → WfR x) (hc : Sl w 3 encV v c) (hO : Sl w 1 encI vo O) (hx : ∀ x, x ∈ O → -9223372036854775808 ≤ x ∧ x ≤ 9223372036854775807) :
    Calls Try.prog 5 #[u, v, .int .i64 m, vo] w fun e w' => e = .returned (.bool true) ∧ Below w.heap.size w w' := by
  have h1 := Lib.hid (Best_any w l u c v m hl hw hc)
  have h2 := Lib.hid (fun (W : World) (hb : Below w.heap.size w W) => Best_any W l u c v (m + 1) (hl.below hb (Nat.le_refl _)) hw (hc.below hb (Nat.le_refl _)))
  have h3 := Lib.hid (fun (W : World) (v : Value) (L : List Int) (hb : Below w.heap.size w W) (hs : Sl W 1 encI v L) (hok : okW l.length 100 L) => some_any W l u v L (hl.below hb (Nat.le_refl _)) hs (by have := hok.len; omega) hok.rng)
  have h4 := Lib.hid (fun (W : World) (s : Value) (L : List Int) (hb : Below w.heap.size w W) (hs : Sl W 4 encR s (selR l L)) (hok : okW l.length 100 L) => Worth_any W (selR l L) s c v hs (fun x hx => hw x ((selR_sub hok).subset hx)) (hc.below hb (Nat.le_refl _)))
  have h5 := Lib.hid (fun (W : World) (n m : Nat) (hb : Below w.heap.size w W) (hn : n ≤ 1000) (hm : m ≤ 900) => choiceR_any W O vo n m (hO.below hb (Nat.le_refl _)) hx hn hm)
  have HZ := Lib.hid (fun (h : bestFa l c m = 0) => bestFa_zero h)
  have HN := Lib.hid (fun (h : bestFa l c m = 0) (h' : m ≠ 100) => bestFa_next h h')
  have HWF := Lib.hid (fun (m : Nat) (L : List Int) (h : okW l.length m L) (hc : checkRV l c = 0) => worthF_sel h hc)
  obtain ⟨uo, ucap, rfl, huc, hum, _, _⟩ := hl
  unfold maxLen at hum
  clear hw hc hO hx
  go_enter Try.func5, Try.ntmps5
  go_wp2_with fail
  refine h1.out.mono ?_
  rintro e w1 ⟨x, B, z, rfl, hs, hb, h0, hn⟩
  have HS1 := Lib.hid hs
  have HB1 := Lib.hid hb
  have H0 := Lib.hid h0
  have HNB := Lib.hid hn
  clear h0 hn h1
  obtain ⟨xo, xcap, rfl, hxc, hxm, _, _⟩ := hs
  unfold maxLen at hxm
  clear hb
  obtain ⟨F, hF⟩ : ∃ F, F = bestFa l c m := ⟨_, rfl⟩
  rw [← hF] at H0 HNB HZ HN ⊢
  clear hF
  cases e1 : (F != 0)
  case true =>
    obtain ⟨rfl, rfl⟩ := HNB.out (by simpa using e1)
    go_wp2_with (go_at_call 9; refine (awake5_any _).mono ?_; rintro e w4 ⟨rfl, hb4⟩)
    go_ret
    exact ⟨rfl, HB1.out.thru hb4⟩
  obtain rfl : F = 0 := by simpa using e1
  clear e1
  obtain ⟨hbst, hz⟩ := H0.out rfl
  obtain ⟨hrv, hm, hl14⟩ := HZ.out rfl
  obtain ⟨M, rfl⟩ := Int.eq_ofNat_of_zero_le hm.1
  rw [Int.toNat_natCast] at hbst
  have HBST := Lib.hid hbst
  have hM : M ≤ 100 := by omega
  have hok100 : okW l.length 100 B := ⟨hbst.1.rng, hbst.1.inc, by have := hbst.1.len; omega⟩
  have hBM := hbst.1.len
  have HW1 := Lib.hid (HWF.out _ B hok100 hrv)
  have H4B := Lib.hid (fun W s hb hs => h4.out W s B hb hs hok100)
  unfold WPost at H4B
  rw [HW1.out.1, HW1.out.2, ← hz] at H4B
  have H3B := Lib.hid (h3.out w1 _ B HB1.out HS1.out hok100)
  have HZE := Lib.hid hz
  have HRV := Lib.hid hrv
  have hBMz : ¬ (M : Int) < (B.length : Int) := by omega
  have hzz : (z != z) = false := by simp
  clear hbst hz hrv H0 HNB hok100
  go_wp2_with fail
  refine H3B.out.mono ?_
  rintro e w2 ⟨s2, rfl, hs2, hb2⟩
  have HB2 := Lib.hid (HB1.out.thru hb2)
  have HS2 := Lib.hid hs2
  clear hs2 hb2 H3B
  go_wp2_with fail
  refine (H4B.out _ _ HB2.out HS2.out).mono ?_
  rintro e w3 ⟨rfl, hb3⟩
  have HB3 := Lib.hid (HB2.out.thru hb3)
  clear hb3 H4B
  go_wp2_with (go_at_call 9; refine (awake5_any _).mono ?_; rintro e w4 ⟨rfl, hb4⟩; have HB4 := Lib.hid (HB3.out.thru hb4); clear hb4)
  refine (h5.out _ l.length M HB4.out (by omega) (by omega)).mono ?_
  rintro e w5 ⟨vc, C, rfl, hs5, hok5, hb5⟩
  have HB5 := Lib.hid (HB4.out.thru hb5)
  have HS5 := Lib.hid hs5
  have hokC : okW l.length 100 C := ⟨hok5.rng, hok5.inc, by have := hok5.len; omega⟩
  have HWC := Lib.hid (HWF.out _ C hokC HRV.out)
  have H4C := Lib.hid (fun W s hb hs => h4.out W s C hb hs hokC)
  unfold WPost at H4C
  rw [HWC.out.1, HWC.out.2] at H4C
  have H3C := Lib.hid (h3.out w5 _ C HB5.out HS5.out hokC)
  have hle : wOf l c C ≤ z := by rw [HZE.out]; exact btW_no (HBST.out.2 C hok5)
  obtain ⟨zc, hzc⟩ : ∃ zc, zc = wOf l c C := ⟨_, rfl⟩
  rw [← hzc] at H4C hle
  have hlz : ¬ z < zc := by omega
  clear hs5 hok5 hb5 hokC hzc hle h3 h4 h5 HWF
  go_wp2_with fail
  refine H3C.out.mono ?_
  rintro e w6 ⟨s6, rfl, hs6, hb6⟩
  have HB6 := Lib.hid (HB5.out.thru hb6)
  have HS6 := Lib.hid hs6
  clear hs6 hb6 H3C
  go_wp2_with fail
  refine (H4C.out _ _ HB6.out HS6.out).mono ?_
  rintro e w7 ⟨rfl, hb7⟩
  have HB7 := Lib.hid (HB6.out.thru hb7)
  clear hb7 H4C
  by_cases h100 : M = 100
  · subst h100
    go_wp2
    go_ret
    exact ⟨rfl, HB7.out⟩
  have h100z : ((M : Int) == 100) = false := by rw [beq_eq_false_iff_ne]; omega
  have HF1 := HN.out (by simp) (by omega)
  have H2 := Lib.hid (h2.out _ HB7.out)
  unfold BsP at H2
  rw [HF1] at H2
  clear HF1 HN h2
  go_wp2_with fail
  refine H2.out.mono ?_
  rintro e w8 ⟨x8, B8, z8, rfl, hs8, hb8, h80, h8n⟩
  obtain ⟨hb80, hz8⟩ := h80 (by simp)
  have hup : z ≤ z8 := by
    rw [HZE.out, hz8]
    rw [show ((M : Int) + 1).toNat = M + 1 by omega] at hb80
    exact bestW_up HBST.out hb80
  have HB8 := Lib.hid (HB7.out.thru hb8)
  clear hs8 hb8 h80 h8n hb80 hz8
  go_wp2
  go_ret
  exact ⟨by simp, HB8.out⟩
end Go.Proofs.Ytfkmdojnkdoffaa

/- Mean of the reference; awake. -/
import Derived.Test.YtjfjilbogpcfjaaMean2
namespace Go.Proofs.Ytjfjilbogpcfjaa
open Go.RowKit

set_option maxRecDepth 100000 in
set_option maxHeartbeats 2000000 in
theorem meanR_any (w : World) (s l : List Int) (u v : Value) (c : Int) (hs : Sl w 1 encI u s) (hl : Sl w 1 encI v l) :
    Calls Try.prog 6 #[u, v, .int .i64 c] w (RtP w (mN s l c) (mD s l c) (mF s l c)) := by
  have hB0 : Below w.heap.size w (w.alloc (.cells #[.int .i64 0, .int .i64 0] 24)) := (Below.refl _ _).alloc (Nat.le_refl _) _
  have hsf' := checkSegments_any _ s l u v c (hs.below hB0 (Nat.le_refl _)) (hl.below hB0 (Nat.le_refl _))
  have hz := @segF_zero s l c
  have hss := @seg_sums s l c
  have hF : Hid (mF s l c = if segF s l c ≠ 0 then segF s l c else ratF (sumI s).toNat (sumI l).toNat c.toNat) := Lib.hid rfl
  have hN : Hid (mN s l c = if segF s l c ≠ 0 then 0 else ratN (sumI s).toNat (sumI l).toNat c.toNat) := Lib.hid rfl
  have hD : Hid (mD s l c = if segF s l c ≠ 0 then 0 else ratD (sumI s).toNat (sumI l).toNat c.toNat) := Lib.hid rfl
  generalize mF s l c = F at hF ⊢
  generalize mN s l c = N at hN ⊢
  generalize mD s l c = D at hD ⊢
  generalize segF s l c = G at hsf' hz hss hF hN hD
  have hBK := block_new w (.cells #[.int .i64 0, .int .i64 0] 24)
  have HBK := Lib.hid hBK
  have HB0 := Lib.hid hB0
  clear hBK hB0
  cases e1 : (G != 0)
  case true =>
    have hne : G ≠ 0 := by simpa using e1
    have hv : Hid (0 = N ∧ 0 = D ∧ G = F) := Lib.hid ⟨by rw [hN.out, if_pos hne], by rw [hD.out, if_pos hne], by rw [hF.out, if_pos hne]⟩
    clear hne hz hss hs hl
    go_enter Try.func6, Try.ntmps6
    go_wp2_with (go_at_call 15; refine hsf'.mono ?_; rintro e w1 ⟨rfl, rfl⟩)
    exact bodyPost_ret (v := .tuple #[.agg #[.int .i64 0, .int .i64 0], .int .i64 G]) (by simp [results, Try.results6, go_sem]) rfl (RtP.mk hv.out.1 hv.out.2.1 hv.out.2.2 HB0.out)
  obtain rfl : G = 0 := by simpa using e1
  clear e1
  obtain ⟨hn1, hn2, hn3, hn4, hn5, hc0, hc1⟩ := hz rfl
  obtain ⟨hs0, hs1, hl0, hl1⟩ := hss rfl
  have hv : Hid (N = ratN (sumI s).toNat (sumI l).toNat c.toNat ∧ D = ratD (sumI s).toNat (sumI l).toNat c.toNat ∧ F = ratF (sumI s).toNat (sumI l).toNat c.toNat) := Lib.hid ⟨by rw [hN.out]; rfl, by rw [hD.out]; rfl, by rw [hF.out]; rfl⟩
  have hr := fun (w : World) => bits_any (sumI s).toNat (sumI l).toNat c.toNat w (by omega) (by omega) (by omega) (by omega) (by omega)
  rw [← hv.out.1, ← hv.out.2.1, ← hv.out.2.2, Int.toNat_of_nonneg hs0, Int.toNat_of_nonneg (show 0 ≤ sumI l by omega), Int.toNat_of_nonneg (show 0 ≤ c by omega)] at hr
  unfold RtP at hr
  have hu1 := sum_any _ s u (hs.below HB0.out (Nat.le_refl _)) hn4 hn2
  have hu2 := sum_any _ l v (hl.below HB0.out (Nat.le_refl _)) (fun x hx => by have := hn5 x hx; omega) (by omega)
  generalize sumI s = SS at hr hu1 hs0 hs1
  generalize sumI l = LL at hr hu2 hl0 hl1
  have HR := Lib.hid (hr (w.alloc (.cells #[.int .i64 0, .int .i64 0] 24)))
  clear hr hN hD hF hz hss hs hl hn4 hn5 hv
  go_enter Try.func6, Try.ntmps6
  go_wp2_with (go_at_call 15; refine hsf'.mono ?_; rintro e w1 ⟨rfl, rfl⟩)
  go_wp2_with (go_at_call 17; ((with_reducible refine hu1.mono ?_); rintro e w1 ⟨rfl, rfl⟩))
  go_wp2_with (first | (go_at_call 17; ((with_reducible refine hu2.mono ?_); rintro e w1 ⟨rfl, rfl⟩)) | (go_at_call 16; refine HR.out.mono ?_; rintro e w2 ⟨rfl, hb2⟩; have hK2 := (hb2.block w.heap.size (lt_of_block HBK.out)).trans HBK.out; have c0 := (cell_of_block (i := 0) hK2).trans rfl; have c1 := (cell_of_block (i := 1) hK2).trans rfl; have f0 := froz_of_block (i := 0) hK2; have f1 := froz_of_block (i := 1) hK2; have hlt := lt_of_block hK2; have HB2 := Lib.hid (HB0.out.thru hb2); clear hb2 hK2))
  exact bodyPost_ret (v := .tuple #[.agg #[.int .i64 N, .int .i64 D], .int .i64 F]) (by simp [results, Try.results6, go_sem, c0, c1]) rfl (RtP.mk rfl rfl rfl ((HB2.out.setCell (Nat.le_refl _) _).setCell (Nat.le_refl _) _))

theorem mean_test : mN [3] [2] 1 = 12 ∧ mD [3] [2] 1 = 1 ∧ mF [3] [2] 1 = 0 := by decide +kernel

set_option maxRecDepth 100000 in
theorem awake5_any (w : World) : Calls Try.prog 9 #[] w fun e w' => e = .returned (.bool true) ∧ Below w.heap.size w w' := by
  have h1 : Sl (w.alloc (.cells #[.int .i64 3] 3)) 1 encI (.slice (some ⟨w.heap.size, 0, none⟩) 1 1) [3] := Sl.fresh encI_len w 3 (0, 0) [3] (by simp [maxLen])
  have h2 : Sl ((w.alloc (.cells #[.int .i64 3] 3)).alloc (.cells #[.int .i64 2] 3)) 1 encI (.slice (some ⟨(w.alloc (.cells #[.int .i64 3] 3)).heap.size, 0, none⟩) 1 1) [2] := Sl.fresh encI_len _ 3 (0, 0) [2] (by simp [maxLen])
  have hsz : (w.alloc (.cells #[.int .i64 3] 3)).heap.size = w.heap.size + 1 := by simp
  rw [hsz] at h2
  have h3 := mean_any _ [3] [2] _ _ 1 (h1.below ((Below.refl _ _).alloc (Nat.le_refl _) (.cells #[.int .i64 2] 3)) (Nat.le_refl _)) h2
  unfold RtP at h3
  rw [mean_test.1, mean_test.2.1, mean_test.2.2] at h3
  clear h1 h2
  go_enter Try.func9, Try.ntmps9
  go_wp2_with (go_at_call 5; refine h3.mono ?_; rintro e w1 ⟨rfl, hb1⟩)
  go_ret
  exact ⟨rfl, ((((Below.refl _ _).alloc (Nat.le_refl _) _).alloc (by simp) _).trans (hb1.mono (by simp; omega))).alloc (by have := hb1.size; simp at this; omega) _⟩
end Go.Proofs.Ytjfjilbogpcfjaa

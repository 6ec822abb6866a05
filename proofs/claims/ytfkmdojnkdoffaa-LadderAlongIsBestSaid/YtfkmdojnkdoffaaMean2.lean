/- Mean, of the program and of the reference; awake. -/
import Derived.Test.YtfkmdojnkdoffaaMean
namespace Go.Proofs.Ytfkmdojnkdoffaa
open Go.RowKit

def mF (s l : List Int) (c : Int) : Int := if segF s l c ≠ 0 then segF s l c else ratF (sumI s).toNat (sumI l).toNat c.toNat
def mN (s l : List Int) (c : Int) : Int := if segF s l c ≠ 0 then 0 else ratN (sumI s).toNat (sumI l).toNat c.toNat
def mD (s l : List Int) (c : Int) : Int := if segF s l c ≠ 0 then 0 else ratD (sumI s).toNat (sumI l).toNat c.toNat

theorem RtP.thru {w w1 : World} {n d f : Int} {e : Ending} {w' : World} (h : RtP w1 n d f e w') (hb : Below w.heap.size w w1) : RtP w n d f e w' := ⟨h.1, hb.thru h.2⟩

/-- Bounds of sums of what is right. -/
theorem seg_sums {s l : List Int} {c : Int} (h : segF s l c = 0) : 0 ≤ sumI s ∧ sumI s ≤ 1000000000000 ∧ 1 ≤ sumI l ∧ sumI l ≤ 1000000000000 := by
  obtain ⟨h1, h2, h3, h4, h5, _⟩ := segF_zero h
  have h6 := sumI_bd h4
  have h7 := sumI_bd h5
  have h8 : (s.length : Int) ≤ 500 := by omega
  have h9 : (1 : Int) ≤ s.length := by omega
  rw [h3] at h7
  omega

set_option maxRecDepth 100000 in
set_option maxHeartbeats 2000000 in
theorem mean_any (w : World) (s l : List Int) (u v : Value) (c : Int) (hs : Sl w 1 encI u s) (hl : Sl w 1 encI v l) :
    Calls Try.prog 31 #[u, v, .int .i64 c] w (RtP w (mN s l c) (mD s l c) (mF s l c)) := by
  have hsf := fun (W : World) (hb : Below w.heap.size w W) => segmentsFault_any W s l u v c (hs.below hb (Nat.le_refl _)) (hl.below hb (Nat.le_refl _))
  have hz := @segF_zero s l c
  have hss := @seg_sums s l c
  obtain ⟨ao, cap, rfl, hcap, hmax, hnil, hel⟩ := hs
  obtain ⟨bo, cbp, rfl, hcbp, hmbx, hnbl, hem⟩ := hl
  unfold maxLen at hmax hmbx
  have hF : Hid (mF s l c = if segF s l c ≠ 0 then segF s l c else ratF (sumI s).toNat (sumI l).toNat c.toNat) := Lib.hid rfl
  have hN : Hid (mN s l c = if segF s l c ≠ 0 then 0 else ratN (sumI s).toNat (sumI l).toNat c.toNat) := Lib.hid rfl
  have hD : Hid (mD s l c = if segF s l c ≠ 0 then 0 else ratD (sumI s).toNat (sumI l).toNat c.toNat) := Lib.hid rfl
  generalize mF s l c = F at hF ⊢
  generalize mN s l c = N at hN ⊢
  generalize mD s l c = D at hD ⊢
  generalize segF s l c = G at hsf hz hss hF hN hD
  have hBK := block_new w (.cells #[.int .i64 0, .int .i64 0] 52)
  have hB0 : Below w.heap.size w (w.alloc (.cells #[.int .i64 0, .int .i64 0] 52)) := (Below.refl _ _).alloc (Nat.le_refl _) _
  have HBK := Lib.hid hBK
  have HB0 := Lib.hid hB0
  have hsf' := hsf _ hB0
  clear hBK hB0 hsf
  cases e1 : (G != 0)
  case true =>
    have hne : G ≠ 0 := by simpa using e1
    have hv : Hid (0 = N ∧ 0 = D ∧ G = F) := Lib.hid ⟨by rw [hN.out, if_pos hne], by rw [hD.out, if_pos hne], by rw [hF.out, if_pos hne]⟩
    clear hne hz hss hel hem
    go_enter Try.func31, Try.ntmps31
    go_wp2_with (go_at_call 46; refine hsf'.mono ?_; rintro e w1 ⟨rfl, rfl⟩)
    exact bodyPost_ret (v := .tuple #[.agg #[.int .i64 0, .int .i64 0], .int .i64 G]) (by simp [results, Try.results31, go_sem]) rfl (RtP.mk hv.out.1 hv.out.2.1 hv.out.2.2 HB0.out)
  obtain rfl : G = 0 := by simpa using e1
  clear e1
  obtain ⟨hn1, hn2, hn3, hn4, hn5, hc0, hc1⟩ := hz rfl
  obtain ⟨hs0, hs1, hl0, hl1⟩ := hss rfl
  have hv : Hid (N = ratN (sumI s).toNat (sumI l).toNat c.toNat ∧ D = ratD (sumI s).toNat (sumI l).toNat c.toNat ∧ F = ratF (sumI s).toNat (sumI l).toNat c.toNat) := Lib.hid ⟨by rw [hN.out]; rfl, by rw [hD.out]; rfl, by rw [hF.out]; rfl⟩
  have hr := fun (w : World) => rateOf_any (sumI s).toNat (sumI l).toNat c.toNat w (by omega) (by omega) (by omega) (by omega) (by omega)
  rw [← hv.out.1, ← hv.out.2.1, ← hv.out.2.2, Int.toNat_of_nonneg hs0, Int.toNat_of_nonneg (show 0 ≤ sumI l by omega), Int.toNat_of_nonneg (show 0 ≤ c by omega)] at hr
  unfold RtP at hr
  obtain ⟨SS, hSS⟩ : ∃ z, z = sumI s := ⟨_, rfl⟩
  obtain ⟨LL, hLL⟩ : ∃ z, z = sumI l := ⟨_, rfl⟩
  rw [← hSS, ← hLL] at hr
  have HSS := Lib.hid hSS
  have HLL := Lib.hid hLL
  have H3 := Lib.hid hn3
  have H4 := Lib.hid hn4
  have H5 := Lib.hid hn5
  have HR := Lib.hid hr
  have hll : (s.length : Int) ≤ (l.length : Int) := by omega
  have HEL := Lib.hid hel
  have HEM := Lib.hid hem
  clear hSS hLL hn3 hn4 hn5 hr hN hD hF hz hss hel hem
  go_enter Try.func31, Try.ntmps31
  go_wp2_with (go_at_call 46; refine hsf'.mono ?_; rintro e w1 ⟨rfl, rfl⟩)
  obtain ⟨w1, hw1⟩ : ∃ w1, w1 = w.alloc (.cells #[.int .i64 0, .int .i64 0] 52) := ⟨_, rfl⟩
  have HB1 : Hid (Below w.heap.size w w1) := Lib.hid (by rw [hw1]; exact HB0.out)
  have HK1 : Hid (w1.heap[w.heap.size]? = some (.cells #[.int .i64 0, .int .i64 0] 52 (0, 0))) := Lib.hid (by rw [hw1]; exact HBK.out)
  rw [← hw1]
  clear hw1
  go_loop [9, 10, 11, 22] (fun s9 s10 _ s22 => ∃ (kk : Nat) (p q : Int), kk ≤ s.length ∧ s22 = .int .i64 kk ∧ s9 = .int .i64 p ∧ s10 = .int .i64 q ∧ 0 ≤ p ∧ p ≤ 1000000000000 ∧ 0 ≤ q ∧ q ≤ 1000000000000 ∧ Aside (p = sumI (s.take kk)) ∧ Aside (q = sumI (l.take kk))) (fun _ _ _ i => s.length - (intOf i).toNat)
  case atStart => exact ⟨0, 0, 0, Nat.zero_le _, rfl, rfl, rfl, by omega, by omega, by omega, by omega, (show Aside _ from rfl), (show Aside _ from rfl)⟩
  case round =>
    obtain ⟨kk, p, q, hkk, rfl, rfl, rfl, hp0, hp1, hq0, hq1, P, Q⟩ := hrel
    by_cases hlt : kk < s.length
    · have hltz : (kk : Int) < (s.length : Int) := by omega
      have hltz2 : (kk : Int) < (l.length : Int) := by omega
      obtain ⟨x, hx⟩ : ∃ x, s[kk]? = some x := ⟨s[kk], by simp [hlt]⟩
      obtain ⟨y, hy⟩ : ∃ x, l[kk]? = some x := ⟨l[kk]'(by have := H3.out; omega), by simp⟩
      obtain ⟨b, off, hao, hc⟩ := HEL.out kk x hx
      obtain ⟨b2, off2, hao2, hd⟩ := HEM.out kk y hy
      subst hao hao2
      have hlt0 := World.block_lt_of_cell? w ⟨b, off + kk * 1 + 0, none⟩ (hc 0 _ rfl)
      have hlt2 := World.block_lt_of_cell? w ⟨b2, off2 + kk * 1 + 0, none⟩ (hd 0 _ rfl)
      have c0 : w1.cell? ⟨b, off + kk, none⟩ = some (.int .i64 x) := by have h := (HB1.out.cell (p := ⟨b, off + kk * 1 + 0, none⟩) hlt0).trans (hc 0 _ rfl); simpa using h
      have d0 : w1.cell? ⟨b2, off2 + kk, none⟩ = some (.int .i64 y) := by have h := (HB1.out.cell (p := ⟨b2, off2 + kk * 1 + 0, none⟩) hlt2).trans (hd 0 _ rfl); simpa using h
      obtain ⟨hx0, hx1⟩ := H4.out x (List.mem_of_getElem? hx)
      obtain ⟨hy0, hy1⟩ := H5.out y (List.mem_of_getElem? hy)
      have hnp : Hid (p + x = sumI (s.take (kk + 1))) := Lib.hid (by rw [sumI_take hx, P.out])
      have hnq : Hid (q + y = sumI (l.take (kk + 1))) := Lib.hid (by rw [sumI_take hy, Q.out])
      have h6 := sumI_bd (l := s.take (kk + 1)) fun x hx => H4.out x (List.mem_of_mem_take hx)
      have h7 : ((s.take (kk + 1)).length : Int) ≤ 500 := by simp; omega
      have h8 := sumI_bd (l := l.take (kk + 1)) fun x hx => H5.out x (List.mem_of_mem_take hx)
      have h9 : ((l.take (kk + 1)).length : Int) ≤ 500 := by simp; omega
      have hpn : p + x ≤ 1000000000000 := by have := hnp.out; omega
      have hqn : q + y ≤ 1000000000000 := by have := hnq.out; omega
      clear hx hy hc hd h6 h7 h8 h9
      go_wp2
      go_round
      case rel => exact ⟨kk + 1, p + x, q + y, by omega, by go_num, rfl, rfl, by omega, by omega, by omega, by omega, (show Aside _ from hnp.out), (show Aside _ from hnq.out)⟩
      case measure => simp [intOf]; omega
    · obtain rfl : kk = s.length := by omega
      obtain rfl : p = SS := by rw [P.out, List.take_length, HSS.out]
      obtain rfl : q = LL := by rw [Q.out, ← H3.out, List.take_length, HLL.out]
      have hr := HR.out w1
      go_wp2_with (go_at_call 47; refine hr.mono ?_; rintro e w2 ⟨rfl, hb2⟩; have hK2 := (hb2.block w.heap.size (lt_of_block HK1.out)).trans HK1.out; have c0 := (cell_of_block (i := 0) hK2).trans rfl; have c1 := (cell_of_block (i := 1) hK2).trans rfl; have f0 := froz_of_block (i := 0) hK2; have f1 := froz_of_block (i := 1) hK2; have hlt := lt_of_block hK2; have HB2 := Lib.hid (HB1.out.thru hb2); clear hb2 hK2)
      exact bodyPost_ret (v := .tuple #[.agg #[.int .i64 N, .int .i64 D], .int .i64 F]) (by simp [results, Try.results31, go_sem, c0, c1]) rfl (RtP.mk rfl rfl rfl ((HB2.out.setCell (Nat.le_refl _) _).setCell (Nat.le_refl _) _))

end Go.Proofs.Ytfkmdojnkdoffaa

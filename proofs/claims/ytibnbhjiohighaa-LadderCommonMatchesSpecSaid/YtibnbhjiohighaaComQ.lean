/- Common of the program: the rates. -/
import Derived.Test.YtibnbhjiohighaaComP
namespace Go.Proofs.Ytibnbhjiohighaa
open Go.RowKit

theorem ratesAt_next {R L : List Int} {k : Nat} {z : Int} (hz : L[k]? = some z) : ratesAt R (L.take (k + 1)) = ratesAt R (L.take k) ++ [R.getD z.toNat 0] := by
  rw [take_next hz]; simp [ratesAt]

set_option maxRecDepth 100000 in
set_option maxHeartbeats 4000000 in
theorem Common_any (w : World) (F : List Flm) (W : List Int) (m : Int) (fv wv : Value) (hF : Sl w 1 encFl fv F) (hFW : ∀ f, f ∈ F → WfF w f) (hW : Sl w 1 encI wv W) :
    Calls Try.prog 4 #[fv, wv, .int .i64 m] w (CoP w F W m) := by
  have HFS := Lib.hid hF
  have HFW := Lib.hid hFW
  have HWS := Lib.hid hW
  have HZ := Lib.hid (fun (h : comFa F W m = 0) => com_zero h)
  obtain ⟨w1, hw1⟩ : ∃ w1, w1 = (w.alloc (.cells #[fv] 22)).alloc (.cells #[wv] 23) := ⟨_, rfl⟩
  have HB1 : Hid (Below w.heap.size w w1) := Lib.hid (by rw [hw1]; exact ((Below.refl w.heap.size w).alloc (Nat.le_refl _) _).alloc (by simp) _)
  have HK1 : Hid (w1.heap[w.heap.size]? = some (.cells #[fv] 22 (0, 0))) := Lib.hid (by rw [hw1, Below.heap_alloc _ _ _ (by simp)]; exact block_new w _)
  have HK2 : Hid (w1.heap[w.heap.size + 1]? = some (.cells #[wv] 23 (0, 0))) := Lib.hid (by rw [hw1]; have := block_new (w.alloc (.cells #[fv] 22)) (.cells #[wv] 23); simpa using this)
  have HW1 := Lib.hid hw1
  have HCF := Lib.hid (comFault_any w1 F W m fv wv (hF.below HB1.out (Nat.le_refl _)) (fun f hf => ⟨(hFW f hf).1.below HB1.out (Nat.le_refl _), (hFW f hf).2⟩) (hW.below HB1.out (Nat.le_refl _)))
  obtain ⟨q, hq⟩ : ∃ q, q = comFa F W m := ⟨_, rfl⟩
  rw [← hq] at HCF HZ
  have HQ := Lib.hid hq
  obtain ⟨fo, fcap, rfl, hfc, hfm, _, _⟩ := hF
  obtain ⟨wo, wcap, rfl, hwc, hwm, _, _⟩ := hW
  unfold maxLen at hfm hwm
  have hl1 := lt_of_blk HK1.out
  have hl2 := lt_of_blk HK2.out
  have a1 : w1.cell? ⟨w.heap.size, 0, none⟩ = some (.slice fo F.length fcap) := (cell_of_block HK1.out).trans rfl
  have a2 : w1.cell? ⟨w.heap.size + 1, 0, none⟩ = some (.slice wo W.length wcap) := (cell_of_block HK2.out).trans rfl
  clear hFW hw1 hq
  go_enter Try.func4, Try.ntmps4
  go_upto_region 1 with (fail)
  rw [← HW1.out]
  go_upto_region 2 with (go_at_call 8; refine HCF.out.mono ?_; rintro e w2 ⟨rfl, hb2⟩; have HB2 := Lib.hid hb2; clear hb2)
  by_cases hq0 : q = 0
  case neg =>
    go_wp2
    go_ret3
    exact CoP.bad HQ.out hq0 (HB1.out.trans (HB2.out.mono HB1.out.size))
  subst hq0
  obtain ⟨h50, hck, hwl, hwb, hmb, h14⟩ := HZ.out (by first | rfl | trivial)
  obtain ⟨M, rfl⟩ : ∃ M : Nat, m = (M : Int) := ⟨m.toNat, by omega⟩
  have HBW := Lib.hid (HB1.out.trans (HB2.out.mono HB1.out.size))
  have hwq : w.heap.size ≤ w2.heap.size := HBW.out.size
  have HRT := Lib.hid (ratesOf_any w2 F _ (HFS.out.below HBW.out (Nat.le_refl _)) (fun f hf => ⟨(HFW.out f hf).1.below HBW.out (Nat.le_refl _), (HFW.out f hf).2⟩) h50 (fun f hf => (checkR_zero (hck f hf)).1))
  have HQU : Hid (∀ f, f ∈ F → ∀ x, x ∈ f.l → 0 ≤ x.qu ∧ x.qu ≤ 1000000) := Lib.hid (fun f hf x hx => ((checkR_zero (hck f hf)).2.2 x hx).2.2.2)
  have HWB := Lib.hid hwb
  have HWL := Lib.hid hwl
  obtain ⟨R, hR⟩ : ∃ R, R = rts F := ⟨_, rfl⟩
  rw [← hR] at HRT h14
  have HR := Lib.hid hR
  have b1 := (HB2.out.cell (p := ⟨w.heap.size, 0, none⟩) hl1).trans a1
  have b2 := (HB2.out.cell (p := ⟨w.heap.size + 1, 0, none⟩) hl2).trans a2
  have hs2 := HB2.out.size
  clear hck hwb hwl a1 a2 hR HZ
  go_upto_region 5 with (go_at_call 9; refine HRT.out.mono ?_; rintro e w3 ⟨v3, rfl, ho3, hb3⟩; obtain ⟨ro, rcap, rfl, _, hrm, _, _⟩ := ho3.sl encI_len; unfold maxLen at hrm; have HO3 := Lib.hid (ho3.sl encI_len); have HB3 := Lib.hid hb3; clear ho3 hb3)
  obtain ⟨w4, hw4⟩ : ∃ w4, w4 = w3.alloc (.cells #[.slice ro R.length rcap] 23) := ⟨_, rfl⟩
  have HK4 : Hid (w4.heap[w3.heap.size]? = some (.cells #[.slice ro R.length rcap] 23 (0, 0))) := Lib.hid (by rw [hw4]; exact block_new w3 _)
  have HB4 : Hid (Below w3.heap.size w3 w4) := Lib.hid (by rw [hw4]; exact (Below.refl _ _).alloc (Nat.le_refl _) _)
  have HW4 := Lib.hid hw4
  have hs3 := HB3.out.size
  have HBV := Lib.hid ((HBW.out.trans (HB3.out.mono hwq)).trans (HB4.out.mono (Nat.le_trans hwq hs3)))
  have HR4 := Lib.hid (HO3.out.below HB4.out (Nat.le_refl _))
  have hs4 := HB4.out.size
  have hl4 := lt_of_blk HK4.out
  have hlA : w.heap.size < w2.heap.size := Nat.lt_of_lt_of_le hl1 hs2
  have hlB : w.heap.size + 1 < w2.heap.size := Nat.lt_of_lt_of_le hl2 hs2
  have HA4 : Hid (w4.cell? ⟨w.heap.size, 0, none⟩ = some (.slice fo F.length fcap)) := Lib.hid ((HB4.out.cell (p := ⟨w.heap.size, 0, none⟩) (Nat.lt_of_lt_of_le hlA hs3)).trans ((HB3.out.cell (p := ⟨w.heap.size, 0, none⟩) hlA).trans b1))
  have HC4 : Hid (w4.cell? ⟨w.heap.size + 1, 0, none⟩ = some (.slice wo W.length wcap)) := Lib.hid ((HB4.out.cell (p := ⟨w.heap.size + 1, 0, none⟩) (Nat.lt_of_lt_of_le hlB hs3)).trans ((HB3.out.cell (p := ⟨w.heap.size + 1, 0, none⟩) hlB).trans b2))
  have c4 : w4.cell? ⟨w3.heap.size, 0, none⟩ = some (.slice ro R.length rcap) := (cell_of_block HK4.out).trans rfl
  have hlA4 : w.heap.size < w4.heap.size := Nat.lt_of_lt_of_le hlA (Nat.le_trans hs3 hs4)
  have hlB4 : w.heap.size + 1 < w4.heap.size := Nat.lt_of_lt_of_le hlB (Nat.le_trans hs3 hs4)
  have HCH := Lib.hid (choose_any w4 R.length M w.heap.size w3.heap.size (w.heap.size + 1) (by omega) (by omega) (comV F W R) (comV_nil F W R) (fun X v L hX hL hok => by
    have hbx : Below w.heap.size w X := HBV.out.trans (hX.mono (Nat.le_trans hwq (Nat.le_trans hs3 hs4)))
    exact clo_any F W R L w.heap.size w3.heap.size (w.heap.size + 1) _ _ _ v X (HFS.out.below hbx (Nat.le_refl _)) (fun f hf => ⟨(HFW.out f hf).1.below hbx (Nat.le_refl _), (HFW.out f hf).2⟩) (HWS.out.below hbx (Nat.le_refl _)) (HR4.out.below hX (Nat.le_refl _)) hL hok.rng HWL.out HQU.out HWB.out h50
      ((hX.cell (p := ⟨w.heap.size, 0, none⟩) hlA4).trans HA4.out) ((hX.cell (p := ⟨w3.heap.size, 0, none⟩) hl4).trans c4) ((hX.cell (p := ⟨w.heap.size + 1, 0, none⟩) hlB4).trans HC4.out)))
  clear hw4 b1 b2
  rw [← HW4.out]
  go_upto_region 6 with (go_at_call 10; refine HCH.out.mono ?_; rintro e w6 ⟨v6, B, rfl, hs6, hb6, hbest⟩; have HB6 := Lib.hid hb6; have HBS := Lib.hid hbest; have HS6 := Lib.hid hs6; obtain ⟨bo, bcap, rfl, hbc, hbm, _, hbel⟩ := hs6; unfold maxLen at hbm; have HBE := Lib.hid hbel; clear hb6 hbest hbel)
  have c6 := (HB6.out.cell (p := ⟨w3.heap.size, 0, none⟩) hl4).trans c4
  have HR6 := Lib.hid (HR4.out.below HB6.out (Nat.le_refl _))
  obtain ⟨_, _, hre, _, _, _, hrel⟩ := HR6.out
  simp only [Value.slice.injEq, true_and] at hre
  obtain ⟨rfl, rfl⟩ := hre
  have HRE := Lib.hid hrel
  have HRG := Lib.hid HBS.out.1.rng
  have hbl := HBS.out.1.len
  have HB7 := Lib.hid (HBV.out.trans (HB6.out.mono (Nat.le_trans hwq (Nat.le_trans hs3 hs4))))
  have HLL := Lib.hid (fun k => (show (ratesAt R (B.take k)).length ≤ 100 by unfold ratesAt; rw [List.length_map, List.length_take]; omega))
  have hl6 : w3.heap.size < w6.heap.size := Nat.lt_of_lt_of_le hl4 HB6.out.size
  clear hrel c4
  go_wp2
  go_loopg [13, 35] B.length (fun gg s13 s35 wr => ∃ j : Nat, j ≤ B.length ∧ B.length - j ≤ gg ∧ s35 = .int .i64 j ∧ Aside (Own wr w6.heap.size 3 1 encI s13 (ratesAt R (B.take j))) ∧ Aside (Below w6.heap.size w6 wr))
  case atStart => exact ⟨0, Nat.zero_le _, by omega, by go_num, Own.nil, Below.refl _ _⟩
  case round =>
    obtain ⟨j, hj, hg, rfl, OW, BW⟩ := hrel
    have OW := Lib.hid OW.out
    have BW := Lib.hid BW.out
    by_cases hlt : j < B.length
    · have hltz : (j : Int) < (B.length : Int) := by omega
      obtain ⟨z, hz⟩ : ∃ z, B[j]? = some z := ⟨B[j], by simp [hlt]⟩
      obtain ⟨b, off, rfl, hcc⟩ := HBE.out j z hz
      have e0 : w6.cell? ⟨b, off + j, none⟩ = some (.int .i64 z) := by have h := hcc 0 _ rfl; simpa using h
      have d0 := (BW.out.cell (p := ⟨b, off + j, none⟩) (World.block_lt_of_cell? w6 _ e0)).trans e0
      obtain ⟨hz0, hz1⟩ := HRG.out z (List.mem_of_getElem? hz)
      obtain ⟨n, rfl⟩ : ∃ n : Nat, z = (n : Int) := ⟨z.toNat, by omega⟩
      have hn : n < R.length := by omega
      obtain ⟨y, hy⟩ : ∃ y, R[n]? = some y := ⟨R[n], by simp [hn]⟩
      obtain ⟨br, or, rfl, hcr⟩ := HRE.out n y hy
      have e1 : w6.cell? ⟨br, or + n, none⟩ = some (.int .i64 y) := by have h := hcr 0 _ rfl; simpa using h
      have d1 := (BW.out.cell (p := ⟨br, or + n, none⟩) (World.block_lt_of_cell? w6 _ e1)).trans e1
      have d2 := (BW.out.cell (p := ⟨w3.heap.size, 0, none⟩) hl6).trans c6
      have hnx : Hid (ratesAt R (B.take (j + 1)) = ratesAt R (B.take j) ++ [y]) := Lib.hid (by rw [ratesAt_next hz, Int.toNat_natCast, getD_of hy])
      have hll := Lib.hid (HLL.out j)
      obtain ⟨so, sn, sc, rfl⟩ := Own.slv encI_len OW.out
      have hsz : w6.heap.size ≤ wr.heap.size := BW.out.size
      clear hz hcc e0 hy hcr e1
      go_wp2_with (at_builtin; go_loud (refine wpList_push (W := wr) (v := .slice so sn sc) rfl _ _ 23 rfl slI rfl rfl y rfl rfl rfl OW.out rfl (by have := hll.out; omega) hsz ?_); intro v8 w8 ho8 hb8; rw [← hnx.out] at ho8; have HO8 := Lib.hid ho8; have HB8 := Lib.hid (BW.out.trans hb8); clear ho8 hb8)
      go_roundg (B.length - (j + 1))
      case measure => omega
      case rel => exact ⟨j + 1, by omega, by omega, by go_num, HO8.out, HB8.out⟩
    · obtain rfl : j = B.length := by omega
      have hltz : ¬ (B.length : Int) < (B.length : Int) := by omega
      have hO := OW.out
      rw [List.take_length] at hO
      have HSO := Lib.hid (hO.sl encI_len)
      clear hO OW
      go_wp2
      go_ret3
      exact CoP.good HQ.out rfl HSO.out (HB7.out.trans (BW.out.mono HB7.out.size)) (by rw [← HR.out]; exact HBS.out) (by rw [← HR.out]) (by rw [← HR.out])
end Go.Proofs.Ytibnbhjiohighaa

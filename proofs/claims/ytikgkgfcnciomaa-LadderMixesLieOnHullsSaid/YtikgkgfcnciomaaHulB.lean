/- best of the program. -/
import Derived.Test.YtikgkgfcnciomaaHulW
namespace Go.Proofs.Ytikgkgfcnciomaa
open Go.RowKit

theorem bst_mem (l : List Rng) : ∀ i x, x ∈ bst l i → x < i
  | 0, x, h => by simp [bst] at h
  | i + 1, x, h => by
    have ih := bst_mem l i
    unfold bst at h
    split at h
    · split at h
      · rcases List.mem_or_eq_of_mem_set h with h | h
        · have := ih x h; omega
        · omega
      · have := ih x h; omega
    · rw [List.mem_append, List.mem_singleton] at h
      rcases h with h | h
      · have := ih x h; omega
      · omega
theorem bst_len (l : List Rng) : ∀ i, (bst l i).length ≤ i
  | 0 => by simp [bst]
  | i + 1 => by
    have ih := bst_len l i
    unfold bst
    split
    · split
      · rw [List.length_set]; omega
      · omega
    · rw [List.length_append]; simp; exact ih
theorem zL_set (s : List Nat) (i x : Nat) : zL (s.set i x) = (zL s).set i (x : Int) := by simp [zL, List.map_set]

set_option maxRecDepth 100000 in
set_option maxHeartbeats 4000000 in
theorem best_any (w : World) (l : List Rng) (v : Value) (hl : Sl w 4 encR v l) (hlen : l.length ≤ 100) :
    Calls Try.prog 28 #[v] w (SlRet w 1 encI (zL (bst l l.length))) := by
  have HSL := Lib.hid hl
  obtain ⟨ao, cap, rfl, hcap, hmax, hnil, hel⟩ := hl
  unfold maxLen at hmax
  have HEL := Lib.hid hel
  clear hel
  go_enter Try.func28, Try.ntmps28
  go_wp2
  go_loopg [3, 9] l.length (fun gg s3 s9 wr => ∃ i : Nat, i ≤ l.length ∧ l.length - i ≤ gg ∧ s9 = .int .i64 i ∧ Aside (Own wr w.heap.size 3 1 encI s3 (zL (bst l i))) ∧ Aside (Below w.heap.size w wr))
  case atStart => exact ⟨0, Nat.zero_le _, by omega, rfl, (show Own _ _ _ _ _ _ (zL []) from Own.nil), Below.refl _ w⟩
  obtain ⟨i, hi, hg, rfl, OW, BW⟩ := hrel
  by_cases hlt : i < l.length
  · have hltz : (i : Int) < (l.length : Int) := by omega
    obtain ⟨x, hx⟩ : ∃ x, l[i]? = some x := ⟨l[i], by simp [hlt]⟩
    obtain ⟨b, off, hao, hc⟩ := HEL.out i x hx
    subst hao
    have hblt : b < w.heap.size := World.block_lt_of_cell? w ⟨b, off + i * 4 + 0, none⟩ (hc 0 _ rfl)
    have c0 : wr.cell? ⟨b, off + i * 4, none⟩ = some (.string x.na) := (BW.out.cell (p := ⟨b, off + i * 4 + 0, none⟩) hblt).trans (hc 0 _ rfl)
    have c1 := (BW.out.cell (p := ⟨b, off + i * 4 + 1, none⟩) hblt).trans (hc 1 _ rfl)
    have c2 := (BW.out.cell (p := ⟨b, off + i * 4 + 2, none⟩) hblt).trans (hc 2 _ rfl)
    have c3 := (BW.out.cell (p := ⟨b, off + i * 4 + 3, none⟩) hblt).trans (hc 3 _ rfl)
    have hszw := BW.out.size
    have hbw : b < wr.heap.size := by omega
    have hol := bst_len l i
    have HOM := Lib.hid (bst_mem l i)
    have HST : Hid (bst l (i + 1) = if 0 < (bst l i).length ∧ rA l ((bst l i).getD ((bst l i).length - 1) 0) = x.ra
      then (if qA l ((bst l i).getD ((bst l i).length - 1) 0) < x.qu then (bst l i).set ((bst l i).length - 1) i else bst l i)
      else bst l i ++ [i]) := Lib.hid (by
        have e1 : rA l i = x.ra := by unfold rA; rw [getD_of hx]
        have e2 : qA l i = x.qu := by unfold qA; rw [getD_of hx]
        rw [← e1, ← e2]; rfl)
    have HOW := Lib.hid OW.out
    obtain ⟨o, ho⟩ : ∃ o, o = bst l i := ⟨_, rfl⟩
    rw [← ho] at HOM HOW hol HST
    obtain ⟨oo, ocap, rfl, hocap, homax, _, hoel⟩ := Own.sl OW.out encI_len
    rw [← ho, zL_len] at HOW hocap ⊢
    rw [← ho] at hoel
    unfold maxLen at homax
    have HOEL := Lib.hid hoel
    have HB1 := Lib.hid (BW.out.alloc hszw (boxR x))
    have HK1 := Lib.hid (block_new wr (boxR x))
    have HO1 := Lib.hid (HOW.out.al (boxR x))
    clear hx hc OW ho hoel
    obtain ⟨wq, rfl⟩ : ∃ wq, wq = wr := ⟨_, rfl⟩
    have w2 : IntKind.i64.wrap ((o.length : Int) - 1) = (o.length : Int) - 1 := IntWalk.i64_in _ (by omega)
    go_upto_region 6 with (fail)
    clear w2
    obtain ⟨wo, hwo⟩ : ∃ wo, wo = wq.alloc (boxR x) := ⟨_, rfl⟩
    rw [show wq.alloc (.cells #[.string x.na, .int .i64 x.ra, .int .i64 x.he, .int .i64 x.qu] 33) = wo from hwo.symm]
    rw [← hwo] at HB1 HK1 HO1
    have hszo : wq.heap.size < wo.heap.size := lt_of_block HK1.out
    have HQO : Hid (Below wq.heap.size wq wo) := Lib.hid (by rw [hwo]; exact (Below.refl _ _).alloc (Nat.le_refl _) _)
    clear hwo c0 c1 c2 c3
    have k1 := (cell_of_block (i := 1) HK1.out).trans rfl
    have k3 := (cell_of_block (i := 3) HK1.out).trans rfl
    by_cases h0 : o.length = 0
    · have d1 : decide ((0 : Int) ≤ (o.length : Int) - 1) = false := decide_eq_false (by omega)
      have d2 : decide ((1 : Int) ≤ (o.length : Int)) = false := decide_eq_false (by omega)
      have HFO : Hid (o ++ [i] = bst l (i + 1)) := Lib.hid (by rw [HST.out, if_neg (fun h => by omega)])
      have hcnt : Hid (((zL o).length + 1) * 8 ≤ 140737488355328) := Lib.hid (by rw [zL_len]; omega)
      clear h0
      go_cut [31] (fun s31 w4 => s31 = .bool false ∧ ∃ n, w4 = wo.drewN n)
      case first =>
        go_quiet (fail)
        go_wp2
        go_meet
        exact ⟨rfl, _, rfl⟩
      obtain ⟨rfl, nq, rfl⟩ := hcut
      have HO2 := Lib.hid (HO1.out.drewN nq)
      have HB2 := Lib.hid (below_drewN HB1.out nq)
      have hszj2 : w.heap.size ≤ (wo.drewN nq).heap.size := HB1.out.size
      clear k1 k3 d1 d2
      go_wp2_with (at_builtin; refine wpList_push rfl _ _ 23 rfl slI rfl rfl (i : Int) rfl rfl rfl HO2.out rfl hcnt.out hszj2 ?_; intro v5 w5 ho5 hb5; obtain ⟨ao6, L6, cp6, rfl⟩ := Own.slv encI_len ho5; have HO5 := Lib.hid ho5; have HB5 := Lib.hid (HB2.out.trans hb5); clear ho5 hb5)
      go_roundg (l.length - (i + 1))
      case measure => omega
      case rel => exact ⟨i + 1, by omega, by omega, by go_num, (show Own _ _ _ _ _ _ _ by rw [← HFO.out, zL_snoc]; exact HO5.out), HB5.out⟩
    · obtain ⟨q, hq⟩ : ∃ q, q = o.getD (o.length - 1) 0 := ⟨_, rfl⟩
      have hqi : q < i := by rw [hq]; exact HOM.out _ (mem_getD.2 ⟨o.length - 1, by omega, rfl⟩)
      obtain ⟨g, cp, hv, hgb, hgl, _, _, _, hfz⟩ := Own.getk encI_len HOW.out (by intro h; exact h0 (by rw [← zL_len, h]; rfl))
      simp only [Value.slice.injEq] at hv
      obtain ⟨rfl, hjunk, rfl⟩ := hv
      clear hjunk
      obtain ⟨b3, off3, hao3, hd3⟩ := HOEL.out (o.length - 1) (q : Int) (by rw [hq]; exact zL_get (by omega))
      simp only [Option.some.injEq, Addr.mk.injEq, and_true] at hao3
      obtain ⟨rfl, rfl⟩ := hao3
      have e3 : wq.cell? ⟨g, o.length - 1, none⟩ = some (.int .i64 (q : Int)) := by have := hd3 0 _ rfl; simpa using this
      have cq := (HQO.out.cell (p := ⟨g, o.length - 1, none⟩) hgl).trans e3
      have hfq : wo.frozen? ⟨g, o.length - 1, none⟩ = false := (HQO.out.frozen (p := ⟨g, o.length - 1, none⟩) hgl).trans (hfz _)
      obtain ⟨y, hy⟩ : ∃ y, l[q]? = some y := ⟨l[q]'(by omega), by simp⟩
      obtain ⟨b4, off4, hao4, hc4⟩ := HEL.out q y hy
      simp only [Option.some.injEq, Addr.mk.injEq, and_true] at hao4
      obtain ⟨rfl, rfl⟩ := hao4
      have y1 := (HB1.out.cell (p := ⟨b, off + q * 4 + 1, none⟩) hblt).trans (hc4 1 _ rfl)
      have y3 := (HB1.out.cell (p := ⟨b, off + q * 4 + 3, none⟩) hblt).trans (hc4 3 _ rfl)
      have hST2 : bst l (i + 1) = if y.ra = x.ra then (if y.qu < x.qu then o.set (o.length - 1) i else o) else o ++ [i] := by
        rw [HST.out, ← hq]
        unfold rA qA
        rw [getD_of hy]
        by_cases h : y.ra = x.ra
        · rw [if_pos ⟨by omega, h⟩, if_pos h]
        · rw [if_neg (fun h2 => h h2.2), if_neg h]
      have HST2 := Lib.hid hST2
      have hgo : g < wo.heap.size := by omega
      have HSE : Hid (Own (wo.setCell ⟨g, o.length - 1, none⟩ (.int .i64 (i : Int))) w.heap.size 3 1 encI (.slice (some ⟨g, 0, none⟩) o.length ocap) (zL (o.set (o.length - 1) i))) := Lib.hid (by
        rw [zL_set]
        have h := Own.store (i := o.length - 1) (j := 0) (x := (q : Int)) (y := (i : Int)) (u := .int .i64 (i : Int)) encI_len HO1.out (by rw [zL_len]) (by rw [hq]; exact zL_get (by omega)) (by omega) rfl
        simpa using h)
      have d1 : decide ((0 : Int) ≤ (o.length : Int) - 1) = true := decide_eq_true (by omega)
      have d2 : (1 : Int) ≤ (o.length : Int) := by omega
      have w3 : ((o.length : Int) - 1).toNat = o.length - 1 := by omega
      have w4 : (0 : Int) ≤ (o.length : Int) - 1 := by omega
      have w5 : (o.length : Int) - 1 < (o.length : Int) := by omega
      have hqz : (q : Int) < (l.length : Int) := by omega
      clear h0 hq hd3 hy hc4 hfz hST2 e3
      go_cut [31] (fun s31 w4 => s31 = .bool (y.ra == x.ra) ∧ ∃ n, w4 = wo.drewN n)
      case first =>
        go_quiet (fail)
        go_wp2
        go_meet
        exact ⟨rfl, _, rfl⟩
      obtain ⟨rfl, nq, rfl⟩ := hcut
      cases hB1 : (y.ra == x.ra)
      case false =>
        have HFO : Hid (o ++ [i] = bst l (i + 1)) := Lib.hid (by rw [HST2.out, if_neg (by simpa using hB1)])
        have hcnt : Hid (((zL o).length + 1) * 8 ≤ 140737488355328) := Lib.hid (by rw [zL_len]; omega)
        have HO2 := Lib.hid (HO1.out.drewN nq)
        have HB2 := Lib.hid (below_drewN HB1.out nq)
        have hszj2 : w.heap.size ≤ (wo.drewN nq).heap.size := HB1.out.size
        clear k1 k3 hB1 cq hfq y1 y3 w3 w4 w5 d1
        go_wp2_with (at_builtin; refine wpList_push rfl _ _ 23 rfl slI rfl rfl (i : Int) rfl rfl rfl HO2.out rfl hcnt.out hszj2 ?_; intro v5 w5 ho5 hb5; obtain ⟨ao6, L6, cp6, rfl⟩ := Own.slv encI_len ho5; have HO5 := Lib.hid ho5; have HB5 := Lib.hid (HB2.out.trans hb5); clear ho5 hb5)
        go_roundg (l.length - (i + 1))
        case measure => omega
        case rel => exact ⟨i + 1, by omega, by omega, by go_num, (show Own _ _ _ _ _ _ _ by rw [← HFO.out, zL_snoc]; exact HO5.out), HB5.out⟩
      case true =>
        have hye : y.ra = x.ra := by simpa using hB1
        have HST3 : Hid (bst l (i + 1) = if y.qu < x.qu then o.set (o.length - 1) i else o) := Lib.hid (by rw [HST2.out, if_pos hye])
        clear hye hB1 HST2
        go_upto_region 7 with (fail)
        go_cut [42] (fun s42 w4 => s42 = .bool (decide (y.qu < x.qu)) ∧ ∃ n, w4 = (wo.drewN nq).drewN n)
        case first =>
          go_quiet (fail)
          go_wp2
          go_meet
          exact ⟨rfl, _, rfl⟩
        obtain ⟨rfl, nq2, rfl⟩ := hcut
        cases hB2 : decide (y.qu < x.qu)
        case false =>
          have HFO : Hid (o = bst l (i + 1)) := Lib.hid (by rw [HST3.out, if_neg (by simpa using hB2)])
          have HO2 := Lib.hid (HO1.out.drewN (nq + nq2))
          have HB2 := Lib.hid (below_drewN HB1.out (nq + nq2))
          clear hB2
          go_wp2
          go_roundg (l.length - (i + 1))
          case measure => omega
          case rel => exact ⟨i + 1, by omega, by omega, by go_num, (show Own _ _ _ _ _ _ _ by rw [← HFO.out]; exact HO2.out), HB2.out⟩
        case true =>
          have HFO : Hid (o.set (o.length - 1) i = bst l (i + 1)) := Lib.hid (by rw [HST3.out, if_pos (by simpa using hB2)])
          clear hB2
          go_wp2
          go_roundg (l.length - (i + 1))
          case measure => omega
          case rel => exact ⟨i + 1, by omega, by omega, by go_num, (show Own _ _ _ _ _ _ _ by rw [← HFO.out]; exact HSE.out), (by first | exact (below_drewN (HB1.out.setCell (p := ⟨g, o.length - 1, none⟩) hgb _) (nq + nq2)) | exact (below_drewN HB1.out (nq + nq2)).setCell (p := ⟨g, o.length - 1, none⟩) hgb _)⟩
  · obtain rfl : i = l.length := by omega
    have HS := Lib.hid (Own.sl OW.out encI_len)
    have HBF := Lib.hid BW.out
    go_wp2
    go_ret
    exact SlRet.mk HS.out HBF.out
end Go.Proofs.Ytikgkgfcnciomaa

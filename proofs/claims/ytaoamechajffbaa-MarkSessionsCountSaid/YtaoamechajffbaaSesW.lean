/- MarkSessionsCount: the walk. -/
import Derived.Test.YtaoamechajffbaaSesL
import Derived.Test.YtaoamechajffbaaCntLw
namespace Go.Proofs.Ytaoamechajffbaa
open Go.RowKit

theorem arrNeq (a : Int) (w : World) : (binOp .neq 30 (.agg #[.int .i64 a, .int .i64 a, .int .i64 a, .int .i64 a, .int .i64 a]) (.agg #[.int .i64 a, .int .i64 a, .int .i64 a, .int .i64 a, .int .i64 a])).run Try.prog w = .ok (.bool false) w := by
  have h2 : (Op.equalIn 10000 30 (.agg #[.int .i64 a, .int .i64 a, .int .i64 a, .int .i64 a, .int .i64 a]) (.agg #[.int .i64 a, .int .i64 a, .int .i64 a, .int .i64 a, .int .i64 a])).run Try.prog w = .ok true w := by
    obtain ⟨i0, hi, _⟩ := info_parts infoI
    have h5 : List.range 5 = [0, 1, 2, 3, 4] := rfl
    rw [run_equalIn_array w 9999 _ _ Try.underlying30 hi, h5]
    simp [Op.eqItems, go_sem, cellsI]
  simp [go_sem, h2]
theorem grownBy_set2 (w : World) (g i : Nat) (v : Value) : w.grownBy (w.setCell ⟨g, i, none⟩ v) (some g) :=
  have h : Below g w (w.setCell ⟨g, i, none⟩ v) := (Below.refl g w).setCell (Nat.le_refl _) _
  ⟨h.os, h.tape, h.output, h.size, fun k hk hne => Below.heap_setCell w ⟨g, i, none⟩ v k (fun e => hne (by rw [e]))⟩
theorem pcN_next {l : List Prt} {n : Nat} {p : Prt} (hx : l[n]? = some p) (a : ByteArray) : pcN (l.take (n + 1)) a = pcN (l.take n) a + if (p.ad.toList == a.toList) = true then 1 else 0 := by
  rw [take_next hx]
  unfold pcN
  rw [List.countP_append, List.countP_singleton]
theorem pcN_le (l : List Prt) (a : ByteArray) : pcN l a ≤ l.length := List.countP_le_length
set_option maxRecDepth 100000 in
set_option maxHeartbeats 4000000 in
theorem sessions_any (w : World) (l : List Prt) (S : Int) (u : Value) (hl : Sl w 3 encP u l) (hw : ∀ p, p ∈ l → WfP p) (hS : -9223372036854775808 ≤ S ∧ S ≤ 9223372036854775807) :
    Calls Try.prog 5 #[u, .int .i64 S] w fun e w' => e = .returned (.bool true) ∧ Below w.heap.size w w' := by
  have H1 := Lib.hid (due_any w l u 0 1000000000000000 hl hw)
  have H2 := Lib.hid (fun (W : World) (hb : Below w.heap.size w W) (es : List Ev) (x : Value) (hx : Sl W 4 encE x es) (hs : ∀ e, e ∈ es → WfE e) => counts_any W l es u x (hl.below hb (Nat.le_refl _)) hx hw hs)
  have HSE := Lib.hid (@sessions l)
  have HDA := Lib.hid (@due_all l)
  have HFA : Hid (dueF l 0 1000000000000000 ≠ 0 → dueL l 0 1000000000000000 = []) := Lib.hid (fun h => by unfold dueL; rw [if_neg h])
  have HLL : Hid ((dueL l 0 1000000000000000).length ≤ 5000 * 5 ∨ 1000 < l.length) := Lib.hid (by
    by_cases h : 1000 < l.length
    · exact Or.inr h
    · left
      unfold dueL
      split
      · have := evAll_len l 0 1000000000000000 l.length; omega
      · simp)
  have HCP : Hid (dueF l 0 1000000000000000 = 0 → l.length ≤ 1000) := Lib.hid (fun h => (checkP_parts (due_all h).1).1)
  have HWE : Hid (dueF l 0 1000000000000000 = 0 → ∀ e ∈ dueL l 0 1000000000000000, (e.pl < 1000 ∧ 0 ≤ e.pl) ∧ (1 ≤ e.ki ∧ e.ki ≤ 5) ∧ e.ad.size ≤ 9223372036854775807) := Lib.hid (fun h e he => by
    obtain ⟨h1, h2⟩ := due_all h
    rw [h2] at he
    obtain ⟨i, q1, q2, q3, q4, q5, q6⟩ := (mem_allE _).1 he
    have hln := (checkP_parts h1).1
    have hd2 : l.getD i default = l[i] := by rw [List.getD_eq_getElem?_getD, List.getElem?_eq_getElem q1]; rfl
    refine ⟨by omega, q6, ?_⟩
    rw [q5, hd2]
    exact (hw _ (List.getElem_mem q1)).1)
  obtain ⟨ao, cap, rfl, hcap, hmax, hnil, hel⟩ := hl
  unfold maxLen at hmax
  have HEL := Lib.hid hel
  clear hel hw hnil
  unfold SlPost at H1
  unfold CntPost at H2
  obtain ⟨D, hD⟩ : ∃ D, D = dueL l 0 1000000000000000 := ⟨_, rfl⟩
  obtain ⟨f, hf⟩ : ∃ f, f = dueF l 0 1000000000000000 := ⟨_, rfl⟩
  rw [← hD] at H1 HSE HFA HLL HWE
  rw [← hf] at H1 HSE HFA HCP HWE
  clear hD hf HDA
  go_enter Try.func5, Try.ntmps5
  go_wp2_with fail
  refine H1.out.mono ?_
  rintro e w1 ⟨v1, rfl, hs1, hb1⟩
  have HB1 := Lib.hid hb1
  obtain ⟨a1, c1, rfl, hc1, hm1, _, hel1⟩ := hs1
  unfold maxLen at hm1
  have HEL1 := Lib.hid hel1
  clear hel1 hb1 H1
  by_cases hf0 : f = 0
  case neg =>
    have hne : (f != 0) = true := by simpa using hf0
    have heq : (f == 0) = false := by simpa using hf0
    obtain rfl := HFA.out hf0
    go_wp2_with (go_at_call 10; refine (awake_any _).mono ?_; rintro e w6 ⟨rfl, hb6⟩)
    go_ret
    exact ⟨rfl, HB1.out.thru hb6⟩
  subst hf0
  have hl1000 := HCP.out rfl
  have hDl : D.length ≤ 25000 := by have := HLL.out; omega
  by_cases hS1 : S < 1
  case pos =>
    go_wp2_with (go_at_call 10; refine (awake_any _).mono ?_; rintro e w6 ⟨rfl, hb6⟩)
    go_ret
    exact ⟨rfl, HB1.out.thru hb6⟩
  by_cases hS3 : 3 < S
  case pos =>
    go_wp2_with (go_at_call 10; refine (awake_any _).mono ?_; rintro e w6 ⟨rfl, hb6⟩)
    go_ret
    exact ⟨rfl, HB1.out.thru hb6⟩
  obtain ⟨n, rfl⟩ : ∃ n : Nat, S = n := ⟨S.toNat, by omega⟩
  have hn1 : 1 ≤ n := by omega
  have hn3 : n ≤ 3 := by omega
  have hm0 : D.length * n ≤ 75000 := Nat.le_trans (Nat.mul_le_mul hDl hn3) (by omega)
  have hzm : IntKind.i64.wrap ((D.length : Int) * (n : Int)) = ((D.length * n : Nat) : Int) := by
    rw [← Int.natCast_mul]
    exact IntWalk.i64_in _ (by omega)
  by_cases hbig : 5000 < D.length * n
  case pos =>
    have hbz : (5000 : Int) < ((D.length * n : Nat) : Int) := by omega
    go_wp2_with (go_at_call 10; refine (awake_any _).mono ?_; rintro e w6 ⟨rfl, hb6⟩)
    go_ret
    exact ⟨rfl, HB1.out.thru hb6⟩
  have hbz : ¬ (5000 : Int) < ((D.length * n : Nat) : Int) := by omega
  have HSS := Lib.hid (HSE.out rfl hn3 (by omega))
  have HWW := Lib.hid (HWE.out rfl)
  clear HFA HSE HWE HCP HLL
  have hnsz := HB1.out.size
  obtain ⟨N1, hN1⟩ : ∃ N1, N1 = w1.heap.size := ⟨_, rfl⟩
  have HN1 := Lib.hid hN1
  have hNW : w.heap.size ≤ N1 := by omega
  clear hN1 hnsz
  go_wp2
  go_loopg [7, 8] n (fun gg s7 s8 wr => ∃ i : Nat, i ≤ n ∧ n - i ≤ gg ∧ s8 = .int .i64 i ∧ Aside (Below N1 w1 wr) ∧ Aside (Own wr N1 37 4 encE s7 (evS D i)))
  case atStart => exact ⟨0, by omega, by omega, rfl, (show Aside _ from Below.refl _ _), (show Own _ _ _ _ _ _ _ from Own.nil)⟩
  case round =>
    obtain ⟨i, hi, hgi, rfl, BW, OW⟩ := hrel
    obtain ⟨ta, tL, tc, rfl⟩ := Own.slv encE_len OW.out
    by_cases hin : i < n
    · have hiz : (i : Int) < (n : Int) := by omega
      obtain ⟨wo, rfl⟩ : ∃ wo : World, wo = wr := ⟨_, rfl⟩
      go_wp2
      go_loopg [7, 9] D.length (fun gg s7 s9 wr => ∃ k : Nat, k ≤ D.length ∧ D.length - k ≤ gg ∧ s9 = .int .i64 k ∧ Aside (Below N1 w1 wr) ∧ Aside (Own wr N1 37 4 encE s7 (evS D i ++ (D.take k).map (setS (sess i)))))
      case atStart => exact ⟨0, by omega, by omega, rfl, BW.out, (show Own _ _ _ _ _ _ _ from by simpa using OW.out)⟩
      case round =>
        obtain ⟨k, hk, hgk, rfl, BX, OX⟩ := hrel
        obtain ⟨xa, xL, xc, rfl⟩ := Own.slv encE_len OX.out
        by_cases hkd : k < D.length
        · have hkz : (k : Int) < (D.length : Int) := by omega
          obtain ⟨x, hx⟩ : ∃ x, D[k]? = some x := ⟨D[k], by simp [hkd]⟩
          obtain ⟨b, off, rfl, hc⟩ := HEL1.out k x hx
          have hlt0 : b < w1.heap.size := World.block_lt_of_cell? w1 _ (hc 0 _ rfl)
          have hltN : b < N1 := by have := HN1.out; omega
          have c0 : wr.cell? ⟨b, off + k * 4, none⟩ = some (.string x.se) := by have h := (BX.out.cell (p := ⟨b, off + k * 4 + 0, none⟩) hltN).trans (hc 0 _ rfl); simpa using h
          have c1 := (BX.out.cell (p := ⟨b, off + k * 4 + 1, none⟩) hltN).trans (hc 1 _ rfl)
          have c2 := (BX.out.cell (p := ⟨b, off + k * 4 + 2, none⟩) hltN).trans (hc 2 _ rfl)
          have c3 := (BX.out.cell (p := ⟨b, off + k * 4 + 3, none⟩) hltN).trans (hc 3 _ rfl)
          have HNX : Hid (evS D i ++ (D.take (k + 1)).map (setS (sess i)) = (evS D i ++ (D.take k).map (setS (sess i))) ++ [setS (sess i) x]) := Lib.hid (by rw [take_next hx, List.map_append, List.append_assoc]; rfl)
          have HLB : Hid (((evS D i ++ (D.take k).map (setS (sess i))).length + 1) * 48 ≤ 140737488355328) := Lib.hid (by
            rw [List.length_append, evS_len, List.length_map, List.length_take]
            have : i * D.length ≤ 3 * 25000 := Nat.mul_le_mul (by omega) hDl
            omega)
          have hxs := BX.out.size
          clear hx hc hlt0
          go_upto_region 12 with (fail)
          obtain ⟨wx, hwx⟩ : ∃ wx, wx = wr.alloc (.cells #[.string x.se, .int .i64 x.pl, .string x.ad, .int .i64 x.ki] 37) := ⟨_, rfl⟩
          have HKX : Hid (wx.heap[wr.heap.size]? = some (.cells #[.string x.se, .int .i64 x.pl, .string x.ad, .int .i64 x.ki] 37 (0, 0))) := Lib.hid (by rw [hwx]; exact block_new wr _)
          have HBX : Hid (Below N1 w1 wx) := Lib.hid (by rw [hwx]; exact BX.out.alloc (by have := HN1.out; omega) _)
          have HOX : Hid (Own wx N1 37 4 encE (.slice xa xL xc) (evS D i ++ (D.take k).map (setS (sess i)))) := Lib.hid (by rw [hwx]; exact OX.out.al _)
          have HPB : Hid (∀ g nn cc, (.slice xa xL xc : Value) = .slice (some ⟨g, 0, none⟩) nn cc → g < wr.heap.size) := Lib.hid (fun g nn cc h => by
            have hb := OX.out
            rw [h] at hb
            obtain ⟨cur, hc⟩ := hb.blk
            exact lt_of_block hc)
          rw [← hwx]
          clear hwx c0 c1 c2 c3
          obtain ⟨X, hX⟩ : ∃ X, X = wr.heap.size := ⟨_, rfl⟩
          rw [← hX] at HKX HPB ⊢
          have hNX : N1 ≤ X := by have := HN1.out; omega
          clear hX hxs BX OX
          have p0 := (cell_of_block (i := 0) HKX.out).trans rfl
          have hpl := lt_of_block HKX.out
          have z0 := frz_of (i := 0) HKX.out
          obtain ⟨wy, hwy⟩ : ∃ wy, wy = wx.setCell ⟨X, 0, none⟩ (.string (sess i)) := ⟨_, rfl⟩
          have HKY : Hid (wy.heap[X]? = some (.cells #[.string (sess i), .int .i64 x.pl, .string x.ad, .int .i64 x.ki] 37 (0, 0))) := Lib.hid (by rw [hwy]; exact (heap_setCell_same _ X _ _ _ _ HKX.out).trans rfl)
          have HBY : Hid (Below N1 w1 wy) := Lib.hid (by rw [hwy]; exact HBX.out.setCell hNX _)
          have HOY : Hid (Own wy N1 37 4 encE (.slice xa xL xc) (evS D i ++ (D.take k).map (setS (sess i)))) := Lib.hid (by rw [hwy]; exact HOX.out.grownOff (grownBy_set2 _ _ _ _) (fun g nn cc h e => by have := HPB.out g nn cc h; simp at e; omega))
          have hi3 : i = 0 ∨ i = 1 ∨ i = 2 := by omega
          have HCV : Hid (wx.setCell ⟨X, 0, none⟩ (.string (sess i)) = wy) := Lib.hid hwy.symm
          clear HBX HOX HPB hwy HKX
          have HGO : Hid (∀ v5 w5, Own w5 N1 37 4 encE v5 ((evS D i ++ (D.take k).map (setS (sess i))) ++ [setS (sess i) x]) → Own w5 N1 37 4 encE v5 (evS D i ++ (D.take (k + 1)).map (setS (sess i)))) := Lib.hid (fun v5 w5 h => by rw [HNX.out]; exact h)
          go_cut [] (fun w2 => w2 = wy)
          case first =>
            rcases hi3 with rfl | rfl | rfl
            · go_wp2
              go_meet
              exact (by rw [show ({ data := #[115] } ++ Utf8.encode 97 : ByteArray) = sess 0 from by decide +kernel]; exact HCV.out)
            · go_wp2
              go_meet
              exact (by rw [show ({ data := #[115] } ++ Utf8.encode 98 : ByteArray) = sess 1 from by decide +kernel]; exact HCV.out)
            · go_wp2
              go_meet
              exact (by rw [show ({ data := #[115] } ++ Utf8.encode 99 : ByteArray) = sess 2 from by decide +kernel]; exact HCV.out)
          obtain rfl := hcut
          have q0 := (cell_of_block (i := 0) HKY.out).trans rfl
          have q1 := (cell_of_block (i := 1) HKY.out).trans rfl
          have q2 := (cell_of_block (i := 2) HKY.out).trans rfl
          have q3 := (cell_of_block (i := 3) HKY.out).trans rfl
          have hql := lt_of_block HKY.out
          have hn1 : N1 ≤ wc.heap.size := by omega
          clear p0 hpl z0 HCV
          go_wp2_with (at_builtin; refine wpList_push rfl _ _ 23 rfl slE rfl rfl (enc := encE) (setS (sess i) x) rfl rfl rfl HOY.out rfl HLB.out hn1 ?_; intro v5 w5 ho5 hb5; have HO5 := Lib.hid ho5; have HB5 := Lib.hid (HBY.out.trans hb5); clear ho5 hb5)
          go_roundg (D.length - (k + 1))
          case measure => omega
          case rel => exact ⟨k + 1, by omega, by omega, by go_num, HB5.out, (show Own _ _ _ _ _ _ _ from HGO.out _ _ HO5.out)⟩
        · obtain rfl : k = D.length := by omega
          go_wp2
          go_roundg (n - (i + 1))
          case measure => omega
          case rel => exact ⟨i + 1, by omega, by omega, by go_num, BX.out, (show Own _ _ _ _ _ _ _ from by
            have h := OX.out
            rw [List.take_length] at h
            exact h)⟩
    · obtain rfl : i = n := by omega
      obtain ⟨g1, g2, g3⟩ := HSS.out
      have hbs := BW.out.size
      have HBW : Hid (Below w.heap.size w wr) := Lib.hid (HB1.out.trans (BW.out.mono hNW))
      have hc := H2.out wr HBW.out (evS D i) _ (OW.out.sl encE_len) (fun e he => by
        obtain ⟨j, x, hj, hx, rfl⟩ := (mem_evS i).1 he
        obtain ⟨⟨r1, r2⟩, ⟨r3, r4⟩, r5⟩ := HWW.out x hx
        refine ⟨by simp [setS, sess, ByteArray.size], r5, ⟨?_, ?_⟩, ⟨?_, ?_⟩⟩ <;> simp only [setS] <;> omega)
      rw [g1, g2] at hc
      have HC := Lib.hid hc
      have HKD := Lib.hid g3
      clear g1 g2 g3 hc hbs HSS HWW OW
      obtain ⟨A, hA⟩ : ∃ A, A = cntA l (evS D i) := ⟨_, rfl⟩
      rw [← hA] at HC HKD
      clear hA
      go_wp2_with fail
      refine HC.out.mono ?_
      rintro e w4 ⟨v4, v5, rfl, hs4, hi4, hb4⟩
      have HB4 := Lib.hid (HBW.out.thru hb4)
      have HEL4 := Lib.hid (el_below HEL.out HB4.out (Nat.le_refl _))
      obtain ⟨a4, c4, rfl, hc4, hm4, _, hel4⟩ := hs4
      obtain ⟨a5, c5, rfl, hc5, hm5, _, _⟩ := hi4
      unfold maxLen at hm4
      have HELA := Lib.hid hel4
      clear hel4 hb4 HC HBW HEL BW
      simp only [List.length_nil]
      go_wp2
      go_loopg [13] A.length (fun gg s13 wr => ∃ q : Nat, q ≤ A.length ∧ A.length - q ≤ gg ∧ s13 = .int .i64 q ∧ ∃ nn, wr = w4.drewN nn)
      case atStart => exact ⟨0, by omega, by omega, rfl, 0, rfl⟩
      case round =>
        obtain ⟨q, hq, hgq, rfl, nn, rfl⟩ := hrel
        by_cases hqa : q < A.length
        · have hqz : (q : Int) < (A.length : Int) := by omega
          obtain ⟨c, hcx⟩ : ∃ c, A[q]? = some c := ⟨A[q], by simp [hqa]⟩
          obtain ⟨b, off, rfl, hcc⟩ := HELA.out q c hcx
          obtain ⟨d0, d1, d2, d3, d4⟩ := HKD.out c (List.mem_of_getElem? hcx)
          have y0 : w4.cell? ⟨b, off + q * 6, none⟩ = some (.string c.ad) := by have h := hcc 0 _ rfl; simpa using h
          have x0 : w4.cell? ⟨b, off + q * 6 + 1, none⟩ = some (.int .i64 c.k0) := hcc 1 _ rfl
          have x1 : w4.cell? ⟨b, off + q * 6 + 2, none⟩ = some (.int .i64 c.k1) := hcc 2 _ rfl
          have x2 : w4.cell? ⟨b, off + q * 6 + 3, none⟩ = some (.int .i64 c.k2) := hcc 3 _ rfl
          have x3 : w4.cell? ⟨b, off + q * 6 + 4, none⟩ = some (.int .i64 c.k3) := hcc 4 _ rfl
          have x4 : w4.cell? ⟨b, off + q * 6 + 5, none⟩ = some (.int .i64 c.k4) := hcc 5 _ rfl
          rw [d0] at x0
          rw [d1] at x1
          rw [d2] at x2
          rw [d3] at x3
          rw [d4] at x4
          clear hcx hcc d0 d1 d2 d3 d4
          go_wp2
          go_loopg [14, 15] l.length (fun g3 s14 s15 wr => ∃ (k : Nat) (z : Int), k ≤ l.length ∧ l.length - k ≤ g3 ∧ s15 = .int .i64 k ∧ s14 = .int .i64 z ∧ (0 ≤ z ∧ z ≤ 3000) ∧ Aside (z = ((i * pcN (l.take k) c.ad : Nat) : Int)) ∧ ∃ nn, wr = w4.drewN nn)
          case atStart => exact ⟨0, 0, by omega, by omega, rfl, rfl, by omega, (show Aside _ from by rw [List.take_zero]; show (0 : Int) = ((i * 0 : Nat) : Int); simp), _, rfl⟩
          case round =>
            obtain ⟨k, z, hk, hg3, rfl, rfl, ⟨hz0, hz1⟩, ZR, n2, rfl⟩ := hrel
            by_cases hkl : k < l.length
            · have hkz : (k : Int) < (l.length : Int) := by omega
              obtain ⟨p, hp⟩ : ∃ p, l[k]? = some p := ⟨l[k], by simp [hkl]⟩
              obtain ⟨pb, po, rfl, hpc⟩ := HEL4.out k p hp
              have p0 : w4.cell? ⟨pb, po + k * 3, none⟩ = some (.string p.ad) := by have h := hpc 0 _ rfl; simpa using h
              have HN := Lib.hid (pcN_next hp c.ad)
              have HLE : Hid (i * pcN (l.take (k + 1)) c.ad ≤ 3000) := Lib.hid (by
                have h1 := pcN_le (l.take (k + 1)) c.ad
                have h2 : (l.take (k + 1)).length ≤ 1000 := by rw [List.length_take]; omega
                exact Nat.le_trans (Nat.mul_le_mul hn3 (Nat.le_trans h1 h2)) (by omega))
              clear hp hpc
              go_upto_region 24 with (fail)
              cases e1 : p.ad.toList == c.ad.toList
              case false =>
                have HZ : Hid (z = ((i * pcN (l.take (k + 1)) c.ad : Nat) : Int)) := Lib.hid (by rw [HN.out, e1, ZR.out]; simp)
                go_quiet (fail)
                go_wp2
                go_roundg (l.length - (k + 1))
                case measure => omega
                case rel => exact ⟨k + 1, z, by omega, by omega, by go_num, rfl, by omega, (show Aside _ from HZ.out), _, rfl⟩
              case true =>
                have HZ : Hid (z + i = ((i * pcN (l.take (k + 1)) c.ad : Nat) : Int)) := Lib.hid (by rw [HN.out, e1, ZR.out, if_pos rfl, Nat.mul_add, Nat.mul_one, Int.natCast_add])
                have hz2 : z + i ≤ 3000 := by rw [HZ.out]; exact Int.ofNat_le.2 HLE.out
                have hzw : IntKind.i64.wrap (z + i) = z + i := IntWalk.i64_in _ (by omega)
                go_quiet (fail)
                go_wp2
                go_roundg (l.length - (k + 1))
                case measure => omega
                case rel => exact ⟨k + 1, z + i, by omega, by omega, by go_num, rfl, by omega, (show Aside _ from HZ.out), _, rfl⟩
            · obtain rfl : k = l.length := by omega
              have hzz : z = ((i * pcN l c.ad : Nat) : Int) := by rw [ZR.out, List.take_length]
              rw [← hzz] at x0 x1 x2 x3 x4
              clear hzz ZR
              have han := arrNeq z
              go_wp2
              go_roundg (A.length - (q + 1))
              case measure => omega
              case rel => exact ⟨q + 1, by omega, by omega, by go_num, _, rfl⟩
        · obtain rfl : q = A.length := by omega
          have HB6 : Hid (Below w.heap.size w (w4.drewN nn)) := Lib.hid (below_drewN HB4.out _)
          go_wp2_with (go_at_call 10; refine (awake_any _).mono ?_; rintro e w6 ⟨rfl, hb6⟩)
          go_ret
          exact ⟨rfl, HB6.out.thru hb6⟩
end Go.Proofs.Ytaoamechajffbaa

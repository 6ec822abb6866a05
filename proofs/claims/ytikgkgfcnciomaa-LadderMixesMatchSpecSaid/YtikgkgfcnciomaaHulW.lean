/- hull of the program. -/
import Derived.Test.YtikgkgfcnciomaaAbv
namespace Go.Proofs.Ytikgkgfcnciomaa
open Go.RowKit

theorem flatMap_take {α : Type} {enc : α → List Value} {k : Nat} (hk : ∀ x, (enc x).length = k) : ∀ (l : List α) (n : Nat), (l.take n).flatMap enc = (l.flatMap enc).take (n * k)
  | [], n => by simp
  | x :: r, 0 => by simp
  | x :: r, n + 1 => by
    rw [List.take_succ_cons, List.flatMap_cons, List.flatMap_cons, flatMap_take hk r n]
    have e : (n + 1) * k = k + n * k := by rw [Nat.succ_mul]; omega
    rw [e, List.take_append, List.take_of_length_le (l := enc x) (by rw [hk x]; omega), hk x, Nat.add_sub_cancel_left]
/-- The first n of what the call owns. -/
theorem Own.take {α : Type} {w : World} {base : Nat} {E : TypeId} {k : Nat} {enc : α → List Value} {l : List α} {g cap L n : Nat} (hk : ∀ x, (enc x).length = k) (h : Own w base E k enc (.slice (some ⟨g, 0, none⟩) L cap) l) (hn : n ≤ l.length) :
    Own w base E k enc (.slice (some ⟨g, 0, none⟩) n cap) (l.take n) := by
  obtain ⟨h1, h2⟩ := h
  have hlen : (l.take n).length = n := by simp; omega
  refine ⟨by rw [flatMap_take hk, hlen, List.length_take, h1]; exact Nat.min_eq_left (Nat.mul_le_mul_right _ hn), .inr ?_⟩
  rcases h2 with ⟨h2, _⟩ | ⟨g', cap', cur, hv, hg, hh, hL, hm, hs, ht⟩
  · cases h2
  · simp only [Value.slice.injEq, Option.some.injEq, Addr.mk.injEq, and_true] at hv
    obtain ⟨rfl, _, rfl⟩ := hv
    refine ⟨g, cap, cur, by rw [hlen], hg, hh, by omega, hm, hs, ?_⟩
    rw [hlen, flatMap_take hk, ← ht, List.take_take]
    congr 1
    exact (Nat.min_eq_left (Nat.mul_le_mul_right _ hn)).symm

def zL (s : List Nat) : List Int := s.map fun (n : Nat) => (n : Int)
theorem zL_len (s : List Nat) : (zL s).length = s.length := by simp [zL]
theorem zL_take (s : List Nat) (n : Nat) : (zL s).take n = zL (s.take n) := by simp [zL]
theorem zL_snoc (s : List Nat) (x : Nat) : zL (s ++ [x]) = zL s ++ [(x : Int)] := by simp [zL]
theorem zL_get {s : List Nat} {i : Nat} (h : i < s.length) : (zL s)[i]? = some ((s.getD i 0 : Nat) : Int) := by
  simp [zL, List.getD_eq_getElem?_getD, List.getElem?_eq_getElem h]

theorem abvB_iff {p : List Rng} {a b c : Nat} : abvB (p.getD a default) (p.getD b default) (p.getD c default) = true ↔ abv (rA p) (qA p) a b c := by
  unfold abvB abv rA qA
  rw [decide_eq_true_iff]
/-- Is the last corner taken away? -/
def popB (p : List Rng) (c : List Nat) (m n : Nat) : Bool := decide (1 < n) && !abvB (p.getD (c.getD (n - 2) 0) default) (p.getD (c.getD (n - 1) 0) default) (p.getD m default)
theorem popB_yes {p : List Rng} {c : List Nat} {m n : Nat} (h : popB p c m n = true) : 1 < n ∧ popN (rA p) (qA p) c m n = popN (rA p) (qA p) c m (n - 1) := by
  unfold popB at h
  rw [Bool.and_eq_true, decide_eq_true_iff] at h
  obtain ⟨h1, h2⟩ := h
  obtain ⟨k, rfl⟩ : ∃ k, n = k + 1 := ⟨n - 1, by omega⟩
  refine ⟨h1, ?_⟩
  conv => lhs; unfold popN
  rw [show k + 1 - 2 = k - 1 by omega, Nat.add_sub_cancel] at h2
  rw [if_pos ⟨by omega, fun h => by rw [abvB_iff.2 h] at h2; cases h2⟩, Nat.add_sub_cancel]
theorem popB_no {p : List Rng} {c : List Nat} {m n : Nat} (h : popB p c m n = false) : popN (rA p) (qA p) c m n = n := by
  unfold popB at h
  rcases Nat.eq_zero_or_pos n with rfl | hn
  · rfl
  obtain ⟨k, rfl⟩ : ∃ k, n = k + 1 := ⟨n - 1, by omega⟩
  conv => lhs; unfold popN
  rw [if_neg ?_]
  rintro ⟨h1, h2⟩
  rw [show k + 1 - 2 = k - 1 by omega, Nat.add_sub_cancel, decide_eq_true (by omega : 1 < k + 1), Bool.true_and, Bool.not_eq_false'] at h
  exact h2 (abvB_iff.1 h)
theorem chain_len (R Q : Nat → Int) : ∀ m, (chain R Q m).length ≤ m
  | 0 => by simp [chain]
  | m + 1 => by
    have := chain_len R Q m
    simp [chain]; omega
theorem chain_mem (R Q : Nat → Int) : ∀ m x, x ∈ chain R Q m → x < m
  | 0, x, h => by simp [chain] at h
  | m + 1, x, h => by
    unfold chain at h
    rw [List.mem_append, List.mem_singleton] at h
    rcases h with h | h
    · have := chain_mem R Q m x (List.mem_of_mem_take h); omega
    · omega
theorem chain_lt' (R Q : Nat → Int) (m i : Nat) (h : i < (chain R Q m).length) : (chain R Q m).getD i 0 < m := chain_mem R Q m _ (mem_getD.2 ⟨i, h, rfl⟩)

theorem incS_len (Q : Nat → Int) (o : List Nat) (x : Nat) : (incS Q o x).length ≤ o.length + 1 := by
  unfold incS; split <;> simp
theorem incs_len' (Q : Nat → Int) : ∀ (s o : List Nat), (s.foldl (incS Q) o).length ≤ o.length + s.length
  | [], o => by simp
  | x :: s, o => by
    have h1 := incs_len' Q s (incS Q o x)
    have h2 := incS_len Q o x
    rw [List.foldl_cons, List.length_cons]; omega
theorem incs_len (Q : Nat → Int) (j : Nat) (s : List Nat) (h : s.length ≤ j) : (s.foldl (incS Q) []).length ≤ j := by
  have := incs_len' Q s []
  simp only [List.length_nil, Nat.zero_add] at this
  omega
theorem incs_mem' (Q : Nat → Int) : ∀ (s o : List Nat) (x : Nat), x ∈ s.foldl (incS Q) o → x ∈ o ∨ x ∈ s
  | [], o, x, h => .inl h
  | y :: s, o, x, h => by
    rw [List.foldl_cons] at h
    rcases incs_mem' Q s _ x h with h | h
    · rcases incS_mem h with h | h
      · exact .inl h
      · exact .inr (by simp [h])
    · exact .inr (by simp [h])
theorem incs_mem (Q : Nat → Int) (s : List Nat) (x : Nat) (h : x ∈ s.foldl (incS Q) []) : x ∈ s := by
  rcases incs_mem' Q s [] x h with h | h
  · simp at h
  · exact h

set_option maxRecDepth 100000 in
set_option maxHeartbeats 4000000 in
theorem hull_any (w : World) (p : List Rng) (v : Value) (hl : Sl w 4 encR v p) (hin : ∀ x, x ∈ p → InR x) (hlen : p.length ≤ 100) :
    Calls Try.prog 29 #[v] w (SlRet w 1 encI (zL (hullN p))) := by
  have HSL := Lib.hid hl
  obtain ⟨ao, cap, rfl, hcap, hmax, hnil, hel⟩ := hl
  unfold maxLen at hmax
  have HEL := Lib.hid hel
  have HIN := Lib.hid hin
  have HRET : Hid (hullN p = (chain (rA p) (qA p) p.length).foldl (incS (qA p)) []) := Lib.hid rfl
  clear hel hin
  go_enter Try.func29, Try.ntmps29
  go_wp2
  go_loopg [3, 13] p.length (fun gg s3 s13 wr => ∃ m : Nat, m ≤ p.length ∧ p.length - m ≤ gg ∧ s13 = .int .i64 m ∧ Aside (Own wr w.heap.size 3 1 encI s3 (zL (chain (rA p) (qA p) m))) ∧ Aside (Below w.heap.size w wr))
  case atStart => exact ⟨0, Nat.zero_le _, by omega, rfl, (show Own _ _ _ _ _ _ (zL []) from Own.nil), Below.refl _ w⟩
  obtain ⟨m, hm, hg, rfl, OW, BW⟩ := hrel
  by_cases hlt : m < p.length
  · have hltz : (m : Int) < (p.length : Int) := by omega
    obtain ⟨x, hx⟩ : ∃ x, p[m]? = some x := ⟨p[m], by simp [hlt]⟩
    obtain ⟨b, off, hao, hc⟩ := HEL.out m x hx
    subst hao
    have hblt : b < w.heap.size := World.block_lt_of_cell? w ⟨b, off + m * 4 + 0, none⟩ (hc 0 _ rfl)
    have c0 : wr.cell? ⟨b, off + m * 4, none⟩ = some (.string x.na) := (BW.out.cell (p := ⟨b, off + m * 4 + 0, none⟩) hblt).trans (hc 0 _ rfl)
    have c1 := (BW.out.cell (p := ⟨b, off + m * 4 + 1, none⟩) hblt).trans (hc 1 _ rfl)
    have c2 := (BW.out.cell (p := ⟨b, off + m * 4 + 2, none⟩) hblt).trans (hc 2 _ rfl)
    have c3 := (BW.out.cell (p := ⟨b, off + m * 4 + 3, none⟩) hblt).trans (hc 3 _ rfl)
    have hszw := BW.out.size
    have hbw : b < wr.heap.size := by omega
    have HOW := Lib.hid OW.out
    obtain ⟨oo, oL, ocap, rfl⟩ := Own.slv encI_len OW.out
    obtain ⟨_, _, he, hocap, homax, _, _⟩ := Own.sl OW.out encI_len
    simp only [Value.slice.injEq] at he
    obtain ⟨rfl, he2, rfl⟩ := he
    rw [zL_len] at he2
    unfold maxLen at homax
    have hcl := chain_len (rA p) (qA p) m
    have HCN : Hid (chain (rA p) (qA p) (m + 1) = (chain (rA p) (qA p) m).take (popN (rA p) (qA p) (chain (rA p) (qA p) m) m (chain (rA p) (qA p) m).length) ++ [m]) := Lib.hid rfl
    have HCL := Lib.hid (chain_lt' (rA p) (qA p) m)
    obtain ⟨c, hcc⟩ : ∃ c, c = chain (rA p) (qA p) m := ⟨_, rfl⟩
    rw [← hcc] at he2 hcl HCN HCL HOW
    obtain rfl := he2
    have HXX := Lib.hid (HIN.out x (List.mem_of_getElem? hx))
    have HGX : Hid (p.getD m default = x) := Lib.hid (getD_of hx)
    have HB1 := Lib.hid (BW.out.alloc hszw (boxR x))
    have HK1 := Lib.hid (block_new wr (boxR x))
    have HO1 := Lib.hid (HOW.out.al (boxR x))
    clear hx hc OW hcc
    obtain ⟨wq, rfl⟩ : ∃ wq, wq = wr := ⟨_, rfl⟩
    go_wp2
    obtain ⟨wo, hwo⟩ : ∃ wo, wo = wq.alloc (boxR x) := ⟨_, rfl⟩
    rw [show wq.alloc (.cells #[.string x.na, .int .i64 x.ra, .int .i64 x.he, .int .i64 x.qu] 33) = wo from hwo.symm]
    rw [← hwo] at HB1 HK1 HO1
    have hszo : wq.heap.size < wo.heap.size := lt_of_block HK1.out
    clear hwo c0 c1 c2 c3
    go_loopg [3, 6] c.length (fun gg s3 s6 wi => ∃ n : Nat, n ≤ gg ∧ n ≤ c.length ∧ s6 = .int .i64 n ∧ Aside (popN (rA p) (qA p) c m n = popN (rA p) (qA p) c m c.length) ∧ Aside (Own wi w.heap.size 3 1 encI s3 (zL (c.take n))) ∧ Aside (Below wo.heap.size wo wi))
    case atStart => exact ⟨c.length, Nat.le_refl _, Nat.le_refl _, rfl, (show Aside (_ = _) from rfl), (show Own _ _ _ _ _ _ _ by rw [List.take_length]; exact HO1.out), Below.refl _ _⟩
    obtain ⟨n, hng, hnl, rfl, HP, OI, BI⟩ := hrel
    obtain ⟨wi, rfl⟩ : ∃ wi, wi = wr := ⟨_, rfl⟩
    have HOI := Lib.hid OI.out
    have HBI := Lib.hid (HB1.out.thru BI.out)
    have hszi := BI.out.size
    obtain ⟨io, iL, icap, rfl⟩ := Own.slv encI_len OI.out
    obtain ⟨_, _, he, hicap, himax, _, hiel⟩ := Own.sl OI.out encI_len
    simp only [Value.slice.injEq] at he
    obtain ⟨rfl, he2, rfl⟩ := he
    have hcl2 : (zL (c.take n)).length = n := by rw [zL_len]; simp; omega
    rw [hcl2] at he2 hicap
    obtain rfl : n = iL := he2.symm
    unfold maxLen at himax
    have HPY := Lib.hid (fun h => popB_yes (p := p) (c := c) (m := m) (n := n) h)
    have HPN := Lib.hid (fun h => popB_no (p := p) (c := c) (m := m) (n := n) h)
    have HPB : Hid (popB p c m n = (decide (1 < n) && !abvB (p.getD (c.getD (n - 2) 0) default) (p.getD (c.getD (n - 1) 0) default) (p.getD m default))) := Lib.hid rfl
    obtain ⟨pb, hpb⟩ : ∃ pb, pb = popB p c m n := ⟨_, rfl⟩
    rw [← hpb] at HPY HPN HPB
    clear hpb OI
    go_upto_region 6 with (fail)
    go_cut [42] (fun s42 w4 => s42 = .bool pb ∧ Aside (Below wi.heap.size wi w4))
    case first =>
      by_cases hn1 : 1 < n
      · have hj2 : c.getD (n - 2) 0 < m := HCL.out (n - 2) (by omega)
        have hj1 : c.getD (n - 1) 0 < m := HCL.out (n - 1) (by omega)
        obtain ⟨b2, off2, hao2, hd2⟩ := hiel (n - 2) ((c.getD (n - 2) 0 : Nat) : Int) (by rw [zL_get (by simp; omega), getD_take (by omega)])
        subst hao2
        obtain ⟨b1, off1, hao1, hd1⟩ := hiel (n - 1) ((c.getD (n - 1) 0 : Nat) : Int) (by rw [zL_get (by simp; omega), getD_take (by omega)])
        simp only [Option.some.injEq, Addr.mk.injEq, and_true] at hao1
        obtain ⟨rfl, rfl⟩ := hao1
        have e2 : wi.cell? ⟨b2, off2 + (n - 2), none⟩ = some (.int .i64 ((c.getD (n - 2) 0 : Nat) : Int)) := by have := hd2 0 _ rfl; simpa using this
        have e1 : wi.cell? ⟨b2, off2 + (n - 1), none⟩ = some (.int .i64 ((c.getD (n - 1) 0 : Nat) : Int)) := by have := hd1 0 _ rfl; simpa using this
        obtain ⟨j2, hj2e⟩ : ∃ j, j = c.getD (n - 2) 0 := ⟨_, rfl⟩
        obtain ⟨j1, hj1e⟩ : ∃ j, j = c.getD (n - 1) 0 := ⟨_, rfl⟩
        rw [← hj2e] at e2 hj2 HPB
        rw [← hj1e] at e1 hj1 HPB
        clear hj2e hj1e hd2 hd1
        obtain ⟨y2, hy2⟩ : ∃ y, p[j2]? = some y := ⟨p[j2]'(by omega), by simp⟩
        obtain ⟨y1, hy1⟩ : ∃ y, p[j1]? = some y := ⟨p[j1]'(by omega), by simp⟩
        obtain ⟨bb2, of2, hao2, hf2⟩ := HEL.out j2 y2 hy2
        simp only [Option.some.injEq, Addr.mk.injEq, and_true] at hao2
        obtain ⟨rfl, rfl⟩ := hao2
        obtain ⟨bb1, of1, hao1, hf1⟩ := HEL.out j1 y1 hy1
        simp only [Option.some.injEq, Addr.mk.injEq, and_true] at hao1
        obtain ⟨rfl, rfl⟩ := hao1
        have u0 : wi.cell? ⟨b, off + j2 * 4, none⟩ = some (.string y2.na) := (HBI.out.cell (p := ⟨b, off + j2 * 4 + 0, none⟩) hblt).trans (hf2 0 _ rfl)
        have u1 := (HBI.out.cell (p := ⟨b, off + j2 * 4 + 1, none⟩) hblt).trans (hf2 1 _ rfl)
        have u2 := (HBI.out.cell (p := ⟨b, off + j2 * 4 + 2, none⟩) hblt).trans (hf2 2 _ rfl)
        have u3 := (HBI.out.cell (p := ⟨b, off + j2 * 4 + 3, none⟩) hblt).trans (hf2 3 _ rfl)
        have v0 : wi.cell? ⟨b, off + j1 * 4, none⟩ = some (.string y1.na) := (HBI.out.cell (p := ⟨b, off + j1 * 4 + 0, none⟩) hblt).trans (hf1 0 _ rfl)
        have v1 := (HBI.out.cell (p := ⟨b, off + j1 * 4 + 1, none⟩) hblt).trans (hf1 1 _ rfl)
        have v2 := (HBI.out.cell (p := ⟨b, off + j1 * 4 + 2, none⟩) hblt).trans (hf1 2 _ rfl)
        have v3 := (HBI.out.cell (p := ⟨b, off + j1 * 4 + 3, none⟩) hblt).trans (hf1 3 _ rfl)
        have hkx := (BI.out.block _ (lt_of_block HK1.out)).trans HK1.out
        have x0 := (cell_of_block (i := 0) hkx).trans rfl
        have x1 := (cell_of_block (i := 1) hkx).trans rfl
        have x2 := (cell_of_block (i := 2) hkx).trans rfl
        have x3 := (cell_of_block (i := 3) hkx).trans rfl
        have HAB := Lib.hid (fun W => above_any y2 y1 x W (HIN.out _ (List.mem_of_getElem? hy2)) (HIN.out _ (List.mem_of_getElem? hy1)) HXX.out)
        have hv : Hid ((!abvB y2 y1 x) = pb) := Lib.hid (by rw [HPB.out, decide_eq_true hn1, HGX.out, getD_of hy2, getD_of hy1]; rfl)
        have hbi2 := World.block_lt_of_cell? wi _ e2
        have hbi1 : b < wi.heap.size := by omega
        have hbi3 := lt_of_block hkx
        generalize abvB y2 y1 x = AB at HAB hv
        have hn1z : (1 : Int) < (n : Int) := by omega
        have w1 : IntKind.i64.wrap ((n : Int) - 2) = (n : Int) - 2 := IntWalk.i64_in _ (by omega)
        have w2 : IntKind.i64.wrap ((n : Int) - 1) = (n : Int) - 1 := IntWalk.i64_in _ (by omega)
        have w3 : ((n : Int) - 2).toNat = n - 2 := by omega
        have w4 : ((n : Int) - 1).toNat = n - 1 := by omega
        have w5 : (0 : Int) ≤ (n : Int) - 2 := by omega
        have w6 : (0 : Int) ≤ (n : Int) - 1 := by omega
        have w7 : (n : Int) - 2 < (n : Int) := by omega
        have w8 : (n : Int) - 1 < (n : Int) := by omega
        have w9 : (2 : Int) ≤ (n : Int) := by omega
        have w10 : (1 : Int) ≤ (n : Int) := by omega
        have z1 : (j2 : Int) < (p.length : Int) := by omega
        have z2 : (j1 : Int) < (p.length : Int) := by omega
        have hbc : Below wi.heap.size wi wi.drew := (Below.refl _ wi).drew
        clear hy1 hy2 hf1 hf2 hkx hiel hn1 hj1 hj2
        go_region_held3 (fun W => W.cell? ⟨b2, off2 + (n - 2), none⟩ = some (.int .i64 j2) ∧ W.cell? ⟨b2, off2 + (n - 1), none⟩ = some (.int .i64 j1)
            ∧ W.cell? ⟨b, off + j2 * 4, none⟩ = some (.string y2.na) ∧ W.cell? ⟨b, off + j2 * 4 + 1, none⟩ = some (.int .i64 y2.ra) ∧ W.cell? ⟨b, off + j2 * 4 + 2, none⟩ = some (.int .i64 y2.he) ∧ W.cell? ⟨b, off + j2 * 4 + 3, none⟩ = some (.int .i64 y2.qu)
            ∧ W.cell? ⟨b, off + j1 * 4, none⟩ = some (.string y1.na) ∧ W.cell? ⟨b, off + j1 * 4 + 1, none⟩ = some (.int .i64 y1.ra) ∧ W.cell? ⟨b, off + j1 * 4 + 2, none⟩ = some (.int .i64 y1.he) ∧ W.cell? ⟨b, off + j1 * 4 + 3, none⟩ = some (.int .i64 y1.qu)
            ∧ W.cell? ⟨wq.heap.size, 0, none⟩ = some (.string x.na) ∧ W.cell? ⟨wq.heap.size, 1, none⟩ = some (.int .i64 x.ra) ∧ W.cell? ⟨wq.heap.size, 2, none⟩ = some (.int .i64 x.he) ∧ W.cell? ⟨wq.heap.size, 3, none⟩ = some (.int .i64 x.qu))
          (first | exact ⟨(hbc.cell (p := ⟨b2, off2 + (n - 2), none⟩) hbi2).trans e2, (hbc.cell (p := ⟨b2, off2 + (n - 1), none⟩) hbi2).trans e1,
              (hbc.cell (p := ⟨b, off + j2 * 4, none⟩) hbi1).trans u0, (hbc.cell (p := ⟨b, off + j2 * 4 + 1, none⟩) hbi1).trans u1, (hbc.cell (p := ⟨b, off + j2 * 4 + 2, none⟩) hbi1).trans u2, (hbc.cell (p := ⟨b, off + j2 * 4 + 3, none⟩) hbi1).trans u3,
              (hbc.cell (p := ⟨b, off + j1 * 4, none⟩) hbi1).trans v0, (hbc.cell (p := ⟨b, off + j1 * 4 + 1, none⟩) hbi1).trans v1, (hbc.cell (p := ⟨b, off + j1 * 4 + 2, none⟩) hbi1).trans v2, (hbc.cell (p := ⟨b, off + j1 * 4 + 3, none⟩) hbi1).trans v3,
              (hbc.cell (p := ⟨wq.heap.size, 0, none⟩) hbi3).trans x0, (hbc.cell (p := ⟨wq.heap.size, 1, none⟩) hbi3).trans x1, (hbc.cell (p := ⟨wq.heap.size, 2, none⟩) hbi3).trans x2, (hbc.cell (p := ⟨wq.heap.size, 3, none⟩) hbi3).trans x3⟩ | fail "keep")
          (first | (go_at_call 41; ((with_reducible refine (HAB.out _).mono ?_); rintro e w' ⟨rfl, hb⟩; replace hbc := hbc.thru hb; clear hb)) | fail "arms")
        all_goals
          go_wp2
          go_meet
          exact ⟨by rw [← hv.out], hbc⟩
      · have hv : Hid (pb = false) := Lib.hid (by rw [HPB.out, decide_eq_false hn1]; rfl)
        have d1 : decide ((1 : Int) < (n : Int)) = false := decide_eq_false (by omega)
        go_quiet (fail)
        go_wp2
        go_meet
        exact ⟨by rw [hv.out], below_drewN (Below.refl _ _) _⟩
    obtain ⟨rfl, HC⟩ := hcut
    obtain ⟨wk, rfl⟩ : ∃ wk, wk = wc := ⟨_, rfl⟩
    have HOK := Lib.hid (HOI.out.below HC.out (Nat.le_refl _))
    have HBK := Lib.hid (BI.out.thru HC.out)
    have HBW := Lib.hid (HB1.out.thru HBK.out)
    have hszk := HBW.out.size
    clear BW HB1 HC HPB
    cases pb
    case true =>
      obtain ⟨hn1, hpop⟩ := HPY.out rfl
      obtain ⟨g, cp, hv, _⟩ := Own.getk encI_len HOK.out (by intro h; rw [h] at hcl2; simp at hcl2; omega)
      simp only [Value.slice.injEq] at hv
      obtain ⟨rfl, hjunk, rfl⟩ := hv
      clear hjunk
      have HO2 := Lib.hid (Own.take encI_len HOK.out (n := n - 1) (by omega))
      rw [zL_take, List.take_take, Nat.min_eq_left (by omega)] at HO2
      have HP2 : Hid (popN (rA p) (qA p) c m (n - 1) = popN (rA p) (qA p) c m c.length) := Lib.hid (by rw [← hpop]; exact HP.out)
      have w2 : IntKind.i64.wrap ((n : Int) - 1) = (n : Int) - 1 := IntWalk.i64_in _ (by omega)
      have w4 : ((n : Int) - 1).toNat = n - 1 := by omega
      have w6 : (0 : Int) ≤ (n : Int) - 1 := by omega
      have w8 : (n : Int) - 1 ≤ (icap : Int) := by omega
      clear hpop hcl2 HP HOI HOK
      go_wp2
      go_roundg (n - 1)
      case measure => omega
      case rel => exact ⟨n - 1, Nat.le_refl _, by omega, by go_num, HP2.out, HO2.out, HBK.out⟩
    case false =>
      have HP2 := HPN.out rfl
      rw [HP.out] at HP2
      have HCN2 : Hid (chain (rA p) (qA p) (m + 1) = c.take n ++ [m]) := Lib.hid (by rw [HCN.out, HP2])
      have hcnt : Hid (((zL (c.take n)).length + 1) * 8 ≤ 140737488355328) := Lib.hid (by omega)
      clear HP2 HP HPY HPN HCN hcl2
      go_wp2_with (at_builtin; refine wpList_push rfl _ _ 23 rfl slI rfl rfl (m : Int) rfl rfl rfl HOK.out rfl hcnt.out hszk ?_; intro v5 w5 ho5 hb5; obtain ⟨ao6, L6, cp6, rfl⟩ := Own.slv encI_len ho5; have HO5 := Lib.hid ho5; have HB5 := Lib.hid (HBW.out.trans hb5); clear ho5 hb5)
      go_roundg (p.length - (m + 1))
      case measure => omega
      case rel => exact ⟨m + 1, by omega, by omega, by go_num, (show Own _ _ _ _ _ _ _ by rw [HCN2.out, zL_snoc]; exact HO5.out), HB5.out⟩
  · obtain rfl : m = p.length := by omega
    obtain ⟨wq, rfl⟩ : ∃ wq, wq = wr := ⟨_, rfl⟩
    have hcl := chain_len (rA p) (qA p) p.length
    have HCL := Lib.hid (chain_lt' (rA p) (qA p) p.length)
    have hsl := Own.sl OW.out encI_len
    have HBW := Lib.hid BW.out
    have hszq := BW.out.size
    generalize chain (rA p) (qA p) p.length = c at hcl HCL HRET hsl
    obtain ⟨co, ccap, rfl, hccap, hcmax, _, hcel⟩ := hsl
    rw [zL_len] at hccap ⊢
    unfold maxLen at hcmax
    have HCE := Lib.hid hcel
    clear OW BW hcel
    go_wp2
    go_loopg [7, 56] c.length (fun gg s7 s56 wr => ∃ j : Nat, j ≤ c.length ∧ c.length - j ≤ gg ∧ s56 = .int .i64 j ∧ Aside (Own wr wq.heap.size 3 1 encI s7 (zL ((c.take j).foldl (incS (qA p)) []))) ∧ Aside (Below wq.heap.size wq wr))
    case atStart => exact ⟨0, Nat.zero_le _, by omega, rfl, (show Own _ _ _ _ _ _ (zL []) from Own.nil), Below.refl _ wq⟩
    obtain ⟨j, hj, hg, rfl, OW, BW⟩ := hrel
    by_cases hlt : j < c.length
    · have hltz : (j : Int) < (c.length : Int) := by omega
      obtain ⟨q, hq⟩ : ∃ q, q = c.getD j 0 := ⟨_, rfl⟩
      have hqp : q < p.length := by rw [hq]; exact HCL.out j hlt
      obtain ⟨bc, offc, hao, hd⟩ := HCE.out j (q : Int) (by rw [hq]; exact zL_get hlt)
      subst hao
      have e1 : wq.cell? ⟨bc, offc + j, none⟩ = some (.int .i64 (q : Int)) := by have := hd 0 _ rfl; simpa using this
      have hbc := World.block_lt_of_cell? wq _ e1
      have cq := (BW.out.cell (p := ⟨bc, offc + j, none⟩) hbc).trans e1
      obtain ⟨x, hx⟩ : ∃ x, p[q]? = some x := ⟨p[q], by simp [hqp]⟩
      obtain ⟨b, off, hao, hc⟩ := HEL.out q x hx
      subst hao
      have hblt : b < w.heap.size := World.block_lt_of_cell? w ⟨b, off + q * 4 + 0, none⟩ (hc 0 _ rfl)
      have HBX := Lib.hid (HBW.out.trans (BW.out.mono hszq))
      have cx := (HBX.out.cell (p := ⟨b, off + q * 4 + 3, none⟩) hblt).trans (hc 3 _ rfl)
      have hqz : (q : Int) < (p.length : Int) := by omega
      have HOW := Lib.hid OW.out
      have HBWj := Lib.hid BW.out
      have hszj := BW.out.size
      have HTK : Hid ((c.take (j + 1)).foldl (incS (qA p)) [] = incS (qA p) ((c.take j).foldl (incS (qA p)) []) q) := Lib.hid (by
        have hcj : c[j]? = some q := by rw [hq, List.getD_eq_getElem?_getD, List.getElem?_eq_getElem hlt]; rfl
        rw [take_next hcj, List.foldl_append]; rfl)
      have hol : ((c.take j).foldl (incS (qA p)) []).length ≤ j := incs_len (qA p) j _ (by simp; omega)
      have HOM := Lib.hid (incs_mem (qA p) (c.take j))
      obtain ⟨o, ho⟩ : ∃ o, o = (c.take j).foldl (incS (qA p)) [] := ⟨_, rfl⟩
      rw [← ho] at HTK hol HOM HOW
      have HON : Hid (∀ i, i < o.length → o.getD i 0 < p.length) := Lib.hid (fun i hi => by
        have h1 := HOM.out _ (mem_getD.2 ⟨i, hi, rfl⟩)
        obtain ⟨t, ht, he⟩ := mem_getD.1 (List.mem_of_mem_take h1)
        rw [← he]; exact HCL.out t ht)
      obtain ⟨oo, ocap, rfl, hocap, homax, _, hoel⟩ := Own.sl OW.out encI_len
      rw [← ho] at hoel hocap HOW ⊢
      rw [zL_len] at hocap HOW ⊢
      unfold maxLen at homax
      clear hd e1 hc ho hq OW BW
      have HBD : Hid (incS (qA p) o q = if (decide (o.length = 0) || decide (qA p (o.getD (o.length - 1) 0) < qA p q)) = true then o ++ [q] else o) := Lib.hid (by
        unfold incS
        by_cases h : o.length = 0 ∨ qA p (o.getD (o.length - 1) 0) < qA p q
        · rw [if_pos h, if_pos (by simpa using h)]
        · rw [if_neg h, if_neg (by simpa using h)])
      have hqx : qA p q = x.qu := by unfold qA; rw [getD_of hx]
      rw [hqx] at HBD
      obtain ⟨B, hB⟩ : ∃ B, B = (decide (o.length = 0) || decide (qA p (o.getD (o.length - 1) 0) < x.qu)) := ⟨_, rfl⟩
      rw [← hB] at HBD
      have HBB := Lib.hid hB
      have w2 : IntKind.i64.wrap ((o.length : Int) - 1) = (o.length : Int) - 1 := IntWalk.i64_in _ (by omega)
      clear hqx hB hx
      go_upto_region 16 with (fail)
      clear w2
      go_cut [80] (fun s80 w4 => s80 = .bool B ∧ ∃ n, w4 = wr.drewN n)
      case first =>
        by_cases h0 : o.length = 0
        · have hv : Hid (true = B) := Lib.hid (by rw [HBB.out, decide_eq_true h0]; rfl)
          have d1 : decide ((o.length : Int) - 1 < 0) = true := decide_eq_true (by omega)
          clear h0
          go_quiet (fail)
          go_wp2
          go_meet
          exact ⟨by rw [← hv.out], _, rfl⟩
        · obtain ⟨q2, hq2⟩ : ∃ q2, q2 = o.getD (o.length - 1) 0 := ⟨_, rfl⟩
          have hq2p : q2 < p.length := by rw [hq2]; exact HON.out _ (by omega)
          obtain ⟨b3, off3, hao3, hd3⟩ := hoel (o.length - 1) (q2 : Int) (by rw [hq2]; exact zL_get (by omega))
          subst hao3
          have c3 : wr.cell? ⟨b3, off3 + (o.length - 1), none⟩ = some (.int .i64 (q2 : Int)) := by have := hd3 0 _ rfl; simpa using this
          obtain ⟨y, hy⟩ : ∃ y, p[q2]? = some y := ⟨p[q2], by simp [hq2p]⟩
          obtain ⟨b4, off4, hao4, hc4⟩ := HEL.out q2 y hy
          simp only [Option.some.injEq, Addr.mk.injEq, and_true] at hao4
          obtain ⟨rfl, rfl⟩ := hao4
          have c4 := (HBX.out.cell (p := ⟨b, off + q2 * 4 + 3, none⟩) hblt).trans (hc4 3 _ rfl)
          have hv : Hid (decide (y.qu < x.qu) = B) := Lib.hid (by rw [HBB.out, decide_eq_false h0, ← hq2]; unfold qA; rw [getD_of hy]; rfl)
          have d1 : decide ((o.length : Int) - 1 < 0) = false := decide_eq_false (by omega)
          have w3 : ((o.length : Int) - 1).toNat = o.length - 1 := by omega
          have w4 : (0 : Int) ≤ (o.length : Int) - 1 := by omega
          have w5 : (o.length : Int) - 1 < (o.length : Int) := by omega
          have w6 : (1 : Int) ≤ (o.length : Int) := by omega
          have hq2z : (q2 : Int) < (p.length : Int) := by omega
          clear h0 hq2 hd3 hy hc4 hoel
          go_quiet (fail)
          go_wp2
          go_meet
          exact ⟨by rw [← hv.out], _, rfl⟩
      obtain ⟨rfl, nq, rfl⟩ := hcut
      have HO2 := Lib.hid (HOW.out.drewN nq)
      have HB2 := Lib.hid (below_drewN HBWj.out nq)
      cases B
      case true =>
        have HFO : Hid (o ++ [q] = (c.take (j + 1)).foldl (incS (qA p)) []) := Lib.hid (by rw [HTK.out, HBD.out]; rfl)
        have hcnt : Hid (((zL o).length + 1) * 8 ≤ 140737488355328) := Lib.hid (by rw [zL_len]; omega)
        have hszj2 : wq.heap.size ≤ (wr.drewN nq).heap.size := hszj
        clear hoel
        go_wp2_with (at_builtin; refine wpList_push rfl _ _ 23 rfl slI rfl rfl (q : Int) rfl rfl rfl HO2.out rfl hcnt.out hszj2 ?_; intro v5 w5 ho5 hb5; obtain ⟨ao6, L6, cp6, rfl⟩ := Own.slv encI_len ho5; have HO5 := Lib.hid ho5; have HB5 := Lib.hid (HB2.out.trans hb5); clear ho5 hb5)
        go_roundg (c.length - (j + 1))
        case measure => omega
        case rel => exact ⟨j + 1, by omega, by omega, by go_num, (show Own _ _ _ _ _ _ _ by rw [← HFO.out, zL_snoc]; exact HO5.out), HB5.out⟩
      case false =>
        have HFO : Hid (o = (c.take (j + 1)).foldl (incS (qA p)) []) := Lib.hid (by rw [HTK.out, HBD.out]; rfl)
        clear hoel
        go_wp2
        go_roundg (c.length - (j + 1))
        case measure => omega
        case rel => exact ⟨j + 1, by omega, by omega, by go_num, (show Own _ _ _ _ _ _ _ by rw [← HFO.out]; exact HO2.out), HB2.out⟩
    · obtain rfl : j = c.length := by omega
      have HS := Lib.hid (Own.sl OW.out encI_len)
      have HBF := Lib.hid (HBW.out.thru BW.out)
      rw [List.take_length, ← HRET.out] at HS
      go_wp2
      go_ret
      exact SlRet.mk HS.out HBF.out
end Go.Proofs.Ytikgkgfcnciomaa

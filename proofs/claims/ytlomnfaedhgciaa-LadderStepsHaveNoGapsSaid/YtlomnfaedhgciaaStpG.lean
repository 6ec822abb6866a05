/- LadderStepsHaveNoGaps: what the law leans on, and its walk. -/
import Derived.Test.YtlomnfaedhgciaaStpW
import Derived.Test.YtlomnfaedhgciaaRenL
import Derived.Test.YtlomnfaedhgciaaAwk5
namespace Go.Proofs.Ytlomnfaedhgciaa
open Go.RowKit

theorem infoRg : (Try.prog.info? 47).map (fun i => (i.zero, i.size, i.bytes)) = some (some (.agg #[.string ⟨#[]⟩, .int .i64 0, .int .i64 0, .int .i64 0]), 4, 40) := by kernel_rfl
theorem slRg : SlT Try.prog 22 47 4 40 := by
  obtain ⟨i0, hi, hz0, hz1, hz2⟩ := info_parts infoRg
  exact ⟨i0, _, Try.underlying22, hi, hz0, hz1, hz2, rfl, by decide, by decide⟩

/-- The renditions with some numbers. -/
def someL (l : List Rng) (js : List Int) : List Rng := js.map fun z => l.getD z.toNat default

set_option maxRecDepth 100000 in
set_option maxHeartbeats 2000000 in
theorem some_any (w : World) (l : List Rng) (v u : Value) (js : List Int) (hl : Sl w 4 encR v l) (hu : Sl w 1 encI u js) (hjl : js.length ≤ 1000) (hin : ∀ x, x ∈ js → 0 ≤ x ∧ x < (l.length : Int)) :
    Calls Try.prog 8 #[v, u] w (SlRet w 4 encR (someL l js)) := by
  have HIN := Lib.hid hin
  obtain ⟨ao, cap, rfl, hcap, hmax, _, hel⟩ := hl
  unfold maxLen at hmax
  have HEL := Lib.hid hel
  obtain ⟨uo, ucap, rfl, hucap, humax, _, hule⟩ := hu
  unfold maxLen at humax
  have HUE := Lib.hid hule
  have HRET : Hid (someL l js = js.map fun z => l.getD z.toNat default) := Lib.hid rfl
  clear hel hule hin
  go_enter Try.func8, Try.ntmps8
  go_wp2
  go_loopg [5, 10] js.length (fun gg s5 s10 wr => ∃ k : Nat, k ≤ js.length ∧ js.length - k ≤ gg ∧ s10 = .int .i64 k ∧ Aside (Own wr w.heap.size 47 4 encR s5 ((js.take k).map fun z => l.getD z.toNat default)) ∧ Aside (Below w.heap.size w wr))
  case atStart => exact ⟨0, Nat.zero_le _, by omega, rfl, (show Own _ _ _ _ _ _ _ from Own.nil), Below.refl _ w⟩
  obtain ⟨k, hk, hg, rfl, OW, BW⟩ := hrel
  have HOW := Lib.hid OW.out
  by_cases hlt : k < js.length
  · have hltz : (k : Int) < (js.length : Int) := by omega
    obtain ⟨z, hz⟩ : ∃ z, js[k]? = some z := ⟨js[k], by simp [hlt]⟩
    obtain ⟨hz0, hz1⟩ := HIN.out z (List.mem_of_getElem? hz)
    obtain ⟨q, rfl⟩ := Int.eq_ofNat_of_zero_le hz0
    have hql : q < l.length := by omega
    obtain ⟨bc, offc, hao, hd⟩ := HUE.out k (q : Int) hz
    subst hao
    have e1 : w.cell? ⟨bc, offc + k, none⟩ = some (.int .i64 (q : Int)) := by have := hd 0 _ rfl; simpa using this
    have cq := (BW.out.cell (p := ⟨bc, offc + k, none⟩) (World.block_lt_of_cell? w _ e1)).trans e1
    obtain ⟨x, hx⟩ : ∃ x, l[q]? = some x := ⟨l[q], by simp [hql]⟩
    obtain ⟨b, off, hao, hc⟩ := HEL.out q x hx
    subst hao
    have hblt : b < w.heap.size := World.block_lt_of_cell? w ⟨b, off + q * 4 + 0, none⟩ (hc 0 _ rfl)
    have c0 : wr.cell? ⟨b, off + q * 4, none⟩ = some (.string x.na) := (BW.out.cell (p := ⟨b, off + q * 4 + 0, none⟩) hblt).trans (hc 0 _ rfl)
    have c1 := (BW.out.cell (p := ⟨b, off + q * 4 + 1, none⟩) hblt).trans (hc 1 _ rfl)
    have c2 := (BW.out.cell (p := ⟨b, off + q * 4 + 2, none⟩) hblt).trans (hc 2 _ rfl)
    have c3 := (BW.out.cell (p := ⟨b, off + q * 4 + 3, none⟩) hblt).trans (hc 3 _ rfl)
    have HTK : Hid (((js.take k).map fun z => l.getD z.toNat default) ++ [x] = (js.take (k + 1)).map fun z => l.getD z.toNat default) := Lib.hid (by rw [take_next hz, List.map_append]; simp [hx])
    have hcnt : Hid ((((js.take k).map fun z => l.getD z.toNat default).length + 1) * 40 ≤ 140737488355328) := Lib.hid (by simp; omega)
    have HBW := Lib.hid BW.out
    have hszw := BW.out.size
    obtain ⟨ao5, L5, cp5, rfl⟩ := Own.slv encR_len OW.out
    clear hd e1 hc hx hz hz0 OW BW
    go_wp2_with (at_builtin; refine wpList_push rfl _ _ 22 rfl slRg rfl rfl x rfl rfl rfl HOW.out rfl hcnt.out hszw ?_; intro v5 w5 ho5 hb5; obtain ⟨ao6, L6, cp6, rfl⟩ := Own.slv encR_len ho5; have HO5 := Lib.hid ho5; have HB5 := Lib.hid (HBW.out.trans hb5); clear ho5 hb5)
    go_roundg (js.length - (k + 1))
    case measure => omega
    case rel => exact ⟨k + 1, by omega, by omega, by go_num, (show Own _ _ _ _ _ _ _ by rw [← HTK.out]; exact HO5.out), HB5.out⟩
  · obtain rfl : k = js.length := by omega
    have HS := Lib.hid (Own.sl OW.out encR_len)
    rw [List.take_length, ← HRET.out] at HS
    have HBF := Lib.hid BW.out
    go_wp2
    go_ret
    exact SlRet.mk HS.out HBF.out

section
variable {nr : Nat → Nat → Bool} {N : Nat}
theorem pathL_get (nr : Nat → Nat → Bool) (N : Nat) : ∀ T j, j ≤ T → (pathL nr N T)[j]? = some ((itN nr N j : Nat) : Int)
  | 0, j, h => by
    obtain rfl : j = 0 := by omega
    rfl
  | T + 1, j, h => by
    unfold pathL
    by_cases e : j = T + 1
    · subst e
      rw [List.getElem?_append_right (by rw [pathL_len]; omega), pathL_len]
      simp
    · rw [List.getElem?_append_left (by rw [pathL_len]; omega)]
      exact pathL_get nr N T j (by omega)
theorem itN_up (hN : 1 ≤ N) (h0 : lf nr N 0 < 1000) {j : Nat} (hj : j < lf nr N 0) : itN nr N j < itN nr N (j + 1) ∧ nr (itN nr N j) (itN nr N (j + 1)) = true := by
  have h1 := itN_ok hN h0 j (by omega)
  have h2 := (itN_end hN h0 (j := j) (by omega)).2 hj
  have h3 := (nx_spec (nr := nr) h2 (by omega)).1
  exact ⟨h3.1, h3.2.2.1⟩
theorem itN_mono (hN : 1 ≤ N) (h0 : lf nr N 0 < 1000) {i j : Nat} (hij : i < j) (hj : j ≤ lf nr N 0) : itN nr N i < itN nr N j := by
  obtain ⟨d, rfl⟩ : ∃ d, j = i + d + 1 := ⟨j - i - 1, by omega⟩
  clear hij
  induction d with
  | zero => exact (itN_up hN h0 (by omega)).1
  | succ d ih => exact Nat.lt_trans (ih (by omega)) (itN_up hN h0 (by omega)).1
end

/-- What Steps finds, alone. -/
def stepsL (l : List Rng) (n d : Int) : List Rng := someL l (pathL (nrB l n d) l.length (lf (nrB l n d) l.length 0))
theorem stepsL_get {l : List Rng} {n d : Int} (hN : 1 ≤ l.length) (h0 : lf (nrB l n d) l.length 0 < 1000) {j : Nat} (hj : j ≤ lf (nrB l n d) l.length 0) : (stepsL l n d)[j]? = l[itN (nrB l n d) l.length j]? := by
  have h1 := (itN_ok hN h0 j hj).1
  unfold stepsL someL
  rw [List.getElem?_map, pathL_get _ _ _ _ hj]
  simp [h1]
theorem stepsL_len (l : List Rng) (n d : Int) : (stepsL l n d).length = lf (nrB l n d) l.length 0 + 1 := by
  unfold stepsL someL
  rw [List.length_map, pathL_len]
theorem stepsL_ok {l : List Rng} {n d : Int} (h : checkR l = 0) (hN : 1 ≤ l.length) (h0 : lf (nrB l n d) l.length 0 < 1000) : checkR (stepsL l n d) = 0 := by
  have hlen := stepsL_len l n d
  have hg := fun j hj => stepsL_get (l := l) (n := n) (d := d) hN h0 (j := j) hj
  have hb := lf_bd (nr := nrB l n d) (N := l.length) l.length 0 (by omega)
  have hk := fun j hj => (itN_ok (nr := nrB l n d) hN h0 j hj).1
  have hm := fun i j h1 h2 => itN_mono (nr := nrB l n d) hN h0 (i := i) (j := j) h1 h2
  rw [checkR_iff] at h ⊢
  obtain ⟨h1, h2, h3, h4⟩ := h
  have he : ∀ j, (hj : j < (stepsL l n d).length) → ∃ hq : itN (nrB l n d) l.length j < l.length, (stepsL l n d)[j] = l[itN (nrB l n d) l.length j] := fun j hj => by
    have := hg j (by omega)
    have hq := hk j (by omega)
    rw [List.getElem?_eq_getElem hj, List.getElem?_eq_getElem hq] at this
    exact ⟨hq, by simpa using this⟩
  refine ⟨by omega, fun x hx => ?_, ?_, ?_⟩
  · obtain ⟨j, hj, rfl⟩ := List.mem_iff_getElem.1 hx
    obtain ⟨hq, e⟩ := he j hj
    rw [e]
    exact h2 _ (List.getElem_mem _)
  · rw [List.pairwise_iff_getElem] at h3 ⊢
    intro i j hi hj hij
    obtain ⟨hq, e⟩ := he i hi
    obtain ⟨hr, f⟩ := he j hj
    rw [e, f]
    exact h3 _ _ hq hr (hm i j hij (by omega))
  · rw [List.pairwise_iff_getElem] at h4 ⊢
    intro i j hi hj hij
    obtain ⟨hq, e⟩ := he i hi
    obtain ⟨hr, f⟩ := he j hj
    rw [e, f]
    exact h4 _ _ hq hr (hm i j hij (by omega))
theorem stepsL_gap {l : List Rng} {n d : Int} (hN : 1 ≤ l.length) (h0 : lf (nrB l n d) l.length 0 < 1000) {i : Nat} (hi : i < (stepsL l n d).length) : gapB (stepsL l n d) n d i = false := by
  have hlen := stepsL_len l n d
  unfold gapB
  cases i with
  | zero => rfl
  | succ j =>
    have h1 := (itN_up (nr := nrB l n d) hN h0 (j := j) (by omega)).2
    have g1 := stepsL_get (l := l) (n := n) (d := d) hN h0 (j := j) (by omega)
    have g2 := stepsL_get (l := l) (n := n) (d := d) hN h0 (j := j + 1) (by omega)
    rw [Nat.add_sub_cancel, List.getD_eq_getElem?_getD, List.getD_eq_getElem?_getD, g1, g2, ← List.getD_eq_getElem?_getD, ← List.getD_eq_getElem?_getD]
    have h2 : (!farB (l.getD (itN (nrB l n d) l.length j) default).ra (l.getD (itN (nrB l n d) l.length (j + 1)) default).ra n d) = true := h1
    rw [Bool.not_eq_true'] at h2
    rw [h2]
    simp
theorem wrgA_kind {l : List Rng} {n d : Int} : ∀ k, k ≤ l.length → (∀ i, i < l.length → gapB l n d i = false) → ∀ x, x ∈ wrgA l n d k → x.ki = 1 ∨ x.ki = 2
  | 0, _, _, x, h => by simp [wrgA] at h
  | k + 1, hk, hg, x, h => by
    unfold wrgA at h
    rw [List.mem_append, List.mem_append, List.mem_append] at h
    rcases h with ((h | h) | h) | h
    · exact wrgA_kind k (by omega) hg x h
    · unfold wrg1 at h
      split at h
      · simp at h
      · rw [List.mem_singleton] at h; subst h; exact .inl rfl
    · unfold wrg2 at h
      split at h
      · rw [List.mem_singleton] at h; subst h; exact .inr rfl
      · simp at h
    · unfold wrg3 at h
      rw [hg k (by omega)] at h
      simp at h
end Go.Proofs.Ytlomnfaedhgciaa

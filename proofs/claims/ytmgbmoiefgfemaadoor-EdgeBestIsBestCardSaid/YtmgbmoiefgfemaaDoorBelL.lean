/- The least used goes: never more is found than by the best: plain. -/
import Derived.Test.YtmgbmoiefgfemaaDoorBsfM
namespace Go.Proofs.YtmgbmoiefgfemaaDoor
open Go.RowKit

/-- One, if a string is on a list. -/
def isOn (x : ByteArray) (L : List ByteArray) : Nat := if onL x L = true then 1 else 0
theorem isOn_in {x : ByteArray} {L : List ByteArray} (h : x ∈ L) : isOn x L = 1 := by unfold isOn; rw [if_pos (onL_iff.2 h)]
theorem isOn_out {x : ByteArray} {L : List ByteArray} (h : ¬ x ∈ L) : isOn x L = 0 := by unfold isOn; rw [if_neg fun c => h (onL_iff.1 c)]
theorem countP_rmv (p : ByteArray → Bool) (x : ByteArray) : ∀ {L : List ByteArray}, L.Nodup → L.countP p = (if p x = true then isOn x L else 0) + (rmv x L).countP p
  | [], _ => by simp [isOn, onL, rmv]
  | a :: L, h => by
    rw [List.nodup_cons] at h
    have ih := countP_rmv p x h.2
    rw [rmv_cons, List.countP_cons]
    by_cases e : a = x
    · subst e
      rw [if_pos rfl, rmv_out h.1, isOn_in (by simp)]
      omega
    · rw [if_neg e, List.countP_cons, ih]
      have : isOn x (a :: L) = isOn x L := by
        by_cases hx : x ∈ L
        · rw [isOn_in hx, isOn_in (by simp [hx])]
        · rw [isOn_out hx, isOn_out (by simp [hx, Ne.symm e])]
      rw [this]
      omega
/-- How many of a list are asked for again up to a place. -/
def cu (K : List ByteArray) (i t : Nat) (L : List ByteArray) : Nat := L.countP fun y => decide (nxU K y i ≤ t)
theorem cu_now {K L : List ByteArray} {i t : Nat} (hL : L.Nodup) (hi : i < K.length) (ht : i ≤ t) : cu K i t L = isOn (keyA K i) L + cu K (i + 1) t (rmv (keyA K i) L) := by
  unfold cu
  rw [countP_rmv _ (keyA K i) hL, if_pos (by rw [nxU_here hi rfl]; exact decide_eq_true ht)]
  congr 1
  apply List.countP_congr
  intro y hy
  rw [nxU_on hi fun c => (mem_rmv.1 hy).2 c.symm]
theorem cu_at {K L : List ByteArray} {i : Nat} (hL : L.Nodup) (hi : i < K.length) : cu K i i L = isOn (keyA K i) L := by
  rw [cu_now hL hi (Nat.le_refl _)]
  have : cu K (i + 1) i (rmv (keyA K i) L) = 0 := by
    unfold cu
    rw [List.countP_eq_zero]
    intro y hy h
    have h2 := of_decide_eq_true h
    have := ((nxU_bd K y _ (i + 1) rfl).2 (by omega)).1
    omega
  omega
theorem cu_next {K L : List ByteArray} {i t : Nat} (hL : L.Nodup) (hx : keyA K i ∈ L) : cu K (i + 1) t L = (if nxU K (keyA K i) (i + 1) ≤ t then 1 else 0) + cu K (i + 1) t (rmv (keyA K i) L) := by
  unfold cu
  rw [countP_rmv _ (keyA K i) hL, isOn_in hx]
  simp
theorem idxF_take (x : ByteArray) : ∀ (L : List ByteArray) (k r : Nat), (0 ≤ Lib.idxFromS L x k ∧ Lib.idxFromS L x k < (k + r : Nat)) ↔ x ∈ L.take r
  | [], k, r => by simp [Lib.idxFromS]
  | z :: L, k, 0 => by
    rcases idxS_bd x (z :: L) k with h | ⟨j, h1, _, h2⟩
    · rw [h]; simp
    · rw [h2]; simp; omega
  | z :: L, k, r + 1 => by
    rw [List.take_succ_cons, List.mem_cons]
    by_cases e : z = x
    · subst e
      simp [Lib.idxFromS]
      omega
    · have e2 : Lib.idxFromS (z :: L) x k = Lib.idxFromS L x (k + 1) := by simp [Lib.idxFromS, e]
      rw [e2, ← idxF_take x L (k + 1) r]
      have e3 : (k + (r + 1) : Nat) = (k + 1 + r : Nat) := by omega
      rw [e3]
      exact ⟨Or.inr, fun h => h.resolve_left fun c => e c.symm⟩
theorem idxF_get (x : ByteArray) : ∀ (L : List ByteArray) (k j : Nat), Lib.idxFromS L x k = (k + j : Nat) → L[j]? = some x
  | [], k, j, h => by simp [Lib.idxFromS] at h; omega
  | z :: L, k, j, h => by
    by_cases e : z = x
    · subst e
      simp [Lib.idxFromS] at h
      obtain rfl : j = 0 := by omega
      rfl
    · have e2 : Lib.idxFromS (z :: L) x k = Lib.idxFromS L x (k + 1) := by simp [Lib.idxFromS, e]
      rw [e2] at h
      cases j with
      | zero =>
        rcases idxS_bd x L (k + 1) with h2 | ⟨j, h1, _, h2⟩ <;> omega
      | succ j =>
        rw [List.getElem?_cons_succ]
        exact idxF_get x L (k + 1) j (by rw [h]; omega)
theorem atK_take (K : List ByteArray) (i r : Nat) : (0 ≤ atK K i ∧ atK K i < (r : Nat)) ↔ keyA K i ∈ (recK K i).take r := by
  have := idxF_take (keyA K i) (recK K i) 0 r
  rw [Nat.zero_add] at this
  exact this
theorem recK_step {K : List ByteArray} {i : Nat} (hn : (recK K i).Nodup) : recK K (i + 1) = keyA K i :: rmv (keyA K i) (recK K i) := by
  rw [recK_next]
  split
  · rename_i h
    rcases atK_bd K i with h1 | ⟨j, _, h1⟩
    · omega
    · rw [h1, Int.toNat_natCast, eraseIdx_rmv hn (idxF_get (keyA K i) (recK K i) 0 j (by rw [Nat.zero_add]; exact h1))]
  · rename_i h
    rw [rmv_out]
    exact fun c => h (of_decide_eq_true ((Lib.containsS_iff _ _).2 c))
theorem recK_nodup (K : List ByteArray) : ∀ i, (recK K i).Nodup
  | 0 => by simp [recK]
  | i + 1 => by
    have ih := recK_nodup K i
    rw [recK_step ih, List.nodup_cons]
    exact ⟨fun c => (mem_rmv.1 c).2 rfl, rmv_nodup ih⟩
theorem rfS_nodup (K : List ByteArray) (r : Nat) : ∀ i, (rfS K r i).1.Nodup
  | 0 => by simp [rfS]
  | i + 1 => by
    have ih := rfS_nodup K r i
    rw [rfS_next]
    split
    · exact ih
    · rename_i h
      have hx : ¬ keyA K i ∈ (rfS K r i).1 := fun c => h ((Lib.containsS_iff _ _).2 c)
      show ((if (rfS K r i).1.length = r then (rfS K r i).1.eraseIdx (wrA K i (rfS K r i).1 (rfS K r i).1.length) else (rfS K r i).1) ++ [keyA K i]).Nodup
      have hs : (if (rfS K r i).1.length = r then (rfS K r i).1.eraseIdx (wrA K i (rfS K r i).1 (rfS K r i).1.length) else (rfS K r i).1).Sublist (rfS K r i).1 := by
        split
        · exact List.eraseIdx_sublist _ _
        · exact List.Sublist.refl _
      rw [List.nodup_append]
      refine ⟨ih.sublist hs, by simp, fun a ha b hb e => ?_⟩
      rw [List.mem_singleton] at hb
      subst hb
      subst e
      exact hx (hs.subset ha)
/-- What is kept without the one that is asked for. -/
theorem take_rmv (x : ByteArray) : ∀ {R : List ByteArray} (r : Nat), R.Nodup → ((rmv x R).take (r - 1)).Sublist (rmv x (R.take r))
  | [], r, _ => by simp [rmv]
  | a :: R, 0, _ => by simp
  | a :: R, s + 1, h => by
    rw [List.nodup_cons] at h
    rw [List.take_succ_cons, rmv_cons, rmv_cons]
    by_cases e : a = x
    · subst e
      rw [if_pos rfl, if_pos rfl, rmv_out h.1, rmv_out fun c => h.1 (List.mem_of_mem_take c)]
      exact List.Sublist.refl _
    · rw [if_neg e, if_neg e]
      cases s with
      | zero => simp
      | succ k =>
        show (List.take (k + 1) (a :: rmv x R)).Sublist _
        rw [List.take_succ_cons]
        exact (take_rmv x (k + 1) h.2).cons_cons a
/-- What the best holds behind a round, without the one that was asked for. -/
theorem rfS_rest {K : List ByteArray} {r i : Nat} (hr : 0 < r) :
    keyA K i ∈ (rfS K r (i + 1)).1 ∧ (rfS K r (i + 1)).2 = (rfS K r i).2 + (isOn (keyA K i) (rfS K r i).1 : Nat) ∧
      (rmv (keyA K i) (rfS K r (i + 1)).1 = rmv (keyA K i) (rfS K r i).1 ∨
        (isOn (keyA K i) (rfS K r i).1 = 0 ∧ (rfS K r i).1.length = r ∧ ∃ e, e ∈ (rfS K r i).1 ∧ (∀ y, y ∈ (rfS K r i).1 → nxU K y (i + 1) ≤ nxU K e (i + 1)) ∧ rmv (keyA K i) (rfS K r (i + 1)).1 = rmv e (rfS K r i).1)) := by
  have hn := rfS_nodup K r i
  rw [rfS_next]
  obtain ⟨B, hB⟩ : ∃ B, B = (rfS K r i).1 := ⟨_, rfl⟩
  rw [← hB] at hn ⊢
  by_cases hx : keyA K i ∈ B
  · rw [if_pos ((Lib.containsS_iff _ _).2 hx), isOn_in hx]
    exact ⟨hx, rfl, Or.inl rfl⟩
  · rw [if_neg fun c => hx ((Lib.containsS_iff _ _).1 c), isOn_out hx]
    have key : ∀ L : List ByteArray, (∀ y, y ∈ L → y ∈ B) → rmv (keyA K i) (L ++ [keyA K i]) = L := fun L hL => by
      unfold rmv
      rw [List.filter_append]
      have h1 := rmv_out (x := keyA K i) (H := L) fun c => hx (hL _ c)
      unfold rmv at h1
      rw [h1]
      simp
    by_cases hl : B.length = r
    · rw [if_pos hl]
      obtain ⟨h1, h2⟩ := wrA_ok K i B B.length
      have h3 := h1 (by omega)
      obtain ⟨y, hy⟩ : ∃ y, B[wrA K i B B.length]? = some y := ⟨B[wrA K i B B.length], by simp [h3]⟩
      have hky : keyA B (wrA K i B B.length) = y := by unfold keyA; rw [List.getD_eq_getElem?_getD, hy]; rfl
      refine ⟨by simp, by simp, Or.inr ⟨rfl, hl, y, List.mem_of_getElem? hy, fun z hz => ?_, ?_⟩⟩
      · obtain ⟨j, hj, rfl⟩ := List.getElem_of_mem hz
        have h4 := h2 j hj
        rw [hky] at h4
        have hkz : keyA B j = B[j] := by unfold keyA; rw [List.getD_eq_getElem?_getD, List.getElem?_eq_getElem hj]; rfl
        rw [hkz] at h4
        exact h4
      · show rmv (keyA K i) (B.eraseIdx _ ++ [keyA K i]) = _
        rw [key _ fun y hy => (List.eraseIdx_sublist _ _).subset hy, eraseIdx_rmv hn hy]
    · rw [if_neg hl]
      refine ⟨by simp, by simp, Or.inl ?_⟩
      show rmv (keyA K i) (B ++ [keyA K i]) = _
      rw [key _ fun y hy => hy, rmv_out hx]
theorem cntQ_isOn (K : List ByteArray) {r : Nat} (hr : 0 < r) (i : Nat) : cntQ K (r - 1) (i + 1) = cntQ K (r - 1) i + (isOn (keyA K i) ((recK K i).take r) : Nat) := by
  show cntQ K (r - 1) i + (if 0 ≤ atK K i ∧ atK K i ≤ ((r - 1 : Nat) : Int) then 1 else 0) = _
  have h := atK_take K i r
  by_cases hx : keyA K i ∈ (recK K i).take r
  · have := h.2 hx
    rw [isOn_in hx, if_pos (by omega)]
    rfl
  · rw [isOn_out hx, if_neg fun c => hx (h.1 (by omega))]
    rfl
/-- Never more is found than by the best. -/
theorem bel (K : List ByteArray) {r : Nat} (hr : 0 < r) : ∀ i, i ≤ K.length → cntQ K (r - 1) i ≤ (rfS K r i).2 ∧ ∀ t, i ≤ t → t < K.length → cntQ K (r - 1) i + (cu K i t ((recK K i).take r) : Nat) ≤ (rfS K r i).2 + (cu K i t (rfS K r i).1 : Nat)
  | 0, _ => by simp [cntQ, rfS, recK, cu]
  | i + 1, hi => by
    obtain ⟨ih1, ih2⟩ := bel K hr i (by omega)
    have hil : i < K.length := by omega
    have nB := rfS_nodup K r i
    have nR := recK_nodup K i
    have nC : ((recK K i).take r).Nodup := nR.sublist (List.take_sublist _ _)
    obtain ⟨b1, b2, b3⟩ := rfS_rest (K := K) (i := i) hr
    have h0 := ih2 i (Nat.le_refl _) hil
    rw [cu_at nC hil, cu_at nB hil] at h0
    rw [cntQ_isOn K hr, b2]
    refine ⟨h0, fun t ht1 ht2 => ?_⟩
    have ht := ih2 t (by omega) ht2
    rw [cu_now nC hil (by omega), cu_now nB hil (by omega)] at ht
    have eC : (recK K (i + 1)).take r = keyA K i :: (rmv (keyA K i) (recK K i)).take (r - 1) := by
      rw [recK_step nR]
      obtain ⟨s, rfl⟩ : ∃ s, r = s + 1 := ⟨r - 1, by omega⟩
      rw [List.take_succ_cons]
      rfl
    have nC2 : ((recK K (i + 1)).take r).Nodup := (recK_nodup K (i + 1)).sublist (List.take_sublist _ _)
    rw [cu_next nC2 (by rw [eC]; simp), cu_next (rfS_nodup K r (i + 1)) b1]
    have eR : rmv (keyA K i) ((recK K (i + 1)).take r) = (rmv (keyA K i) (recK K i)).take (r - 1) := by
      rw [eC, rmv_cons, if_pos rfl, rmv_out]
      exact fun c => (mem_rmv.1 (List.mem_of_mem_take c)).2 rfl
    rw [eR]
    have hsub := take_rmv (keyA K i) r nR
    have hle : cu K (i + 1) t ((rmv (keyA K i) (recK K i)).take (r - 1)) ≤ cu K (i + 1) t (rmv (keyA K i) ((recK K i).take r)) := hsub.countP_le
    rcases b3 with b3 | ⟨b3, b4, e, b5, b6, b7⟩
    · rw [b3]
      omega
    · rw [b7]
      have hB0 : rmv (keyA K i) (rfS K r i).1 = (rfS K r i).1 := rmv_out fun c => by rw [isOn_in c] at b3; omega
      rw [hB0, b3] at ht
      have hcr := countP_rmv (fun y => decide (nxU K y (i + 1) ≤ t)) e nB
      rw [isOn_in b5] at hcr
      by_cases hq : nxU K e (i + 1) ≤ t
      · have hall : cu K (i + 1) t (rmv e (rfS K r i).1) = (rmv e (rfS K r i).1).length := by
          unfold cu
          rw [List.countP_eq_length]
          intro y hy
          have := b6 y (mem_rmv.1 hy).1
          exact decide_eq_true (by omega)
        have hl1 := rmv_len nB b5
        have hl2 : cu K (i + 1) t ((rmv (keyA K i) (recK K i)).take (r - 1)) ≤ ((rmv (keyA K i) (recK K i)).take (r - 1)).length := List.countP_le_length
        have hl3 : ((rmv (keyA K i) (recK K i)).take (r - 1)).length ≤ r - 1 := by rw [List.length_take]; omega
        rw [b3] at h0 ⊢
        omega
      · have heq : cu K (i + 1) t (rfS K r i).1 = cu K (i + 1) t (rmv e (rfS K r i).1) := by
          unfold cu
          rw [hcr, if_neg (by simpa using hq)]
          omega
        rw [b3]
        omega
end Go.Proofs.YtmgbmoiefgfemaaDoor

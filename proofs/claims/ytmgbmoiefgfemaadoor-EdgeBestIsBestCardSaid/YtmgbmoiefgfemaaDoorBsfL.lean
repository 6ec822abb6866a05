/- Best of keys: what a cache finds at most: plain. -/
import Derived.Test.YtmgbmoiefgfemaaDoorCrvL
namespace Go.Proofs.YtmgbmoiefgfemaaDoor
open Go.RowKit

theorem ba_eq {a b : ByteArray} (h : a.toList = b.toList) : a = b := by
  rw [ByteArray.toList_eq, ByteArray.toList_eq] at h
  obtain ⟨⟨x⟩⟩ := a
  obtain ⟨⟨y⟩⟩ := b
  simp only at h
  rw [h]
/-- The first place from k on at which x is asked for; the number of keys: none. -/
def nuF (K : List ByteArray) (x : ByteArray) : Nat → Nat → Nat
  | 0, _ => K.length
  | d + 1, k => if keyA K k = x then k else nuF K x d (k + 1)
def nxU (K : List ByteArray) (x : ByteArray) (k : Nat) : Nat := nuF K x (K.length - k) k
theorem nxU_end (K : List ByteArray) (x : ByteArray) {k : Nat} (h : K.length ≤ k) : nxU K x k = K.length := by
  unfold nxU
  rw [show K.length - k = 0 by omega]
  rfl
theorem nxU_here {K : List ByteArray} {x : ByteArray} {k : Nat} (h : k < K.length) (hx : keyA K k = x) : nxU K x k = k := by
  unfold nxU
  rw [show K.length - k = (K.length - k - 1) + 1 by omega]
  show (if keyA K k = x then k else _) = k
  rw [if_pos hx]
theorem nxU_on {K : List ByteArray} {x : ByteArray} {k : Nat} (h : k < K.length) (hx : ¬ keyA K k = x) : nxU K x k = nxU K x (k + 1) := by
  unfold nxU
  rw [show K.length - k = (K.length - (k + 1)) + 1 by omega]
  show (if keyA K k = x then k else _) = _
  rw [if_neg hx]
theorem nxU_bd (K : List ByteArray) (x : ByteArray) : ∀ d k, K.length - k = d → nxU K x k ≤ K.length ∧ (nxU K x k < K.length → k ≤ nxU K x k ∧ keyA K (nxU K x k) = x)
  | 0, k, h => by
    rw [nxU_end K x (by omega)]
    exact ⟨Nat.le_refl _, fun h => absurd h (Nat.lt_irrefl _)⟩
  | d + 1, k, h => by
    by_cases hx : keyA K k = x
    · rw [nxU_here (by omega) hx]
      exact ⟨by omega, fun _ => ⟨Nat.le_refl _, hx⟩⟩
    · rw [nxU_on (by omega) hx]
      obtain ⟨h1, h2⟩ := nxU_bd K x d (k + 1) (by omega)
      exact ⟨h1, fun h3 => ⟨by have := (h2 h3).1; omega, (h2 h3).2⟩⟩
theorem nxU_le (K : List ByteArray) (x : ByteArray) (k : Nat) : nxU K x k ≤ K.length := (nxU_bd K x _ k rfl).1
theorem nxU_inj {K : List ByteArray} {x y : ByteArray} {k : Nat} (h : nxU K x k = nxU K y k) (hl : nxU K x k < K.length) : x = y := by
  have h1 := ((nxU_bd K x _ k rfl).2 hl).2
  have h2 := ((nxU_bd K y _ k rfl).2 (by omega)).2
  rw [← h1, h, h2]
/-- A list without a string. -/
def rmv (x : ByteArray) (H : List ByteArray) : List ByteArray := H.filter fun y => !decide (y = x)
theorem mem_rmv {x y : ByteArray} {H : List ByteArray} : y ∈ rmv x H ↔ y ∈ H ∧ y ≠ x := by
  unfold rmv
  rw [List.mem_filter]
  simp
theorem rmv_out {x : ByteArray} {H : List ByteArray} (h : ¬ x ∈ H) : rmv x H = H := by
  unfold rmv
  rw [List.filter_eq_self]
  intro a ha
  simp only [Bool.not_eq_true', decide_eq_false_iff_not]
  exact fun e => h (by rw [← e]; exact ha)
theorem rmv_cons (x a : ByteArray) (H : List ByteArray) : rmv x (a :: H) = if a = x then rmv x H else a :: rmv x H := by
  unfold rmv
  rw [List.filter_cons]
  by_cases e : a = x <;> simp [e]
theorem rmv_lt {x : ByteArray} : ∀ {H : List ByteArray}, x ∈ H → (rmv x H).length + 1 ≤ H.length
  | a :: r, h => by
    have hle : (rmv x r).length ≤ r.length := List.length_filter_le _ _
    rw [rmv_cons]
    by_cases e : a = x
    · rw [if_pos e]; simp only [List.length_cons]; omega
    · rw [if_neg e]
      have := rmv_lt (H := r) ((List.mem_cons.1 h).resolve_left fun c => e c.symm)
      simp only [List.length_cons]; omega
theorem rmv_len {x : ByteArray} : ∀ {H : List ByteArray}, H.Nodup → x ∈ H → (rmv x H).length = H.length - 1
  | a :: r, hn, h => by
    rw [List.nodup_cons] at hn
    rw [rmv_cons]
    by_cases e : a = x
    · subst e
      rw [if_pos rfl, rmv_out hn.1]
      simp
    · rw [if_neg e]
      have hx : x ∈ r := (List.mem_cons.1 h).resolve_left fun c => e c.symm
      have := rmv_len hn.2 hx
      have := List.length_pos_of_mem hx
      simp only [List.length_cons]; omega
theorem rmv_nodup {x : ByteArray} {H : List ByteArray} (h : H.Nodup) : (rmv x H).Nodup := h.filter _
theorem eraseIdx_rmv : ∀ {H : List ByteArray}, H.Nodup → ∀ {j : Nat} {x : ByteArray}, H[j]? = some x → H.eraseIdx j = rmv x H
  | a :: r, hn, 0, x, hx => by
    rw [List.nodup_cons] at hn
    simp only [List.getElem?_cons_zero, Option.some.injEq] at hx
    subst hx
    rw [rmv_cons, if_pos rfl, rmv_out hn.1]
    rfl
  | a :: r, hn, j + 1, x, hx => by
    rw [List.nodup_cons] at hn
    simp only [List.getElem?_cons_succ] at hx
    have hax : ¬ a = x := fun e => hn.1 (by rw [e]; exact List.mem_of_getElem? hx)
    rw [rmv_cons, if_neg hax, List.eraseIdx_cons_succ, eraseIdx_rmv hn.2 hx]
theorem nodup_le {A B : List ByteArray} (hA : A.Nodup) (h : ∀ x, x ∈ A → x ∈ B) : A.length ≤ B.length := by
  induction A generalizing B with
  | nil => exact Nat.zero_le _
  | cons a r ih =>
    rw [List.nodup_cons] at hA
    have h2 := ih (B := rmv a B) hA.2 fun x hx => mem_rmv.2 ⟨h x (by simp [hx]), fun e => hA.1 (by rw [← e]; exact hx)⟩
    have h3 := rmv_lt (h a (by simp))
    simp only [List.length_cons]
    omega
theorem nodup_eq {A B : List ByteArray} (hA : A.Nodup) (h : ∀ x, x ∈ A → x ∈ B) (hl : A.length = B.length) : ∀ x, x ∈ B → x ∈ A := by
  intro x hx
  apply Classical.byContradiction
  intro hn
  have := nodup_le (A := x :: A) (B := B) (List.nodup_cons.2 ⟨hn, hA⟩) fun y hy => by
    rcases List.mem_cons.1 hy with rfl | hy
    · exact hx
    · exact h y hy
  simp only [List.length_cons] at this
  omega
/-- Two caches that hold as much, and the same of what is asked for again. -/
structure SimC (K : List ByteArray) (i : Nat) (H H' : List ByteArray) : Prop where
  n1 : H.Nodup
  n2 : H'.Nodup
  len : H.length = H'.length
  same : ∀ x, nxU K x i < K.length → (x ∈ H ↔ x ∈ H')
/-- What is asked for last goes. -/
def Worst (K : List ByteArray) (i : Nat) (H : List ByteArray) (e : ByteArray) : Prop := e ∈ H ∧ ∀ x, x ∈ H → nxU K x i ≤ nxU K e i
theorem SimC.hit {K : List ByteArray} {i : Nat} {H H' : List ByteArray} (h : SimC K i H H') (hi : i < K.length) : keyA K i ∈ H ↔ keyA K i ∈ H' := h.same _ (by rw [nxU_here hi rfl]; exact hi)
theorem SimC.next {K : List ByteArray} {i : Nat} {H H' : List ByteArray} (h : SimC K i H H') (hi : i < K.length) (h1 : keyA K i ∈ H) : SimC K (i + 1) H H' := ⟨h.n1, h.n2, h.len, fun x hx => by
  by_cases e : keyA K i = x
  · subst e
    exact ⟨fun _ => (h.hit hi).1 h1, fun _ => h1⟩
  · exact h.same x (by rw [nxU_on hi e]; exact hx)⟩
theorem SimC.put {K : List ByteArray} {i : Nat} {H H' : List ByteArray} (h : SimC K i H H') (hi : i < K.length) (h1 : ¬ keyA K i ∈ H) : SimC K (i + 1) (keyA K i :: H) (H' ++ [keyA K i]) := by
  have h2 : ¬ keyA K i ∈ H' := fun e => h1 ((h.hit hi).2 e)
  refine ⟨List.nodup_cons.2 ⟨h1, h.n1⟩, ?_, by simp [h.len], fun x hx => ?_⟩
  · rw [List.nodup_append]
    refine ⟨h.n2, by simp, fun a ha b hb e => ?_⟩
    rw [List.mem_singleton] at hb
    subst hb
    subst e
    exact h2 ha
  · by_cases e : keyA K i = x
    · subst e; simp
    · have := h.same x (by rw [nxU_on hi e]; exact hx)
      simp [this, Ne.symm e]
/-- What goes out of both. -/
theorem SimC.drop {K : List ByteArray} {i : Nat} {H H' : List ByteArray} {e e' : ByteArray} (h : SimC K i H H') (h1 : Worst K i H e) (h2 : Worst K i H' e') : SimC K i (rmv e H) (rmv e' H') := by
  have key : (nxU K e i = K.length ∧ nxU K e' i = K.length) ∨ e = e' := by
    by_cases hn : nxU K e i = K.length
    · left
      refine ⟨hn, ?_⟩
      apply Classical.byContradiction
      intro hn'
      have hlt : ∀ x, x ∈ H' → nxU K x i < K.length := fun x hx => by have := h2.2 x hx; have := nxU_le K e' i; omega
      have hsub : ∀ x, x ∈ H' → x ∈ H := fun x hx => (h.same x (hlt x hx)).2 hx
      have := nodup_eq h.n2 hsub h.len.symm e h1.1
      have := hlt e this
      omega
    · right
      have hlt : ∀ x, x ∈ H → nxU K x i < K.length := fun x hx => by have := h1.2 x hx; have := nxU_le K e i; omega
      have hsub : ∀ x, x ∈ H → x ∈ H' := fun x hx => (h.same x (hlt x hx)).1 hx
      have heq := nodup_eq h.n1 hsub h.len
      have a1 := h2.2 e (hsub e h1.1)
      have a2 := h1.2 e' (heq e' h2.1)
      exact nxU_inj (k := i) (by omega) (hlt e h1.1)
  refine ⟨rmv_nodup h.n1, rmv_nodup h.n2, ?_, fun x hx => ?_⟩
  · rw [rmv_len h.n1 h1.1, rmv_len h.n2 h2.1, h.len]
  · have hs := h.same x hx
    rw [mem_rmv, mem_rmv]
    rcases key with ⟨k1, k2⟩ | rfl
    · have x1 : x ≠ e := fun c => by subst c; omega
      have x2 : x ≠ e' := fun c => by subst c; omega
      exact ⟨fun hm => ⟨hs.1 hm.1, x2⟩, fun hm => ⟨hs.2 hm.1, x1⟩⟩
    · exact ⟨fun hm => ⟨hs.1 hm.1, hm.2⟩, fun hm => ⟨hs.2 hm.1, hm.2⟩⟩
/-- The reference's cache, and how many were found. -/
def wrA (K : List ByteArray) (i : Nat) (H : List ByteArray) : Nat → Nat
  | 0 => 0
  | k + 1 => if nxU K (keyA H (wrA K i H k)) (i + 1) < nxU K (keyA H k) (i + 1) then k else wrA K i H k
def rfS (K : List ByteArray) (r : Nat) : Nat → List ByteArray × Int
  | 0 => ([], 0)
  | i + 1 => let p := rfS K r i
    if Lib.containsS p.1 (keyA K i) = true then (p.1, p.2 + 1)
    else ((if p.1.length = r then p.1.eraseIdx (wrA K i p.1 p.1.length) else p.1) ++ [keyA K i], p.2)
theorem wrA_ok (K : List ByteArray) (i : Nat) (H : List ByteArray) : ∀ k, (0 < k → wrA K i H k < k) ∧ ∀ j, j < k → nxU K (keyA H j) (i + 1) ≤ nxU K (keyA H (wrA K i H k)) (i + 1)
  | 0 => ⟨fun h => absurd h (Nat.lt_irrefl _), fun j hj => absurd hj (Nat.not_lt_zero _)⟩
  | k + 1 => by
    obtain ⟨h1, h2⟩ := wrA_ok K i H k
    unfold wrA
    split
    · rename_i h
      refine ⟨fun _ => by omega, fun j hj => ?_⟩
      by_cases e : j = k
      · subst e; exact Nat.le_refl _
      · have := h2 j (by omega); omega
    · rename_i h
      refine ⟨fun _ => ?_, fun j hj => ?_⟩
      · cases k with
        | zero => show 0 < 1; omega
        | succ k => have := h1 (by omega); omega
      · by_cases e : j = k
        · subst e; omega
        · exact h2 j (by omega)
theorem rfS_len (K : List ByteArray) (r : Nat) : ∀ i, (rfS K r i).1.length ≤ i ∧ (0 ≤ (rfS K r i).2 ∧ (rfS K r i).2 ≤ i)
  | 0 => by simp [rfS]
  | i + 1 => by
    have ih := rfS_len K r i
    show (if Lib.containsS (rfS K r i).1 (keyA K i) = true then ((rfS K r i).1, (rfS K r i).2 + 1) else ((if (rfS K r i).1.length = r then (rfS K r i).1.eraseIdx (wrA K i (rfS K r i).1 (rfS K r i).1.length) else (rfS K r i).1) ++ [keyA K i], (rfS K r i).2)).1.length ≤ _ ∧ _
    rw [show rfS K r (i + 1) = (if Lib.containsS (rfS K r i).1 (keyA K i) = true then ((rfS K r i).1, (rfS K r i).2 + 1) else ((if (rfS K r i).1.length = r then (rfS K r i).1.eraseIdx (wrA K i (rfS K r i).1 (rfS K r i).1.length) else (rfS K r i).1) ++ [keyA K i], (rfS K r i).2)) from rfl]
    split
    · refine ⟨by show (rfS K r i).1.length ≤ _; omega, ?_⟩
      show 0 ≤ (rfS K r i).2 + 1 ∧ (rfS K r i).2 + 1 ≤ _
      omega
    · refine ⟨?_, by show 0 ≤ (rfS K r i).2 ∧ (rfS K r i).2 ≤ _; omega⟩
      show (_ ++ [keyA K i]).length ≤ _
      rw [List.length_append]
      have h2 : (if (rfS K r i).1.length = r then (rfS K r i).1.eraseIdx (wrA K i (rfS K r i).1 (rfS K r i).1.length) else (rfS K r i).1).length ≤ (rfS K r i).1.length := by
        split
        · exact List.length_eraseIdx_le _ _
        · exact Nat.le_refl _
      simp only [List.length_cons, List.length_nil]
      omega
/-- What Best answers. -/
def bsN (K : List ByteArray) (r : Nat) : Int := if r = 0 then 0 else (rfS K r K.length).2
end Go.Proofs.YtmgbmoiefgfemaaDoor

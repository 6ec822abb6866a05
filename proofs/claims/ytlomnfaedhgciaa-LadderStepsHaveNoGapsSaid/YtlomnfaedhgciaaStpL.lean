/- The fewest steps from each number to the last one; plain. -/
import Derived.Test.YtlomnfaedhgciaaLib
namespace Go.Proofs.Ytlomnfaedhgciaa
open Go.RowKit

/-- The least of 1000 and g k + 1, over numbers k between i and m that are near to i. -/
def lfA (nr : Nat → Nat → Bool) (g : Nat → Nat) (i : Nat) : Nat → Nat
  | 0 => 1000
  | m + 1 => if i < m ∧ nr i m = true then min (lfA nr g i m) (g m + 1) else lfA nr g i m
def lfF (nr : Nat → Nat → Bool) (N : Nat) : Nat → Nat → Nat
  | 0, _ => 0
  | f + 1, i => if N ≤ i + 1 then 0 else lfA nr (lfF nr N f) i N
/-- How many more steps are needed from i on; 1000: there is no way. -/
def lf (nr : Nat → Nat → Bool) (N i : Nat) : Nat := lfF nr N N i

theorem lfA_congr {nr : Nat → Nat → Bool} {g h : Nat → Nat} {i : Nat} : ∀ {m}, (∀ k, i < k → k < m → g k = h k) → lfA nr g i m = lfA nr h i m
  | 0, _ => rfl
  | m + 1, H => by
    unfold lfA
    rw [lfA_congr (m := m) (fun k h1 h2 => H k h1 (by omega))]
    by_cases hi : i < m
    · rw [H m hi (by omega)]
    · rw [if_neg (fun h => hi h.1), if_neg (fun h => hi h.1)]
theorem lfF_congr {nr : Nat → Nat → Bool} {N : Nat} : ∀ (f f' i : Nat), N ≤ f + i + 1 → N ≤ f' + i + 1 → lfF nr N f i = lfF nr N f' i
  | 0, 0, _, _, _ => rfl
  | 0, f' + 1, i, h, _ => by unfold lfF; rw [if_pos (by omega)]
  | f + 1, 0, i, _, h => by unfold lfF; rw [if_pos (by omega)]
  | f + 1, f' + 1, i, h, h' => by
    unfold lfF
    split
    · rfl
    · exact lfA_congr fun k h1 h2 => lfF_congr f f' k (by omega) (by omega)
theorem lf_last {nr : Nat → Nat → Bool} {N i : Nat} (h : N ≤ i + 1) : lf nr N i = 0 := by
  unfold lf
  cases N with
  | zero => rfl
  | succ n => unfold lfF; rw [if_pos h]
theorem lf_eq {nr : Nat → Nat → Bool} {N i : Nat} (h : i + 1 < N) : lf nr N i = lfA nr (lf nr N) i N := by
  unfold lf
  obtain ⟨n, rfl⟩ : ∃ n, N = n + 1 := ⟨N - 1, by omega⟩
  conv => lhs; unfold lfF
  rw [if_neg (by omega)]
  exact lfA_congr fun k h1 h2 => lfF_congr n (n + 1) k (by omega) (by omega)

theorem lfA_le (nr : Nat → Nat → Bool) (g : Nat → Nat) (i : Nat) : ∀ m, lfA nr g i m ≤ 1000
  | 0 => Nat.le_refl _
  | m + 1 => by
    have := lfA_le nr g i m
    unfold lfA
    split <;> omega
theorem lfA_pos (nr : Nat → Nat → Bool) (g : Nat → Nat) (i : Nat) : ∀ m, 1 ≤ lfA nr g i m
  | 0 => by unfold lfA; omega
  | m + 1 => by
    have := lfA_pos nr g i m
    unfold lfA
    split <;> omega
theorem lfA_init (nr : Nat → Nat → Bool) (g : Nat → Nat) (i : Nat) : ∀ m, m ≤ i + 1 → lfA nr g i m = 1000
  | 0, _ => rfl
  | m + 1, h => by
    unfold lfA
    rw [if_neg (by omega)]
    exact lfA_init nr g i m (by omega)
/-- A number of steps is 1000, or not more than are left. -/
theorem lf_bd {nr : Nat → Nat → Bool} {N : Nat} : ∀ (j i : Nat), N - i ≤ j → lf nr N i = 1000 ∨ lf nr N i ≤ N - 1 - i
  | 0, i, h => .inr (by rw [lf_last (by omega)]; omega)
  | j + 1, i, h => by
    by_cases hi : i + 1 < N
    · rw [lf_eq hi]
      have key : ∀ m, m ≤ N → lfA nr (lf nr N) i m = 1000 ∨ lfA nr (lf nr N) i m ≤ N - 1 - i := by
        intro m
        induction m with
        | zero => exact fun _ => .inl rfl
        | succ m ih =>
          intro hm
          have h1 := ih (by omega)
          have h2 := lfA_le nr (lf nr N) i m
          unfold lfA
          split
          · rename_i hc
            have h3 := lf_bd (nr := nr) (N := N) j m (by omega)
            omega
          · exact h1
      exact key N (Nat.le_refl _)
    · exact .inr (by rw [lf_last (by omega)]; omega)

/-- The program's choice of the next one. -/
def nxA (nr : Nat → Nat → Bool) (g : Nat → Nat) (i : Nat) : Nat → Nat
  | 0 => 0
  | m + 1 => if i < m ∧ nr i m = true ∧ g m + 1 < lfA nr g i m then m else nxA nr g i m
/-- What the choice is: the first one of those that need the fewest steps. -/
theorem nxA_spec (nr : Nat → Nat → Bool) (g : Nat → Nat) (i : Nat) : ∀ m, lfA nr g i m < 1000 →
    (i < nxA nr g i m ∧ nxA nr g i m < m ∧ nr i (nxA nr g i m) = true ∧ g (nxA nr g i m) + 1 = lfA nr g i m) ∧ ∀ k, i < k → k < nxA nr g i m → nr i k = true → lfA nr g i m < g k + 1
  | 0, h => by unfold lfA at h; omega
  | m + 1, h => by
    have ih := nxA_spec nr g i m
    have hmin : ∀ m k, i < k → k < m → nr i k = true → lfA nr g i m ≤ g k + 1 := by
      intro m
      induction m with
      | zero => intro k _ h; omega
      | succ m ih2 =>
        intro k h1 h2 h3
        unfold lfA
        by_cases e : k = m
        · subst e; rw [if_pos ⟨h1, h3⟩]; omega
        · have := ih2 k h1 (by omega) h3
          split <;> omega
    unfold lfA at h ⊢
    unfold nxA
    by_cases hc : i < m ∧ nr i m = true
    · rw [if_pos hc] at h ⊢
      by_cases hl : g m + 1 < lfA nr g i m
      · rw [if_pos ⟨hc.1, hc.2, hl⟩]
        exact ⟨⟨hc.1, by omega, hc.2, by omega⟩, fun k h1 h2 h3 => by have := hmin m k h1 h2 h3; omega⟩
      · rw [if_neg (fun h => hl h.2.2)]
        have h2 := ih (by omega)
        exact ⟨⟨h2.1.1, by omega, h2.1.2.2.1, by omega⟩, fun k h3 h4 h5 => by have := h2.2 k h3 h4 h5; omega⟩
    · rw [if_neg hc] at h ⊢
      rw [if_neg (fun h => hc ⟨h.1, h.2.1⟩)]
      have h2 := ih h
      exact ⟨⟨h2.1.1, by omega, h2.1.2.2.1, h2.1.2.2.2⟩, h2.2⟩
def nx (nr : Nat → Nat → Bool) (N i : Nat) : Nat := nxA nr (lf nr N) i N
theorem nx_spec {nr : Nat → Nat → Bool} {N i : Nat} (hi : i + 1 < N) (h : lf nr N i < 1000) :
    (i < nx nr N i ∧ nx nr N i < N ∧ nr i (nx nr N i) = true ∧ lf nr N (nx nr N i) + 1 = lf nr N i) ∧ ∀ k, i < k → k < nx nr N i → nr i k = true → lf nr N i < lf nr N k + 1 := by
  have := nxA_spec nr (lf nr N) i N
  rw [← lf_eq hi] at this
  exact this h
theorem lf_pos {nr : Nat → Nat → Bool} {N i : Nat} (hi : i + 1 < N) : 1 ≤ lf nr N i := by rw [lf_eq hi]; exact lfA_pos _ _ _ _

/-- The way: the number after j steps, and all up to it. -/
def itN (nr : Nat → Nat → Bool) (N : Nat) : Nat → Nat
  | 0 => 0
  | j + 1 => nx nr N (itN nr N j)
def pathL (nr : Nat → Nat → Bool) (N : Nat) : Nat → List Int
  | 0 => [0]
  | j + 1 => pathL nr N j ++ [(itN nr N (j + 1) : Int)]
theorem pathL_len (nr : Nat → Nat → Bool) (N : Nat) : ∀ j, (pathL nr N j).length = j + 1
  | 0 => rfl
  | j + 1 => by simp [pathL, pathL_len nr N j]
/-- While steps are left. -/
theorem itN_ok {nr : Nat → Nat → Bool} {N : Nat} (hN : 1 ≤ N) (h0 : lf nr N 0 < 1000) : ∀ j, j ≤ lf nr N 0 → itN nr N j < N ∧ lf nr N (itN nr N j) + j = lf nr N 0
  | 0, _ => ⟨by unfold itN; omega, rfl⟩
  | j + 1, hj => by
    obtain ⟨h1, h2⟩ := itN_ok hN h0 j (by omega)
    have h3 : itN nr N j + 1 < N := by
      by_cases e : itN nr N j + 1 < N
      · exact e
      · have := lf_last (nr := nr) (N := N) (i := itN nr N j) (by omega); omega
    have h4 := (nx_spec (nr := nr) h3 (by omega)).1
    unfold itN
    exact ⟨h4.2.1, by omega⟩
/-- The way ends at the last number, when all steps are done. -/
theorem itN_end {nr : Nat → Nat → Bool} {N j : Nat} (hN : 1 ≤ N) (h0 : lf nr N 0 < 1000) (hj : j ≤ lf nr N 0) : (itN nr N j + 1 < N ↔ j < lf nr N 0) := by
  obtain ⟨h1, h2⟩ := itN_ok hN h0 j hj
  constructor
  · intro h
    have := lf_pos (nr := nr) h
    omega
  · intro h
    by_cases e : itN nr N j + 1 < N
    · exact e
    · have := lf_last (nr := nr) (N := N) (i := itN nr N j) (by omega); omega
end Go.Proofs.Ytlomnfaedhgciaa

/- The next choice of as many numbers; plain. -/
import Derived.Test.YtfkmdojnkdoffaaBstL
import Derived.Test.YtfkmdojnkdoffaaCmpN
namespace Go.Proofs.Ytfkmdojnkdoffaa
open Go.RowKit

theorem lt_ex : ∀ {A B : List Int}, A.length = B.length → A < B → ∃ (j : Nat) (a b : Int), A.take j = B.take j ∧ A[j]? = some a ∧ B[j]? = some b ∧ a < b
  | [], [], _, h => absurd h (List.lt_irrefl _)
  | [], _ :: _, h, _ => by simp at h
  | _ :: _, [], h, _ => by simp at h
  | x :: r, y :: s, hl, h => by
    rw [List.cons_lt_cons_iff] at h
    rcases h with h | ⟨rfl, h⟩
    · exact ⟨0, x, y, rfl, rfl, rfl, h⟩
    · obtain ⟨j, a, b, h1, h2, h3, h4⟩ := lt_ex (by simpa using hl) h
      exact ⟨j + 1, a, b, by simp [h1], by simpa using h2, by simpa using h3, h4⟩
theorem not_lt_ge {X C : List Int} (hl : X.length = C.length) (h : ∀ (t : Nat) (a b : Int), X[t]? = some a → C[t]? = some b → b ≤ a) : ¬ X < C := fun hlt => by
  obtain ⟨j, a, b, _, h2, h3, h4⟩ := lt_ex hl hlt
  have := h j a b h2 h3
  omega
/-- Numbers that rise: each is at least its place, and leaves room for those behind it. -/
theorem inc_lo {n : Nat} : ∀ {L : List Int} {a : Int}, L.Pairwise (· < ·) → (∀ k, k ∈ L → a ≤ k) → ∀ (j : Nat) (x : Int), L[j]? = some x → a + j ≤ x
  | [], _, _, _, j, x, h => by simp at h
  | y :: r, a, hp, hr, 0, x, h => by simp at h; subst h; have := hr y (by simp); omega
  | y :: r, a, hp, hr, j + 1, x, h => by
    obtain ⟨h1, h2⟩ := List.pairwise_cons.1 hp
    have hy := hr y (by simp)
    have := inc_lo (n := n) (a := y + 1) h2 (fun k hk => by have := h1 k hk; omega) j x (by simpa using h)
    omega
theorem inc_hi {n : Int} : ∀ {L : List Int}, L.Pairwise (· < ·) → (∀ k, k ∈ L → k < n) → ∀ (j : Nat) (x : Int), L[j]? = some x → x ≤ n - L.length + j
  | [], _, _, j, x, h => by simp at h
  | y :: r, hp, hr, 0, x, h => by
    simp at h; subst h
    obtain ⟨h1, h2⟩ := List.pairwise_cons.1 hp
    have hy := hr y (by simp)
    have := inc_len r (y + 1) n h2 (fun k hk => ⟨by have := h1 k hk; omega, hr k (by simp [hk])⟩) (by omega)
    simp; omega
  | y :: r, hp, hr, j + 1, x, h => by
    obtain ⟨h1, h2⟩ := List.pairwise_cons.1 hp
    have := inc_hi (n := n) h2 (fun k hk => hr k (by simp [hk])) j x (by simpa using h)
    simp; omega

/-- C, whose number i is one more, and whose numbers from there up to, without, m go on from it. -/
def NP (C : List Int) (i m : Nat) (M : List Int) : Prop := M.length = C.length ∧ ∀ (j : Nat) (c ci : Int), C[j]? = some c → C[i]? = some ci → M[j]? = some (if j < i then c else if j < m then ci + 1 + ((j : Int) - i) else c)
theorem NP.start {C : List Int} {i : Nat} {ci : Int} (h : C[i]? = some ci) : NP C i (i + 1) (C.set i (ci + 1)) := by
  refine ⟨by simp, fun j c ci' hj hi => ?_⟩
  rw [h] at hi
  simp only [Option.some.injEq] at hi
  subst hi
  have hjl : j < C.length := (List.getElem?_eq_some_iff.1 hj).1
  by_cases e : j = i
  · subst e
    rw [List.getElem?_set_self hjl, if_neg (by omega), if_pos (by omega)]
    congr 1; omega
  · rw [List.getElem?_set_ne (fun h => e h.symm), hj]
    split
    · rfl
    · rw [if_neg (by omega)]
theorem NP.next {C M : List Int} {i m : Nat} {ci : Int} (h : NP C i m M) (hi : C[i]? = some ci) (him : i < m) (hm : m < C.length) : M[m - 1]? = some (ci + 1 + ((m : Int) - 1 - i)) ∧ NP C i (m + 1) (M.set m (ci + 1 + ((m : Int) - i))) := by
  refine ⟨?_, by simpa using h.1, fun j c ci' hj hi' => ?_⟩
  · have := h.2 (m - 1) _ ci (List.getElem?_eq_getElem (by omega)) hi
    rw [this, if_neg (by omega), if_pos (by omega)]
    congr 1; omega
  · rw [hi] at hi'
    simp only [Option.some.injEq] at hi'
    subst hi'
    have hjl : j < C.length := (List.getElem?_eq_some_iff.1 hj).1
    by_cases e : j = m
    · subst e
      rw [List.getElem?_set_self (by rw [h.1]; exact hjl), if_neg (by omega), if_pos (by omega)]
    · rw [List.getElem?_set_ne (fun h => e h.symm), h.2 j c ci hj hi]
      by_cases h1 : j < i
      · rw [if_pos h1, if_pos h1]
      · rw [if_neg h1, if_neg h1]
        by_cases h2 : j < m
        · rw [if_pos h2, if_pos (by omega)]
        · rw [if_neg h2, if_neg (by omega)]

/-- C' follows C among the choices of as many numbers below n. -/
def Nxt (n : Nat) (C C' : List Int) : Prop := ∃ (i : Nat) (ci : Int), C[i]? = some ci ∧ ci < (n : Int) - C.length + i ∧ (∀ (j : Nat) (c : Int), i < j → C[j]? = some c → c = (n : Int) - C.length + j) ∧ NP C i C.length C'
theorem Nxt.lt {n : Nat} {C C' : List Int} (h : Nxt n C C') : C < C' := by
  obtain ⟨i, ci, h1, h2, h3, h4⟩ := h
  have hil : i < C.length := (List.getElem?_eq_some_iff.1 h1).1
  have e := h4.2 i ci ci h1 h1
  rw [if_neg (by omega), if_pos hil] at e
  refine lt_hit (k := i) ?_ h1 e (by omega)
  apply List.ext_getElem?
  intro j
  by_cases hj : j < i
  · rw [List.getElem?_take_of_lt hj, List.getElem?_take_of_lt hj, h4.2 j _ ci (List.getElem?_eq_getElem (by omega)) h1, if_pos hj, List.getElem?_eq_getElem (by omega)]
  · rw [List.getElem?_eq_none (by simp; omega), List.getElem?_eq_none (by simp; omega)]
theorem Nxt.gap {n : Nat} {C C' X : List Int} (h : Nxt n C C') (hp : X.Pairwise (· < ·)) (hr : ∀ k, k ∈ X → k < (n : Int)) (hl : X.length = C.length) (hx : C < X) : ¬ X < C' := by
  obtain ⟨i, ci, h1, h2, h3, h4⟩ := h
  have hil : i < C.length := (List.getElem?_eq_some_iff.1 h1).1
  obtain ⟨j, a, b, e1, e2, e3, e4⟩ := lt_ex hl.symm hx
  have hjl : j < C.length := (List.getElem?_eq_some_iff.1 e2).1
  have hb := inc_hi hp hr j b e3
  have hji : j ≤ i := by
    rcases Nat.lt_or_ge i j with h | h
    · have := h3 j a h e2
      omega
    · exact h
  have hpre : ∀ t, t < j → C[t]? = X[t]? := fun t ht => by
    have := congrArg (·[t]?) e1
    simpa [List.getElem?_take_of_lt ht] using this
  rcases Nat.lt_or_ge j i with hlt | hge
  · intro hc
    have e5 := h4.2 j a ci e2 h1
    rw [if_pos hlt] at e5
    have h5 : C' < X := by
      refine lt_hit (k := j) ?_ e5 e3 e4
      apply List.ext_getElem?
      intro t
      by_cases ht : t < j
      · rw [List.getElem?_take_of_lt ht, List.getElem?_take_of_lt ht, ← hpre t ht, h4.2 t _ ci (List.getElem?_eq_getElem (by omega)) h1, if_pos (by omega), List.getElem?_eq_getElem (by omega)]
      · rw [List.getElem?_eq_none (by simp; omega), List.getElem?_eq_none (by simp; omega)]
    exact List.lt_irrefl _ (List.lt_trans hc h5)
  · obtain rfl : j = i := by omega
    rw [h1] at e2
    simp only [Option.some.injEq] at e2
    subst e2
    refine not_lt_ge (by rw [h4.1, hl]) fun t x y hx' hy => ?_
    have htl : t < C.length := by have := (List.getElem?_eq_some_iff.1 hx').1; omega
    have e6 := h4.2 t _ ci (List.getElem?_eq_getElem htl) h1
    rw [e6] at hy
    simp only [Option.some.injEq] at hy
    subst hy
    by_cases ht : t < j
    · rw [if_pos ht]
      have := hpre t ht
      rw [hx', List.getElem?_eq_getElem htl] at this
      simp only [Option.some.injEq] at this
      omega
    · rw [if_neg ht, if_pos htl]
      have h7 : (X.drop j).Pairwise (· < ·) := hp.sublist (List.drop_sublist _ _)
      have h8 := inc_lo (n := 0) (a := b) h7 (fun k hk => by
        obtain ⟨s, hs, rfl⟩ := List.mem_iff_getElem.1 hk
        have hs0 : (X.drop j)[0]? = some b := by rw [List.getElem?_drop]; exact e3
        rcases Nat.eq_zero_or_pos s with rfl | hs1
        · rw [List.getElem?_eq_getElem (by omega)] at hs0
          simp only [Option.some.injEq] at hs0
          omega
        · have hlt := List.pairwise_iff_getElem.1 h7 0 s (by omega) hs hs1
          rw [List.getElem?_eq_getElem (by omega)] at hs0
          simp only [Option.some.injEq] at hs0
          omega) (t - j) x (by rw [List.getElem?_drop, show j + (t - j) = t by omega]; exact hx')
      omega
theorem Nxt.ok {n : Nat} {C C' : List Int} (h : Nxt n C C') (hp : C.Pairwise (· < ·)) (hr : ∀ k, k ∈ C → 0 ≤ k ∧ k < (n : Int)) : C'.length = C.length ∧ C'.Pairwise (· < ·) ∧ ∀ k, k ∈ C' → 0 ≤ k ∧ k < (n : Int) := by
  obtain ⟨i, ci, h1, h2, h3, h4⟩ := h
  have hil : i < C.length := (List.getElem?_eq_some_iff.1 h1).1
  have hci := hr ci (List.mem_of_getElem? h1)
  have hat : ∀ (j : Nat) (hj : j < C.length), C'[j]? = some (if j < i then C[j] else ci + 1 + ((j : Int) - i)) := fun j hj => by
    rw [h4.2 j _ ci (List.getElem?_eq_getElem hj) h1]
    by_cases h : j < i
    · rw [if_pos h, if_pos h]
    · rw [if_neg h, if_neg h, if_pos hj]
  have hge : ∀ (j : Nat) (hj : j < C'.length), C'[j] = if h : j < i then C[j] else ci + 1 + ((j : Int) - i) := fun j hj => by
    have := hat j (by rw [← h4.1]; exact hj)
    rw [List.getElem?_eq_getElem hj] at this
    simp only [Option.some.injEq] at this
    rw [this]
    split <;> rfl
  refine ⟨h4.1, ?_, fun k hk => ?_⟩
  · rw [List.pairwise_iff_getElem]
    intro a b ha hb hab
    rw [hge a ha, hge b hb]
    have hcl := h4.1
    by_cases h5 : b < i
    · rw [dif_pos h5, dif_pos (by omega)]
      exact List.pairwise_iff_getElem.1 hp a b (by omega) (by omega) hab
    · rw [dif_neg h5]
      by_cases h6 : a < i
      · rw [dif_pos h6]
        have h7 := List.pairwise_iff_getElem.1 hp a i (by omega) hil h6
        rw [List.getElem?_eq_getElem hil] at h1
        simp only [Option.some.injEq] at h1
        omega
      · rw [dif_neg h6]
        omega
  · obtain ⟨s, hs, rfl⟩ := List.mem_iff_getElem.1 hk
    rw [hge s hs]
    have hcl := h4.1
    split
    · exact hr _ (List.getElem_mem _)
    · omega
/-- The last choice of as many numbers. -/
theorem last_no {n : Nat} {C X : List Int} (h : ∀ (j : Nat) (c : Int), C[j]? = some c → c = (n : Int) - C.length + j) (hp : X.Pairwise (· < ·)) (hr : ∀ k, k ∈ X → k < (n : Int)) (hl : X.length = C.length) : ¬ C < X :=
  not_lt_ge hl.symm fun t a b ha hb => by
    have h1 := h t a ha
    have h2 := inc_hi hp hr t b hb
    omega
/-- The first choice of k numbers. -/
def firstL (k : Nat) : List Int := (List.range k).map fun (j : Nat) => (j : Int)
theorem firstL_ok (k : Nat) : (firstL k).length = k ∧ (firstL k).Pairwise (· < ·) ∧ ∀ x, x ∈ firstL k → 0 ≤ x ∧ x < (k : Int) := by
  unfold firstL
  refine ⟨by simp, ?_, fun x hx => ?_⟩
  · rw [List.pairwise_map]
    exact List.pairwise_lt_range.imp fun h => by omega
  · rw [List.mem_map] at hx
    obtain ⟨j, hj, rfl⟩ := hx
    rw [List.mem_range] at hj
    omega
theorem firstL_le {k : Nat} {X : List Int} (hp : X.Pairwise (· < ·)) (hr : ∀ x, x ∈ X → 0 ≤ x) (hl : X.length = k) : ¬ X < firstL k :=
  not_lt_ge (by rw [hl, (firstL_ok k).1]) fun t a b ha hb => by
    have h1 := inc_lo (n := 0) (a := 0) hp hr t a ha
    unfold firstL at hb
    rw [List.getElem?_map] at hb
    have ht : t < k := by rw [← hl]; exact (List.getElem?_eq_some_iff.1 ha).1
    rw [List.getElem?_range ht] at hb
    simp at hb
    omega
theorem firstL_next (k : Nat) : firstL (k + 1) = firstL k ++ [(k : Int)] := by unfold firstL; rw [List.range_succ, List.map_append]; rfl

/-- How many choices are to come, at most. -/
def mu (n : Nat) : List Int → Nat
  | [] => 0
  | x :: r => ((n : Int) - x).toNat * (n + 1) ^ r.length + mu n r
theorem mu_lt {n : Nat} : ∀ {L : List Int}, (∀ k, k ∈ L → 0 ≤ k) → mu n L < (n + 1) ^ L.length
  | [], _ => by simp [mu]
  | x :: r, h => by
    have h1 := mu_lt (n := n) (L := r) fun k hk => h k (by simp [hk])
    have hx := h x (by simp)
    have h2 : ((n : Int) - x).toNat * (n + 1) ^ r.length ≤ n * (n + 1) ^ r.length := Nat.mul_le_mul_right _ (by omega)
    have h3 : (n + 1) ^ (x :: r).length = n * (n + 1) ^ r.length + (n + 1) ^ r.length := by rw [List.length_cons, Nat.pow_succ, Nat.mul_comm, Nat.succ_mul]
    rw [h3]
    simp only [mu]
    omega
theorem mu_next {n : Nat} : ∀ {A B : List Int}, A.length = B.length → A < B → (∀ k, k ∈ A → 0 ≤ k ∧ k < (n : Int)) → (∀ k, k ∈ B → 0 ≤ k ∧ k < (n : Int)) → mu n B < mu n A
  | [], [], _, h, _, _ => absurd h (List.lt_irrefl _)
  | [], _ :: _, h, _, _, _ => by simp at h
  | _ :: _, [], h, _, _, _ => by simp at h
  | x :: r, y :: s, hl, h, ha, hb => by
    rw [List.cons_lt_cons_iff] at h
    have hlr : r.length = s.length := by simpa using hl
    simp only [mu, hlr]
    rcases h with h | ⟨rfl, h⟩
    · have h1 := mu_lt (n := n) (L := s) fun k hk => (hb k (by simp [hk])).1
      have hx := ha x (by simp)
      have hy := hb y (by simp)
      have e : ((n : Int) - x).toNat = ((n : Int) - y).toNat + 1 + (((n : Int) - x).toNat - ((n : Int) - y).toNat - 1) := by omega
      rw [e, Nat.add_mul, Nat.add_mul, Nat.one_mul]
      omega
    · have := mu_next (n := n) hlr h (fun k hk => ha k (by simp [hk])) (fun k hk => hb k (by simp [hk]))
      omega
end Go.Proofs.Ytfkmdojnkdoffaa

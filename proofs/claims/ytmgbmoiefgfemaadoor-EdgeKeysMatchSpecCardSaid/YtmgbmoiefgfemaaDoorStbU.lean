/- The plain stable sort: blocks and their merging: plain. -/
import Derived.Test.YtmgbmoiefgfemaaDoorStbT
namespace Go.Proofs.YtmgbmoiefgfemaaDoor
open Go.RowKit
set_option linter.unusedSectionVars false

section
variable {α : Type} [Inhabited α]

/-- An element goes down into the row before it. -/
def insI (lt : α → α → Bool) (a : Nat) : Nat → List α → List α
  | 0 => fun l => l
  | j + 1 => fun l => if a < j + 1 ∧ lt (at_ l (j + 1)) (at_ l j) = true then insI lt a j (swL l (j + 1) j) else l
def insO (lt : α → α → Bool) (a b : Nat) : Nat → Nat → List α → List α
  | 0 => fun _ l => l
  | g + 1 => fun i l => if i < b then insO lt a b g (i + 1) (insI lt a i l) else l
def insB (lt : α → α → Bool) (a b : Nat) (l : List α) : List α := insO lt a b (b - a) (a + 1) l
/-- Blocks of 20 are sorted. -/
def blO (lt : α → α → Bool) (n : Nat) : Nat → Nat → List α → List α
  | 0 => fun _ l => l
  | g + 1 => fun a l => if a + 20 ≤ n then blO lt n g (a + 20) (insB lt a (a + 20) l) else insB lt a n l
/-- Neighbours are merged. -/
def mgO (lt : α → α → Bool) (bs n : Nat) : Nat → Nat → List α → List α
  | 0 => fun _ l => l
  | g + 1 => fun a l => if a + 2 * bs ≤ n then mgO lt bs n g (a + 2 * bs) (symR lt (2 * bs) a (a + bs) (a + 2 * bs) l) else if a + bs < n then symR lt (n - a) a (a + bs) n l else l
def stO (lt : α → α → Bool) (n : Nat) : Nat → Nat → List α → List α
  | 0 => fun _ l => l
  | g + 1 => fun bs l => if bs < n then stO lt n g (2 * bs) (mgO lt bs n (n + 1) 0 l) else l
/-- The stable sort. -/
def stR (lt : α → α → Bool) (l : List α) : List α := stO lt l.length (l.length + 1) 20 (blO lt l.length (l.length + 1) 0 l)

theorem insI_len (lt : α → α → Bool) (a : Nat) : ∀ j (l : List α), (insI lt a j l).length = l.length
  | 0, _ => rfl
  | j + 1, l => by
    unfold insI
    split
    · rw [insI_len lt a j, swL_len]
    · rfl
theorem insO_len (lt : α → α → Bool) (a b : Nat) : ∀ g i (l : List α), (insO lt a b g i l).length = l.length
  | 0, _, _ => rfl
  | g + 1, i, l => by
    unfold insO
    split
    · rw [insO_len lt a b g, insI_len]
    · rfl
theorem insB_len (lt : α → α → Bool) (a b : Nat) (l : List α) : (insB lt a b l).length = l.length := insO_len lt a b _ _ l
theorem blO_len (lt : α → α → Bool) (n : Nat) : ∀ g a (l : List α), (blO lt n g a l).length = l.length
  | 0, _, _ => rfl
  | g + 1, a, l => by
    unfold blO
    split
    · rw [blO_len lt n g, insB_len]
    · rw [insB_len]
theorem mgO_len (lt : α → α → Bool) (bs n : Nat) : ∀ g a (l : List α), (mgO lt bs n g a l).length = l.length
  | 0, _, _ => rfl
  | g + 1, a, l => by
    unfold mgO
    split
    · rw [mgO_len lt bs n g, symR_len]
    · split
      · rw [symR_len]
      · rfl
variable {lt : α → α → Bool} {T K : α → α → Prop}

theorem insI_ok (o : Ord lt T K) : ∀ (n : Nat) (P A Z : List α) (y : α) (a j : Nat), A.length = n → a = P.length → j = a + n → A.Pairwise T → (∀ x, x ∈ A → K x y) →
    ∃ A', insI lt a j (P ++ (A ++ y :: Z)) = P ++ (A' ++ Z) ∧ A'.Perm (A ++ [y]) ∧ A'.Pairwise T
  | 0, P, A, Z, y, a, j, hn, ha, hj, hA, hk => by
    obtain rfl := List.length_eq_zero_iff.1 hn
    refine ⟨[y], ?_, List.Perm.refl _, List.pairwise_singleton _ _⟩
    cases j with
    | zero => rfl
    | succ j =>
      unfold insI
      rw [if_neg (by omega)]
      simp
  | n + 1, P, A, Z, y, a, j, hn, ha, hj, hA, hk => by
    obtain ⟨A0, x, rfl, hA0⟩ := snoc_of hn
    obtain rfl : j = (a + n) + 1 := by omega
    obtain ⟨p1, p2, p3⟩ := List.pairwise_append.1 hA
    have e1 : at_ (P ++ (A0 ++ [x] ++ y :: Z)) (a + n + 1) = y := by
      have := at_app' (P := P ++ A0 ++ [x]) (x := y) (Z := Z) (n := a + n + 1) (by simp; omega)
      simpa using this
    have e2 : at_ (P ++ (A0 ++ [x] ++ y :: Z)) (a + n) = x := by
      have := at_app' (P := P ++ A0) (x := x) (Z := y :: Z) (n := a + n) (by simp; omega)
      simpa using this
    unfold insI
    rw [e1, e2]
    have hkx := hk x (by simp)
    by_cases hl : lt y x = true
    · rw [if_pos ⟨by omega, hl⟩]
      have hsw : swL (P ++ (A0 ++ [x] ++ y :: Z)) (a + n + 1) (a + n) = P ++ (A0 ++ y :: (x :: Z)) := by
        have := swL_down' (X := P ++ A0) (Y := []) (Z := Z) (x := x) (y := y) (i := a + n + 1) (j := a + n) (by simp; omega) (by simp; omega)
        simpa using this
      rw [hsw]
      obtain ⟨A', h1, h2, h3⟩ := insI_ok o n P A0 (x :: Z) y a (a + n) hA0 ha rfl p1 (fun z hz => hk z (by simp [hz]))
      refine ⟨A' ++ [x], by rw [h1]; simp, ?_, ?_⟩
      · have h4 : (A' ++ [x]).Perm (A0 ++ [y] ++ [x]) := h2.append_right [x]
        refine h4.trans ?_
        rw [List.append_assoc, List.append_assoc]
        exact List.Perm.append_left A0 (List.Perm.swap _ _ _)
      · rw [List.pairwise_append]
        refine ⟨h3, List.pairwise_singleton _ _, fun z hz w hw => ?_⟩
        rw [List.mem_singleton.1 hw]
        rcases List.mem_append.1 (h2.subset hz) with h5 | h5
        · exact p3 z h5 x (by simp)
        · rw [List.mem_singleton.1 h5]; exact (o.cmp _ _ hkx).1 hl
    · rw [if_neg (fun h => hl h.2)]
      refine ⟨A0 ++ [x] ++ [y], by simp, List.Perm.refl _, ?_⟩
      have hxy := o.ge hkx (by simpa using hl)
      rw [List.pairwise_append]
      refine ⟨hA, List.pairwise_singleton _ _, fun z hz w hw => ?_⟩
      rw [List.mem_singleton.1 hw]
      rcases List.mem_append.1 hz with h5 | h5
      · exact o.tr _ _ _ (p3 z h5 x (by simp)) hxy
      · rw [List.mem_singleton.1 h5]; exact hxy
theorem insO_ok (o : Ord lt T K) : ∀ (B P A Z : List α) (a b g i : Nat), a = P.length → i = a + A.length → b = i + B.length → B.length ≤ g → A.Pairwise T → B.Pairwise K → (∀ x, x ∈ A → ∀ y, y ∈ B → K x y) →
    ∃ A', insO lt a b g i (P ++ (A ++ (B ++ Z))) = P ++ (A' ++ Z) ∧ A'.Perm (A ++ B) ∧ A'.Pairwise T
  | [], P, A, Z, a, b, g, i, ha, hi, hb, hg, hA, hB, hk => by
    refine ⟨A, ?_, by simp, hA⟩
    cases g with
    | zero => rfl
    | succ g =>
      unfold insO
      rw [if_neg (by simp at hb; omega)]
      rfl
  | y :: B, P, A, Z, a, b, g, i, ha, hi, hb, hg, hA, hB, hk => by
    simp only [List.length_cons] at hb hg
    obtain ⟨g, rfl⟩ : ∃ g', g = g' + 1 := ⟨g - 1, by omega⟩
    unfold insO
    rw [if_pos (by omega)]
    obtain ⟨q1, q2⟩ := List.pairwise_cons.1 hB
    obtain ⟨A', h1, h2, h3⟩ := insI_ok o A.length P A (B ++ Z) y a i rfl ha hi hA (fun x hx => hk x hx y (by simp))
    rw [show P ++ (A ++ (y :: B ++ Z)) = P ++ (A ++ y :: (B ++ Z)) by simp, h1]
    have hl := h2.length_eq
    rw [List.length_append, List.length_singleton] at hl
    obtain ⟨A2, h4, h5, h6⟩ := insO_ok o B P A' Z a b g (i + 1) ha (by omega) (by omega) (by omega) h3 q2 (fun x hx z hz => by
      rcases List.mem_append.1 (h2.subset hx) with h7 | h7
      · exact hk x h7 z (by simp [hz])
      · rw [List.mem_singleton.1 h7]; exact q1 z hz)
    refine ⟨A2, h4, ?_, h6⟩
    have h8 := h5.trans (h2.append_right B)
    simpa using h8
theorem insB_ok (o : Ord lt T K) {B P Z : List α} {a b : Nat} (ha : a = P.length) (hb : b = a + B.length) (hB : B.Pairwise K) : ∃ A', insB lt a b (P ++ (B ++ Z)) = P ++ (A' ++ Z) ∧ A'.Perm B ∧ A'.Pairwise T := by
  cases B with
  | nil =>
    refine ⟨[], ?_, List.Perm.refl _, List.Pairwise.nil⟩
    simp only [List.length_nil] at hb
    unfold insB
    rw [show b - a = 0 by omega]
    rfl
  | cons x B =>
    simp only [List.length_cons] at hb
    obtain ⟨q1, q2⟩ := List.pairwise_cons.1 hB
    have := insO_ok o B P [x] Z a b (b - a) (a + 1) ha (by simp) (by omega) (by omega) (List.pairwise_singleton _ _) q2 (fun z hz y hy => by rw [List.mem_singleton.1 hz]; exact q1 y hy)
    unfold insB
    simpa using this

/-- Blocks of a size, each sorted, in the order in which they came. -/
inductive Bk (T K : α → α → Prop) (bs : Nat) : List α → Prop
  | last (l : List α) : l.length ≤ bs → l.Pairwise T → Bk T K bs l
  | cons (A R : List α) : A.length = bs → A.Pairwise T → (∀ x, x ∈ A → ∀ y, y ∈ R → K x y) → Bk T K bs R → Bk T K bs (A ++ R)
theorem blO_ok (o : Ord lt T K) : ∀ (g : Nat) (P R : List α) (a n : Nat), a = P.length → n = a + R.length → R.length < g → R.Pairwise K → ∃ Q, blO lt n g a (P ++ R) = P ++ Q ∧ Q.Perm R ∧ Bk T K 20 Q
  | 0, P, R, a, n, ha, hn, hg, hR => by omega
  | g + 1, P, R, a, n, ha, hn, hg, hR => by
    unfold blO
    by_cases h : a + 20 ≤ n
    · rw [if_pos h]
      obtain ⟨A, R', rfl, hA⟩ := split_at R 20 (by omega)
      rw [List.length_append] at hn hg
      obtain ⟨p1, p2, p3⟩ := List.pairwise_append.1 hR
      obtain ⟨A', e1, h1, h2⟩ := insB_ok o (B := A) (P := P) (Z := R') (a := a) (b := a + 20) ha (by omega) p1
      have hl := h1.length_eq
      obtain ⟨Q, e2, h3, h4⟩ := blO_ok o g (P ++ A') R' (a + 20) n (by rw [List.length_append]; omega) (by omega) (by omega) p2
      refine ⟨A' ++ Q, ?_, h1.append h3, .cons A' Q (by omega) h2 (fun x hx y hy => p3 x (h1.subset hx) y (h3.subset hy)) h4⟩
      rw [e1, show P ++ (A' ++ R') = P ++ A' ++ R' by simp, e2]
      simp
    · rw [if_neg h]
      obtain ⟨A', e1, h1, h2⟩ := insB_ok o (B := R) (P := P) (Z := []) (a := a) (b := n) ha hn hR
      exact ⟨A', by simpa using e1, h1, .last A' (by rw [h1.length_eq]; omega) h2⟩
theorem Bk.len {bs : Nat} {l : List α} (h : Bk T K bs l) (hb : bs < l.length) : ∃ A R, l = A ++ R ∧ A.length = bs ∧ A.Pairwise T ∧ (∀ x, x ∈ A → ∀ y, y ∈ R → K x y) ∧ Bk T K bs R ∧ 0 < R.length := by
  cases h with
  | last _ h1 _ => omega
  | cons A R h1 h2 h3 h4 => exact ⟨A, R, rfl, h1, h2, h3, h4, by rw [List.length_append] at hb; omega⟩
theorem Bk.one {bs : Nat} {l : List α} (h : Bk T K bs l) (hb : l.length ≤ bs) : l.Pairwise T := by
  cases h with
  | last _ _ h2 => exact h2
  | cons A R h1 h2 h3 h4 =>
    rw [List.length_append] at hb
    rw [List.length_eq_zero_iff.1 (show R.length = 0 by omega)]
    simpa using h2
theorem mgO_ok (o : Ord lt T K) {bs : Nat} (hbs : 0 < bs) : ∀ (g : Nat) (P R : List α) (a n : Nat), a = P.length → n = a + R.length → R.length < g → Bk T K bs R → ∃ Q, mgO lt bs n g a (P ++ R) = P ++ Q ∧ Q.Perm R ∧ Bk T K (2 * bs) Q
  | 0, P, R, a, n, ha, hn, hg, hR => by omega
  | g + 1, P, R, a, n, ha, hn, hg, hR => by
    unfold mgO
    by_cases h : a + 2 * bs ≤ n
    · rw [if_pos h]
      obtain ⟨A, R1, rfl, a1, a2, a3, a4, a5⟩ := hR.len (by omega)
      rw [List.length_append] at hn hg
      -- the second block
      have h2 : ∃ B R2, R1 = B ++ R2 ∧ B.length = bs ∧ B.Pairwise T ∧ (∀ x, x ∈ B → ∀ y, y ∈ R2 → K x y) ∧ Bk T K bs R2 := by
        by_cases hl : bs < R1.length
        · obtain ⟨B, R2, e, b1, b2, b3, b4, _⟩ := a4.len hl
          exact ⟨B, R2, e, b1, b2, b3, b4⟩
        · exact ⟨R1, [], by simp, by omega, a4.one (by omega), (fun x _ y hy => absurd hy (List.not_mem_nil)), .last [] (by simp) List.Pairwise.nil⟩
      obtain ⟨B, R2, rfl, b1, b2, b3, b4⟩ := h2
      rw [List.length_append] at hn hg
      obtain ⟨M, e1, m1, m2⟩ := symR_ok o (2 * bs) P A B R2 a (a + bs) (a + 2 * bs) ha (by omega) (by omega) (by omega) (by omega) (by omega) a2 b2 (fun x hx y hy => a3 x hx y (List.mem_append_left _ hy))
      have hl := m1.length_eq
      rw [List.length_append] at hl
      obtain ⟨Q, e2, q1, q2⟩ := mgO_ok o hbs g (P ++ M) R2 (a + 2 * bs) n (by rw [List.length_append]; omega) (by omega) (by omega) b4
      refine ⟨M ++ Q, ?_, ?_, .cons M Q (by omega) m2 (fun x hx y hy => ?_) q2⟩
      · rw [show P ++ (A ++ (B ++ R2)) = P ++ (A ++ (B ++ R2)) from rfl, e1, show P ++ (M ++ R2) = P ++ M ++ R2 by simp, e2]
        simp
      · have := m1.append q1
        simpa using this
      · rcases List.mem_append.1 (m1.subset hx) with h5 | h5
        · exact a3 x h5 y (List.mem_append_right _ (q1.subset hy))
        · exact b3 x h5 y (q1.subset hy)
    · rw [if_neg h]
      by_cases h1 : a + bs < n
      · rw [if_pos h1]
        obtain ⟨A, R1, rfl, a1, a2, a3, a4, a5⟩ := hR.len (by omega)
        rw [List.length_append] at hn hg
        obtain ⟨M, e1, m1, m2⟩ := symR_ok o (n - a) P A R1 [] a (a + bs) n ha (by omega) (by omega) (by omega) (by omega) a5 a2 (a4.one (by omega)) a3
        have hl := m1.length_eq
        rw [List.length_append] at hl
        exact ⟨M, by simpa using e1, m1, .last M (by omega) m2⟩
      · rw [if_neg h1]
        exact ⟨R, rfl, List.Perm.refl _, .last R (by omega) (hR.one (by omega))⟩
theorem stO_ok (o : Ord lt T K) : ∀ (g bs : Nat) (l : List α), 0 < bs → l.length < g + bs → Bk T K bs l → (stO lt l.length g bs l).Perm l ∧ (stO lt l.length g bs l).Pairwise T
  | 0, bs, l, hbs, hg, h => ⟨List.Perm.refl _, h.one (by omega)⟩
  | g + 1, bs, l, hbs, hg, h => by
    unfold stO
    by_cases hl : bs < l.length
    · rw [if_pos hl]
      obtain ⟨Q, e, q1, q2⟩ := mgO_ok o hbs (l.length + 1) [] l 0 l.length rfl (by simp) (by omega) h
      simp only [List.nil_append] at e
      rw [e]
      have hql := q1.length_eq
      rw [← hql]
      obtain ⟨r1, r2⟩ := stO_ok o g (2 * bs) Q (by omega) (by omega) q2
      exact ⟨r1.trans q1, r2⟩
    · rw [if_neg hl]
      exact ⟨List.Perm.refl _, h.one (by omega)⟩
/-- The stable sort sorts. -/
theorem stR_ok (o : Ord lt T K) {l : List α} (h : l.Pairwise K) : (stR lt l).Perm l ∧ (stR lt l).Pairwise T := by
  obtain ⟨Q, e, q1, q2⟩ := blO_ok o (l.length + 1) [] l 0 l.length rfl (by simp) (by omega) h
  simp only [List.nil_append] at e
  unfold stR
  rw [e]
  have hql := q1.length_eq
  rw [← hql]
  obtain ⟨r1, r2⟩ := stO_ok o (Q.length + 1) 20 Q (by omega) (by omega) q2
  exact ⟨r1.trans q1, r2⟩
/-- Two rows of the same elements that are sorted are one row. -/
theorem sorted_one {T : α → α → Prop} (ha : ∀ x y, T x y → ¬ T y x) : ∀ {l m : List α}, l.Perm m → l.Pairwise T → m.Pairwise T → l = m
  | [], m, h, _, _ => (List.nil_perm.1 h).symm
  | x :: l, m, h, hl, hm => by
    cases m with
    | nil => exact absurd (List.perm_nil.1 h) (by simp)
    | cons y m =>
      obtain ⟨l1, l2⟩ := List.pairwise_cons.1 hl
      obtain ⟨m1, m2⟩ := List.pairwise_cons.1 hm
      have hxy : x = y := by
        rcases List.mem_cons.1 (h.subset (List.mem_cons_self)) with e | hx
        · exact e
        rcases List.mem_cons.1 (h.symm.subset (List.mem_cons_self)) with e | hy
        · exact e.symm
        exact absurd (m1 x hx) (ha _ _ (l1 y hy))
      subst hxy
      rw [sorted_one ha (List.Perm.cons_inv h) l2 m2]
end
end Go.Proofs.YtmgbmoiefgfemaaDoor

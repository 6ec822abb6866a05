/- The plain stable sort sorts: plain. -/
import Derived.Test.YteepbfpcdhdgfaaDoorG08
import Derived.Test.YteepbfpcdhdgfaaDoorG07
import Derived.BigRegion
import Derived.BigQuiet
namespace Go.Proofs.YteepbfpcdhdgfaaDoor
open Go.RowKit
set_option linter.unusedSectionVars false

section
variable {α : Type} [Inhabited α]

theorem at_mid {P L Z : List α} {i n : Nat} (hi : i < L.length) (hn : n = P.length + i) : at_ (P ++ (L ++ Z)) n = L.getD i default := by
  unfold at_
  rw [List.getD_eq_getElem?_getD, List.getD_eq_getElem?_getD, hn, List.getElem?_append_right (by omega), Nat.add_sub_cancel_left, List.getElem?_append_left hi]
theorem at_mid2 {P L R Z : List α} {i n : Nat} (hi : i < R.length) (hn : n = P.length + L.length + i) : at_ (P ++ (L ++ (R ++ Z))) n = R.getD i default := by
  have := at_mid (P := P ++ L) (L := R) (Z := Z) hi (n := n) (by simp; omega)
  simpa using this
theorem getD_mem {L : List α} {i : Nat} (hi : i < L.length) : L.getD i default ∈ L := by
  rw [List.getD_eq_getElem?_getD, List.getElem?_eq_getElem hi]
  exact List.getElem_mem hi
theorem mem_getD {L : List α} {x : α} (h : x ∈ L) : ∃ i, i < L.length ∧ L.getD i default = x := by
  obtain ⟨i, hi, rfl⟩ := List.mem_iff_getElem.1 h
  exact ⟨i, hi, by rw [List.getD_eq_getElem?_getD, List.getElem?_eq_getElem hi]; rfl⟩
theorem pw_get {T : α → α → Prop} {L : List α} (h : L.Pairwise T) {i j : Nat} (hij : i < j) (hj : j < L.length) : T (L.getD i default) (L.getD j default) := by
  rw [List.getD_eq_getElem?_getD, List.getD_eq_getElem?_getD, List.getElem?_eq_getElem hj, List.getElem?_eq_getElem (by omega)]
  exact List.pairwise_iff_getElem.1 h i j (by omega) hj hij
theorem getD_app_left {L M : List α} {i : Nat} (hi : i < L.length) : (L ++ M).getD i default = L.getD i default := by
  rw [List.getD_eq_getElem?_getD, List.getD_eq_getElem?_getD, List.getElem?_append_left hi]
theorem getD_app_right {L M : List α} {i : Nat} : (L ++ M).getD (L.length + i) default = M.getD i default := by
  rw [List.getD_eq_getElem?_getD, List.getD_eq_getElem?_getD, List.getElem?_append_right (by omega), Nat.add_sub_cancel_left]

/-- What an order has to do with a comparison: K says which of two came first. -/
structure Ord (lt : α → α → Bool) (T K : α → α → Prop) : Prop where
  tr : ∀ x y z, T x y → T y z → T x z
  asy : ∀ x y, T x y → ¬ T y x
  cmp : ∀ x y, K x y → (lt y x = true ↔ T y x)
  tot : ∀ x y, K x y → T x y ∨ T y x
variable {lt : α → α → Bool} {T K : α → α → Prop}

theorem Ord.ge (o : Ord lt T K) {x y : α} (hk : K x y) (h : lt y x = false) : T x y := by
  rcases o.tot x y hk with h1 | h1
  · exact h1
  · rw [(o.cmp x y hk).2 h1] at h; cases h
theorem Ord.no (o : Ord lt T K) {x y : α} (hk : K x y) (h : T x y) : lt y x = false := by
  cases hl : lt y x
  · rfl
  · exact absurd ((o.cmp x y hk).1 hl) (o.asy _ _ h)

/-- One element goes up into a row. -/
theorem sym_up (o : Ord lt T K) {P R S : List α} {x : α} {a m b : Nat} (g : Nat) (ha : a = P.length) (hm : m = a + 1) (hb : b = m + R.length) (hg : b - m ≤ g) (hR : R.Pairwise T) (hk : ∀ y, y ∈ R → K x y) :
    ∃ M, upR (P ++ ([x] ++ (R ++ S))) a (bsR (fun h => lt (at_ (P ++ ([x] ++ (R ++ S))) h) (at_ (P ++ ([x] ++ (R ++ S))) a)) g m b - 1 - a) = P ++ (M ++ S) ∧ M.Perm ([x] ++ R) ∧ M.Pairwise T := by
  have hx : at_ (P ++ ([x] ++ (R ++ S))) a = x := at_app' ha
  have hy : ∀ i, i < R.length → at_ (P ++ ([x] ++ (R ++ S))) (m + i) = R.getD i default := fun i hi => at_mid2 hi (by simp; omega)
  rw [hx]
  obtain ⟨D, hD⟩ : ∃ D, D = P ++ ([x] ++ (R ++ S)) := ⟨_, rfl⟩
  rw [← hD] at hy ⊢
  have hmono : ∀ p q, m ≤ p → p ≤ q → q < b → lt (at_ D q) x = true → lt (at_ D p) x = true := fun p q h1 h2 h3 h4 => by
    by_cases e : p = q
    · rw [e]; exact h4
    have hq := hy (q - m) (by omega)
    have hp := hy (p - m) (by omega)
    rw [show m + (q - m) = q by omega] at hq
    rw [show m + (p - m) = p by omega] at hp
    rw [hq] at h4
    rw [hp]
    have k1 := hk _ (getD_mem (L := R) (i := q - m) (by omega))
    have k2 := hk _ (getD_mem (L := R) (i := p - m) (by omega))
    exact (o.cmp _ _ k2).2 (o.tr _ _ _ (pw_get hR (show p - m < q - m by omega) (by omega)) ((o.cmp _ _ k1).1 h4))
  obtain ⟨i, hi⟩ : ∃ i, i = bsR (fun h => lt (at_ D h) x) g m b := ⟨_, rfl⟩
  have hbd := bsR_bd (fun h => lt (at_ D h) x) g m b (by omega)
  obtain ⟨ho1, ho2⟩ := bsR_ok (p := fun h => lt (at_ D h) x) (g := g) (i := m) (j := b) (by omega) hg hmono
  rw [← hi] at hbd ho1 ho2 ⊢
  obtain ⟨R1, R2, rfl, hR1⟩ := split_at R (i - m) (by omega)
  rw [List.length_append] at hb hy
  obtain ⟨p1, p2, p3⟩ := List.pairwise_append.1 hR
  have f1 : ∀ y, y ∈ R1 → T y x := fun y h => by
    obtain ⟨j, hj, rfl⟩ := mem_getD h
    have h1 := ho1 (m + j) (by omega) (by omega)
    rw [hy j (by omega), getD_app_left hj] at h1
    exact (o.cmp _ _ (hk _ (List.mem_append_left _ h))).1 h1
  have f2 : ∀ y, y ∈ R2 → T x y := fun y h => by
    obtain ⟨j, hj, rfl⟩ := mem_getD h
    have h1 := ho2 (m + (R1.length + j)) (by omega) (by omega)
    rw [hy _ (by omega), getD_app_right] at h1
    exact o.ge (hk _ (List.mem_append_right _ h)) h1
  refine ⟨R1 ++ x :: R2, ?_, ?_, ?_⟩
  · have := upR_app P x (i - 1 - a) R1 (R2 ++ S) (by omega)
    rw [hD, ha] at *
    rw [show P ++ ([x] ++ (R1 ++ R2 ++ S)) = P ++ x :: (R1 ++ (R2 ++ S)) by simp, this]
    simp
  · rw [List.singleton_append]
    exact List.perm_middle
  · rw [List.pairwise_append]
    refine ⟨p1, List.pairwise_cons.2 ⟨f2, p2⟩, fun y hy1 z hz => ?_⟩
    rcases List.mem_cons.1 hz with rfl | hz
    · exact f1 y hy1
    · exact p3 y hy1 z hz
/-- One element goes down into a row. -/
theorem sym_dn (o : Ord lt T K) {P L S : List α} {y : α} {a m : Nat} (g : Nat) (ha : a = P.length) (hm : m = a + L.length) (hg : m - a ≤ g) (hL : L.Pairwise T) (hk : ∀ x, x ∈ L → K x y) :
    ∃ M, dnR (P ++ (L ++ ([y] ++ S))) m (m - bsR (fun h => !lt (at_ (P ++ (L ++ ([y] ++ S))) m) (at_ (P ++ (L ++ ([y] ++ S))) h)) g a m) = P ++ (M ++ S) ∧ M.Perm (L ++ [y]) ∧ M.Pairwise T := by
  have hyy : at_ (P ++ (L ++ ([y] ++ S))) m = y := by
    have := at_app' (P := P ++ L) (x := y) (Z := S) (n := m) (by simp; omega)
    simpa using this
  have hx : ∀ i, i < L.length → at_ (P ++ (L ++ ([y] ++ S))) (a + i) = L.getD i default := fun i hi => at_mid hi (by omega)
  rw [hyy]
  obtain ⟨D, hD⟩ : ∃ D, D = P ++ (L ++ ([y] ++ S)) := ⟨_, rfl⟩
  rw [← hD] at hx ⊢
  have hmono : ∀ p q, a ≤ p → p ≤ q → q < m → (!lt y (at_ D q)) = true → (!lt y (at_ D p)) = true := fun p q h1 h2 h3 h4 => by
    by_cases e : p = q
    · rw [e]; exact h4
    have hq := hx (q - a) (by omega)
    have hp := hx (p - a) (by omega)
    rw [show a + (q - a) = q by omega] at hq
    rw [show a + (p - a) = p by omega] at hp
    rw [hq, Bool.not_eq_true'] at h4
    rw [hp, Bool.not_eq_true']
    have k1 := hk _ (getD_mem (L := L) (i := q - a) (by omega))
    have k2 := hk _ (getD_mem (L := L) (i := p - a) (by omega))
    exact o.no k2 (o.tr _ _ _ (pw_get hL (show p - a < q - a by omega) (by omega)) (o.ge k1 h4))
  obtain ⟨i, hi⟩ : ∃ i, i = bsR (fun h => !lt y (at_ D h)) g a m := ⟨_, rfl⟩
  have hbd := bsR_bd (fun h => !lt y (at_ D h)) g a m (by omega)
  obtain ⟨ho1, ho2⟩ := bsR_ok (p := fun h => !lt y (at_ D h)) (g := g) (i := a) (j := m) (by omega) hg hmono
  rw [← hi] at hbd ho1 ho2 ⊢
  obtain ⟨L1, L2, rfl, hL1⟩ := split_at L (i - a) (by omega)
  rw [List.length_append] at hm hx
  obtain ⟨p1, p2, p3⟩ := List.pairwise_append.1 hL
  have f1 : ∀ x, x ∈ L1 → T x y := fun x h => by
    obtain ⟨j, hj, rfl⟩ := mem_getD h
    have h1 := ho1 (a + j) (by omega) (by omega)
    rw [hx j (by omega), getD_app_left hj, Bool.not_eq_true'] at h1
    exact o.ge (hk _ (List.mem_append_left _ h)) h1
  have f2 : ∀ x, x ∈ L2 → T y x := fun x h => by
    obtain ⟨j, hj, rfl⟩ := mem_getD h
    have h1 := ho2 (a + (L1.length + j)) (by omega) (by omega)
    rw [hx _ (by omega), getD_app_right, Bool.not_eq_false'] at h1
    exact (o.cmp _ _ (hk _ (List.mem_append_right _ h))).1 h1
  refine ⟨L1 ++ y :: L2, ?_, ?_, ?_⟩
  · have := dnR_app (P ++ L1) y (m - i) L2 S m (by omega) (by simp; omega)
    rw [hD, show P ++ (L1 ++ L2 ++ ([y] ++ S)) = P ++ L1 ++ (L2 ++ y :: S) by simp, this]
    simp
  · have h1 : (L1 ++ y :: L2).Perm (y :: (L1 ++ L2)) := List.perm_middle
    exact h1.trans (List.perm_append_singleton y (L1 ++ L2)).symm
  · rw [List.pairwise_append]
    refine ⟨p1, List.pairwise_cons.2 ⟨f2, p2⟩, fun x hx1 z hz => ?_⟩
    rcases List.mem_cons.1 hz with rfl | hz
    · exact f1 x hx1
    · exact p3 x hx1 z hz
/-- Where the middle is cut: who stands before it goes before who stands behind it. -/
theorem cut_ok (o : Ord lt T K) {P L R S : List α} {a m b : Nat} (ha : a = P.length) (hm : m = a + L.length) (hb : b = m + R.length) (hL0 : 0 < L.length) (hR0 : 0 < R.length) (hL : L.Pairwise T) (hR : R.Pairwise T) (hk : ∀ x, x ∈ L → ∀ y, y ∈ R → K x y) :
    ∃ L1 L2 R1 R2, L = L1 ++ L2 ∧ R = R1 ++ R2 ∧ cutR lt (P ++ (L ++ (R ++ S))) a m b = a + L1.length ∧ L1.length + R1.length = (a + b) / 2 - a ∧ (∀ x, x ∈ L1 → ∀ y, y ∈ R2 → T x y) ∧ (∀ y, y ∈ R1 → ∀ x, x ∈ L2 → T y x) := by
  have hx : ∀ i, i < L.length → at_ (P ++ (L ++ (R ++ S))) (a + i) = L.getD i default := fun i hi => at_mid hi (by omega)
  have hy : ∀ i, i < R.length → at_ (P ++ (L ++ (R ++ S))) (m + i) = R.getD i default := fun i hi => at_mid2 hi (by omega)
  unfold cutR
  obtain ⟨D, hD⟩ : ∃ D, D = P ++ (L ++ (R ++ S)) := ⟨_, rfl⟩
  rw [← hD] at hx hy ⊢
  clear hD
  obtain ⟨mid, hmid⟩ : ∃ mid, mid = (a + b) / 2 := ⟨_, rfl⟩
  rw [← hmid]
  obtain ⟨lo, hlo⟩ : ∃ lo, lo = if mid < m then mid + m - b else a := ⟨_, rfl⟩
  obtain ⟨hi', hhi⟩ : ∃ hi', hi' = if mid < m then mid else m := ⟨_, rfl⟩
  rw [← hlo, ← hhi]
  have hb1 : a ≤ lo ∧ lo ≤ hi' ∧ hi' ≤ m ∧ mid + m - hi' ≥ m ∧ mid + m - lo ≤ b ∧ hi' ≤ mid := by
    rw [hlo, hhi]
    split <;> omega
  have hlo2 : lo = a ∨ mid + m - lo = b := by rw [hlo]; split <;> omega
  have hhi2 : hi' = m ∨ mid + m - hi' = m := by rw [hhi]; split <;> omega
  clear hlo hhi
  obtain ⟨b1, b2, b3, b4, b5, b6⟩ := hb1
  have hat : ∀ c, lo ≤ c → c < hi' → c - a < L.length ∧ mid + m - 1 - c - m < R.length ∧ at_ D c = L.getD (c - a) default ∧ at_ D (mid + m - 1 - c) = R.getD (mid + m - 1 - c - m) default := fun c h1 h2 => by
    have q1 := hx (c - a) (by omega)
    have q2 := hy (mid + m - 1 - c - m) (by omega)
    rw [show a + (c - a) = c by omega] at q1
    rw [show m + (mid + m - 1 - c - m) = mid + m - 1 - c by omega] at q2
    exact ⟨by omega, by omega, q1, q2⟩
  have hmono : ∀ p q, lo ≤ p → p ≤ q → q < hi' → (!lt (at_ D (mid + m - 1 - q)) (at_ D q)) = true → (!lt (at_ D (mid + m - 1 - p)) (at_ D p)) = true := fun p q h1 h2 h3 h4 => by
    by_cases e : p = q
    · rw [e]; exact h4
    obtain ⟨q1, q2, q3, q4⟩ := hat q (by omega) h3
    obtain ⟨r1, r2, r3, r4⟩ := hat p h1 (by omega)
    rw [q3, q4, Bool.not_eq_true'] at h4
    rw [r3, r4, Bool.not_eq_true']
    have k1 := hk _ (getD_mem q1) _ (getD_mem q2)
    have k2 := hk _ (getD_mem r1) _ (getD_mem r2)
    have t1 := pw_get hL (show p - a < q - a by omega) q1
    have t2 := pw_get hR (show mid + m - 1 - q - m < mid + m - 1 - p - m by omega) r2
    exact o.no k2 (o.tr _ _ _ t1 (o.tr _ _ _ (o.ge k1 h4) t2))
  obtain ⟨s, hs⟩ : ∃ s, s = bsR (fun c => !lt (at_ D (mid + m - 1 - c)) (at_ D c)) (b - a) lo hi' := ⟨_, rfl⟩
  have hbd := bsR_bd (fun c => !lt (at_ D (mid + m - 1 - c)) (at_ D c)) (b - a) lo hi' (by omega)
  obtain ⟨ho1, ho2⟩ := bsR_ok (p := fun c => !lt (at_ D (mid + m - 1 - c)) (at_ D c)) (g := b - a) (i := lo) (j := hi') (by omega) (by omega) hmono
  rw [← hs] at hbd ho1 ho2 ⊢
  clear hs hmono
  obtain ⟨L1, L2, hLe, hL1⟩ := split_at L (s - a) (by omega)
  obtain ⟨R1, R2, hRe, hR1⟩ := split_at R (mid - s) (by omega)
  have hLl : L.length = L1.length + L2.length := by rw [hLe, List.length_append]
  have hRl : R.length = R1.length + R2.length := by rw [hRe, List.length_append]
  refine ⟨L1, L2, R1, R2, hLe, hRe, by omega, by omega, fun x hx1 y hy1 => ?_, fun y hy1 x hx1 => ?_⟩
  · obtain ⟨i, hi, rfl⟩ := mem_getD hx1
    obtain ⟨j, hj, rfl⟩ := mem_getD hy1
    have h1 := ho1 (s - 1) (by omega) (by omega)
    obtain ⟨q1, q2, q3, q4⟩ := hat (s - 1) (by omega) (by omega)
    simp only [q3, q4, Bool.not_eq_true'] at h1
    have t0 := o.ge (hk _ (getD_mem q1) _ (getD_mem q2)) h1
    have ei : L1.getD i default = L.getD i default := by rw [hLe, getD_app_left hi]
    have ej : R2.getD j default = R.getD (R1.length + j) default := by rw [hRe, getD_app_right]
    rw [ei, ej]
    have t1 : T (L.getD i default) (R.getD (mid + m - 1 - (s - 1) - m) default) := by
      by_cases e : i = s - 1 - a
      · rw [e]; exact t0
      · exact o.tr _ _ _ (pw_get hL (show i < s - 1 - a by omega) q1) t0
    by_cases e : R1.length + j = mid + m - 1 - (s - 1) - m
    · rw [e]; exact t1
    · exact o.tr _ _ _ t1 (pw_get hR (show mid + m - 1 - (s - 1) - m < R1.length + j by omega) (by omega))
  · obtain ⟨i, hi, rfl⟩ := mem_getD hx1
    obtain ⟨j, hj, rfl⟩ := mem_getD hy1
    have h1 := ho2 s (by omega) (by omega)
    obtain ⟨q1, q2, q3, q4⟩ := hat s (by omega) (by omega)
    simp only [q3, q4, Bool.not_eq_false'] at h1
    have t0 := (o.cmp _ _ (hk _ (getD_mem q1) _ (getD_mem q2))).1 h1
    have ei : L2.getD i default = L.getD (L1.length + i) default := by rw [hLe, getD_app_right]
    have ej : R1.getD j default = R.getD j default := by rw [hRe, getD_app_left hj]
    rw [ei, ej]
    have t1 : T (R.getD (mid + m - 1 - s - m) default) (L.getD (L1.length + i) default) := by
      by_cases e : L1.length + i = s - a
      · rw [e]; exact t0
      · exact o.tr _ _ _ t0 (pw_get hL (show s - a < L1.length + i by omega) (by omega))
    by_cases e : j = mid + m - 1 - s - m
    · rw [e]; exact t1
    · exact o.tr _ _ _ (pw_get hR (show j < mid + m - 1 - s - m by omega) q2) t1

/-- Two rows that are sorted are merged. -/
theorem symR_ok (o : Ord lt T K) : ∀ (g : Nat) (P L R S : List α) (a m b : Nat), a = P.length → m = a + L.length → b = m + R.length → b - a ≤ g → 0 < L.length → 0 < R.length → L.Pairwise T → R.Pairwise T → (∀ x, x ∈ L → ∀ y, y ∈ R → K x y) →
    ∃ M, symR lt g a m b (P ++ (L ++ (R ++ S))) = P ++ (M ++ S) ∧ M.Perm (L ++ R) ∧ M.Pairwise T
  | 0, P, L, R, S, a, m, b, ha, hm, hb, hg, hL0, hR0, hL, hR, hk => by omega
  | g + 1, P, L, R, S, a, m, b, ha, hm, hb, hg, hL0, hR0, hL, hR, hk => by
    unfold symR
    by_cases h1 : m - a = 1
    · rw [if_pos h1]
      obtain ⟨x, rfl⟩ : ∃ x, L = [x] := List.length_eq_one_iff.1 (by omega)
      exact sym_up o (b - a) ha (by omega) hb (by omega) hR (fun y hy => hk x (by simp) y hy)
    rw [if_neg h1]
    by_cases h2 : b - m = 1
    · rw [if_pos h2]
      obtain ⟨y, rfl⟩ : ∃ y, R = [y] := List.length_eq_one_iff.1 (by omega)
      exact sym_dn o (b - a) ha hm (by omega) hL (fun x hx => hk x hx y (by simp))
    rw [if_neg h2]
    obtain ⟨L1, L2, R1, R2, rfl, rfl, hcut, hsum, F1, F2⟩ := cut_ok (S := S) o ha hm hb hL0 hR0 hL hR hk
    rw [List.length_append] at hm hb
    simp only [hcut]
    obtain ⟨mid, hmid⟩ : ∃ mid, mid = (a + b) / 2 := ⟨_, rfl⟩
    rw [← hmid] at hsum ⊢
    obtain ⟨pl1, pl2, pl3⟩ := List.pairwise_append.1 hL
    obtain ⟨pr1, pr2, pr3⟩ := List.pairwise_append.1 hR
    have hd1 : (if a + L1.length < m ∧ m < mid + m - (a + L1.length) then rotR m (mid + m - (a + L1.length) - (a + L1.length)) (m - (a + L1.length)) (mid + m - (a + L1.length) - m) (P ++ (L1 ++ L2 ++ (R1 ++ R2 ++ S))) else P ++ (L1 ++ L2 ++ (R1 ++ R2 ++ S))) = P ++ (L1 ++ (R1 ++ (L2 ++ (R2 ++ S)))) := by
      by_cases h3 : a + L1.length < m ∧ m < mid + m - (a + L1.length)
      · rw [if_pos h3]
        have := rotR_app (mid + m - (a + L1.length) - (a + L1.length)) (P ++ L1) L2 R1 (R2 ++ S) m (m - (a + L1.length)) (mid + m - (a + L1.length) - m) (by omega) (by omega) (by omega) (by omega) (by omega) (by rw [List.length_append]; omega)
        rw [show P ++ (L1 ++ L2 ++ (R1 ++ R2 ++ S)) = P ++ L1 ++ (L2 ++ (R1 ++ (R2 ++ S))) by simp, this]
        simp
      · rw [if_neg h3]
        have h4 : L2.length = 0 ∨ R1.length = 0 := by omega
        rcases h4 with h4 | h4
        · rw [List.length_eq_zero_iff.1 h4]; simp
        · rw [List.length_eq_zero_iff.1 h4]; simp
    rw [hd1]
    have hd2 : ∃ M1, (if a < a + L1.length ∧ a + L1.length < mid then symR lt g a (a + L1.length) mid (P ++ (L1 ++ (R1 ++ (L2 ++ (R2 ++ S))))) else P ++ (L1 ++ (R1 ++ (L2 ++ (R2 ++ S))))) = P ++ (M1 ++ (L2 ++ (R2 ++ S))) ∧ M1.Perm (L1 ++ R1) ∧ M1.Pairwise T := by
      by_cases h3 : a < a + L1.length ∧ a + L1.length < mid
      · rw [if_pos h3]
        exact symR_ok o g P L1 R1 (L2 ++ (R2 ++ S)) a (a + L1.length) mid ha rfl (by omega) (by omega) (by omega) (by omega) pl1 pr1 (fun x hx y hy => hk x (List.mem_append_left _ hx) y (List.mem_append_left _ hy))
      · rw [if_neg h3]
        refine ⟨L1 ++ R1, by simp, List.Perm.refl _, ?_⟩
        have h4 : L1.length = 0 ∨ R1.length = 0 := by omega
        rcases h4 with h4 | h4
        · rw [List.length_eq_zero_iff.1 h4]; simpa using pr1
        · rw [List.length_eq_zero_iff.1 h4]; simpa using pl1
    obtain ⟨M1, e1, hp1, hs1⟩ := hd2
    rw [e1]
    have hl1 : M1.length = L1.length + R1.length := by rw [hp1.length_eq, List.length_append]
    have hd3 : ∃ M2, (if mid < mid + m - (a + L1.length) ∧ mid + m - (a + L1.length) < b then symR lt g mid (mid + m - (a + L1.length)) b (P ++ (M1 ++ (L2 ++ (R2 ++ S)))) else P ++ (M1 ++ (L2 ++ (R2 ++ S)))) = P ++ (M1 ++ (M2 ++ S)) ∧ M2.Perm (L2 ++ R2) ∧ M2.Pairwise T := by
      by_cases h3 : mid < mid + m - (a + L1.length) ∧ mid + m - (a + L1.length) < b
      · rw [if_pos h3]
        obtain ⟨M2, e2, h5, h6⟩ := symR_ok o g (P ++ M1) L2 R2 S mid (mid + m - (a + L1.length)) b (by rw [List.length_append]; omega) (by omega) (by omega) (by omega) (by omega) (by omega) pl2 pr2 (fun x hx y hy => hk x (List.mem_append_right _ hx) y (List.mem_append_right _ hy))
        refine ⟨M2, ?_, h5, h6⟩
        rw [show P ++ (M1 ++ (L2 ++ (R2 ++ S))) = P ++ M1 ++ (L2 ++ (R2 ++ S)) by simp, e2]
        simp
      · rw [if_neg h3]
        refine ⟨L2 ++ R2, by simp, List.Perm.refl _, ?_⟩
        have h4 : L2.length = 0 ∨ R2.length = 0 := by omega
        rcases h4 with h4 | h4
        · rw [List.length_eq_zero_iff.1 h4]; simpa using pr2
        · rw [List.length_eq_zero_iff.1 h4]; simpa using pl2
    obtain ⟨M2, e2, hp2, hs2⟩ := hd3
    refine ⟨M1 ++ M2, by rw [e2]; simp, ?_, ?_⟩
    · have h5 : (M1 ++ M2).Perm ((L1 ++ R1) ++ (L2 ++ R2)) := hp1.append hp2
      refine h5.trans ?_
      rw [List.append_assoc, List.append_assoc]
      refine List.Perm.append_left L1 ?_
      rw [← List.append_assoc, ← List.append_assoc]
      exact List.Perm.append_right R2 List.perm_append_comm
    · rw [List.pairwise_append]
      refine ⟨hs1, hs2, fun x hx y hy => ?_⟩
      rcases List.mem_append.1 (hp1.subset hx) with hx | hx <;> rcases List.mem_append.1 (hp2.subset hy) with hy | hy
      · exact pl3 x hx y hy
      · exact F1 x hx y hy
      · exact F2 x hx y hy
      · exact pr3 x hx y hy
end
end Go.Proofs.YteepbfpcdhdgfaaDoor

/- The plain stable sort: blocks and their merging: plain. -/
namespace Go.Proofs.YteepbfpcdhdgfaaDoor
open Go.RowKit
set_option linter.unusedSectionVars false

section
variable {α : Type} [Inhabited α]

/-- An element goes down into the row before it. -/
def insI (lt : α → α → Bool) (a : Nat) : Nat → List α → List α
  | 0 => fun l => l
  | j + 1 => fun l => if a < j + 1 ∧ lt (at_ l (j + 1)) (at_ l j) = true then insI lt a j (swL l (j + 1) j) else l
def insO (lt : α → α → Bool) (a b : Nat) : Nat → Nat → List α → List α
  | 0 => fun _ l => l
  | g + 1 => fun i l => if i < b then insO lt a b g (i + 1) (insI lt a i l) else l
def insB (lt : α → α → Bool) (a b : Nat) (l : List α) : List α := insO lt a b (b - a) (a + 1) l
/-- Blocks of 20 are sorted. -/
def blO (lt : α → α → Bool) (n : Nat) : Nat → Nat → List α → List α
  | 0 => fun _ l => l
  | g + 1 => fun a l => if a + 20 ≤ n then blO lt n g (a + 20) (insB lt a (a + 20) l) else insB lt a n l
/-- Neighbours are merged. -/
def mgO (lt : α → α → Bool) (bs n : Nat) : Nat → Nat → List α → List α
  | 0 => fun _ l => l
  | g + 1 => fun a l => if a + 2 * bs ≤ n then mgO lt bs n g (a + 2 * bs) (symR lt (2 * bs) a (a + bs) (a + 2 * bs) l) else if a + bs < n then symR lt (n - a) a (a + bs) n l else l
def stO (lt : α → α → Bool) (n : Nat) : Nat → Nat → List α → List α
  | 0 => fun _ l => l
  | g + 1 => fun bs l => if bs < n then stO lt n g (2 * bs) (mgO lt bs n (n + 1) 0 l) else l
/-- The stable sort. -/
def stR (lt : α → α → Bool) (l : List α) : List α := stO lt l.length (l.length + 1) 20 (blO lt l.length (l.length + 1) 0 l)

theorem insI_len (lt : α → α → Bool) (a : Nat) : ∀ j (l : List α), (insI lt a j l).length = l.length
  | 0, _ => rfl
  | j + 1, l => by
    unfold insI
    split
    · rw [insI_len lt a j, swL_len]
    · rfl
theorem insO_len (lt : α → α → Bool) (a b : Nat) : ∀ g i (l : List α), (insO lt a b g i l).length = l.length
  | 0, _, _ => rfl
  | g + 1, i, l => by
    unfold insO
    split
    · rw [insO_len lt a b g, insI_len]
    · rfl
theorem insB_len (lt : α → α → Bool) (a b : Nat) (l : List α) : (insB lt a b l).length = l.length := insO_len lt a b _ _ l
theorem blO_len (lt : α → α → Bool) (n : Nat) : ∀ g a (l : List α), (blO lt n g a l).length = l.length
  | 0, _, _ => rfl
  | g + 1, a, l => by
    unfold blO
    split
    · rw [blO_len lt n g, insB_len]
    · rw [insB_len]
theorem mgO_len (lt : α → α → Bool) (bs n : Nat) : ∀ g a (l : List α), (mgO lt bs n g a l).length = l.length
  | 0, _, _ => rfl
  | g + 1, a, l => by
    unfold mgO
    split
    · rw [mgO_len lt bs n g, symR_len]
    · split
      · rw [symR_len]
      · rfl
variable {lt : α → α → Bool} {T K : α → α → Prop}

theorem insI_ok (o : Ord lt T K) : ∀ (n : Nat) (P A Z : List α) (y : α) (a j : Nat), A.length = n → a = P.length → j = a + n → A.Pairwise T → (∀ x, x ∈ A → K x y) →
    ∃ A', insI lt a j (P ++ (A ++ y :: Z)) = P ++ (A' ++ Z) ∧ A'.Perm (A ++ [y]) ∧ A'.Pairwise T
  | 0, P, A, Z, y, a, j, hn, ha, hj, hA, hk => by
    obtain rfl := List.length_eq_zero_iff.1 hn
    refine ⟨[y], ?_, List.Perm.refl _, List.pairwise_singleton _ _⟩
    cases j with
    | zero => rfl
    | succ j =>
      unfold insI
      rw [if_neg (by omega)]
      simp
  | n + 1, P, A, Z, y, a, j, hn, ha, hj, hA, hk => by
    obtain ⟨A0, x, rfl, hA0⟩ := snoc_of hn
    obtain rfl : j = (a + n) + 1 := by omega
    obtain ⟨p1, p2, p3⟩ := List.pairwise_append.1 hA
    have e1 : at_ (P ++ (A0 ++ [x] ++ y :: Z)) (a + n + 1) = y := by
      have := at_app' (P := P ++ A0 ++ [x]) (x := y) (Z := Z) (n := a + n + 1) (by simp; omega)
      simpa using this
    have e2 : at_ (P ++ (A0 ++ [x] ++ y :: Z)) (a + n) = x := by
      have := at_app' (P := P ++ A0) (x := x) (Z := y :: Z) (n := a + n) (by simp; omega)
      simpa using this
    unfold insI
    rw [e1, e2]
    have hkx := hk x (by simp)
    by_cases hl : lt y x = true
    · rw [if_pos ⟨by omega, hl⟩]
      have hsw : swL (P ++ (A0 ++ [x] ++ y :: Z)) (a + n + 1) (a + n) = P ++ (A0 ++ y :: (x :: Z)) := by
        have := swL_down' (X := P ++ A0) (Y := []) (Z := Z) (x := x) (y := y) (i := a + n + 1) (j := a + n) (by simp; omega) (by simp; omega)
        simpa using this
      rw [hsw]
      obtain ⟨A', h1, h2, h3⟩ := insI_ok o n P A0 (x :: Z) y a (a + n) hA0 ha rfl p1 (fun z hz => hk z (by simp [hz]))
      refine ⟨A' ++ [x], by rw [h1]; simp, ?_, ?_⟩
      · have h4 : (A' ++ [x]).Perm (A0 ++ [y] ++ [x]) := h2.append_right [x]
        refine h4.trans ?_
        rw [List.append_assoc, List.append_assoc]
        exact List.Perm.append_left A0 (List.Perm.swap _ _ _)
      · rw [List.pairwise_append]
        refine ⟨h3, List.pairwise_singleton _ _, fun z hz w hw => ?_⟩
        rw [List.mem_singleton.1 hw]
        rcases List.mem_append.1 (h2.subset hz) with h5 | h5
        · exact p3 z h5 x (by simp)
        · rw [List.mem_singleton.1 h5]; exact (o.cmp _ _ hkx).1 hl
    · rw [if_neg (fun h => hl h.2)]
      refine ⟨A0 ++ [x] ++ [y], by simp, List.Perm.refl _, ?_⟩
      have hxy := o.ge hkx (by simpa using hl)
      rw [List.pairwise_append]
      refine ⟨hA, List.pairwise_singleton _ _, fun z hz w hw => ?_⟩
      rw [List.mem_singleton.1 hw]
      rcases List.mem_append.1 hz with h5 | h5
      · exact o.tr _ _ _ (p3 z h5 x (by simp)) hxy
      · rw [List.mem_singleton.1 h5]; exact hxy
theorem insO_ok (o : Ord lt T K) : ∀ (B P A Z : List α) (a b g i : Nat), a = P.length → i = a + A.length → b = i + B.length → B.length ≤ g → A.Pairwise T → B.Pairwise K → (∀ x, x ∈ A → ∀ y, y ∈ B → K x y) →
    ∃ A', insO lt a b g i (P ++ (A ++ (B ++ Z))) = P ++ (A' ++ Z) ∧ A'.Perm (A ++ B) ∧ A'.Pairwise T
  | [], P, A, Z, a, b, g, i, ha, hi, hb, hg, hA, hB, hk => by
    refine ⟨A, ?_, by simp, hA⟩
    cases g with
    | zero => rfl
    | succ g =>
      unfold insO
      rw [if_neg (by simp at hb; omega)]
      rfl
  | y :: B, P, A, Z, a, b, g, i, ha, hi, hb, hg, hA, hB, hk => by
    simp only [List.length_cons] at hb hg
    obtain ⟨g, rfl⟩ : ∃ g', g = g' + 1 := ⟨g - 1, by omega⟩
    unfold insO
    rw [if_pos (by omega)]
    obtain ⟨q1, q2⟩ := List.pairwise_cons.1 hB
    obtain ⟨A', h1, h2, h3⟩ := insI_ok o A.length P A (B ++ Z) y a i rfl ha hi hA (fun x hx => hk x hx y (by simp))
    rw [show P ++ (A ++ (y :: B ++ Z)) = P ++ (A ++ y :: (B ++ Z)) by simp, h1]
    have hl := h2.length_eq
    rw [List.length_append, List.length_singleton] at hl
    obtain ⟨A2, h4, h5, h6⟩ := insO_ok o B P A' Z a b g (i + 1) ha (by omega) (by omega) (by omega) h3 q2 (fun x hx z hz => by
      rcases List.mem_append.1 (h2.subset hx) with h7 | h7
      · exact hk x h7 z (by simp [hz])
      · rw [List.mem_singleton.1 h7]; exact q1 z hz)
    refine ⟨A2, h4, ?_, h6⟩
    have h8 := h5.trans (h2.append_right B)
    simpa using h8
theorem insB_ok (o : Ord lt T K) {B P Z : List α} {a b : Nat} (ha : a = P.length) (hb : b = a + B.length) (hB : B.Pairwise K) : ∃ A', insB lt a b (P ++ (B ++ Z)) = P ++ (A' ++ Z) ∧ A'.Perm B ∧ A'.Pairwise T := by
  cases B with
  | nil =>
    refine ⟨[], ?_, List.Perm.refl _, List.Pairwise.nil⟩
    simp only [List.length_nil] at hb
    unfold insB
    rw [show b - a = 0 by omega]
    rfl
  | cons x B =>
    simp only [List.length_cons] at hb
    obtain ⟨q1, q2⟩ := List.pairwise_cons.1 hB
    have := insO_ok o B P [x] Z a b (b - a) (a + 1) ha (by simp) (by omega) (by omega) (List.pairwise_singleton _ _) q2 (fun z hz y hy => by rw [List.mem_singleton.1 hz]; exact q1 y hy)
    unfold insB
    simpa using this

/-- Blocks of a size, each sorted, in the order in which they came. -/
inductive Bk (T K : α → α → Prop) (bs : Nat) : List α → Prop
  | last (l : List α) : l.length ≤ bs → l.Pairwise T → Bk T K bs l
  | cons (A R : List α) : A.length = bs → A.Pairwise T → (∀ x, x ∈ A → ∀ y, y ∈ R → K x y) → Bk T K bs R → Bk T K bs (A ++ R)
theorem blO_ok (o : Ord lt T K) : ∀ (g : Nat) (P R : List α) (a n : Nat), a = P.length → n = a + R.length → R.length < g → R.Pairwise K → ∃ Q, blO lt n g a (P ++ R) = P ++ Q ∧ Q.Perm R ∧ Bk T K 20 Q
  | 0, P, R, a, n, ha, hn, hg, hR => by omega
  | g + 1, P, R, a, n, ha, hn, hg, hR => by
    unfold blO
    by_cases h : a + 20 ≤ n
    · rw [if_pos h]
      obtain ⟨A, R', rfl, hA⟩ := split_at R 20 (by omega)
      rw [List.length_append] at hn hg
      obtain ⟨p1, p2, p3⟩ := List.pairwise_append.1 hR
      obtain ⟨A', e1, h1, h2⟩ := insB_ok o (B := A) (P := P) (Z := R') (a := a) (b := a + 20) ha (by omega) p1
      have hl := h1.length_eq
      obtain ⟨Q, e2, h3, h4⟩ := blO_ok o g (P ++ A') R' (a + 20) n (by rw [List.length_append]; omega) (by omega) (by omega) p2
      refine ⟨A' ++ Q, ?_, h1.append h3, .cons A' Q (by omega) h2 (fun x hx y hy => p3 x (h1.subset hx) y (h3.subset hy)) h4⟩
      rw [e1, show P ++ (A' ++ R') = P ++ A' ++ R' by simp, e2]
      simp
    · rw [if_neg h]
      obtain ⟨A', e1, h1, h2⟩ := insB_ok o (B := R) (P := P) (Z := []) (a := a) (b := n) ha hn hR
      exact ⟨A', by simpa using e1, h1, .last A' (by rw [h1.length_eq]; omega) h2⟩
theorem Bk.len {bs : Nat} {l : List α} (h : Bk T K bs l) (hb : bs < l.length) : ∃ A R, l = A ++ R ∧ A.length = bs ∧ A.Pairwise T ∧ (∀ x, x ∈ A → ∀ y, y ∈ R → K x y) ∧ Bk T K bs R ∧ 0 < R.length := by
  cases h with
  | last _ h1 _ => omega
  | cons A R h1 h2 h3 h4 => exact ⟨A, R, rfl, h1, h2, h3, h4, by rw [List.length_append] at hb; omega⟩
theorem Bk.one {bs : Nat} {l : List α} (h : Bk T K bs l) (hb : l.length ≤ bs) : l.Pairwise T := by
  cases h with
  | last _ _ h2 => exact h2
  | cons A R h1 h2 h3 h4 =>
    rw [List.length_append] at hb
    rw [List.length_eq_zero_iff.1 (show R.length = 0 by omega)]
    simpa using h2
theorem mgO_ok (o : Ord lt T K) {bs : Nat} (hbs : 0 < bs) : ∀ (g : Nat) (P R : List α) (a n : Nat), a = P.length → n = a + R.length → R.length < g → Bk T K bs R → ∃ Q, mgO lt bs n g a (P ++ R) = P ++ Q ∧ Q.Perm R ∧ Bk T K (2 * bs) Q
  | 0, P, R, a, n, ha, hn, hg, hR => by omega
  | g + 1, P, R, a, n, ha, hn, hg, hR => by
    unfold mgO
    by_cases h : a + 2 * bs ≤ n
    · rw [if_pos h]
      obtain ⟨A, R1, rfl, a1, a2, a3, a4, a5⟩ := hR.len (by omega)
      rw [List.length_append] at hn hg
      -- the second block
      have h2 : ∃ B R2, R1 = B ++ R2 ∧ B.length = bs ∧ B.Pairwise T ∧ (∀ x, x ∈ B → ∀ y, y ∈ R2 → K x y) ∧ Bk T K bs R2 := by
        by_cases hl : bs < R1.length
        · obtain ⟨B, R2, e, b1, b2, b3, b4, _⟩ := a4.len hl
          exact ⟨B, R2, e, b1, b2, b3, b4⟩
        · exact ⟨R1, [], by simp, by omega, a4.one (by omega), (fun x _ y hy => absurd hy (List.not_mem_nil)), .last [] (by simp) List.Pairwise.nil⟩
      obtain ⟨B, R2, rfl, b1, b2, b3, b4⟩ := h2
      rw [List.length_append] at hn hg
      obtain ⟨M, e1, m1, m2⟩ := symR_ok o (2 * bs) P A B R2 a (a + bs) (a + 2 * bs) ha (by omega) (by omega) (by omega) (by omega) (by omega) a2 b2 (fun x hx y hy => a3 x hx y (List.mem_append_left _ hy))
      have hl := m1.length_eq
      rw [List.length_append] at hl
      obtain ⟨Q, e2, q1, q2⟩ := mgO_ok o hbs g (P ++ M) R2 (a + 2 * bs) n (by rw [List.length_append]; omega) (by omega) (by omega) b4
      refine ⟨M ++ Q, ?_, ?_, .cons M Q (by omega) m2 (fun x hx y hy => ?_) q2⟩
      · rw [show P ++ (A ++ (B ++ R2)) = P ++ (A ++ (B ++ R2)) from rfl, e1, show P ++ (M ++ R2) = P ++ M ++ R2 by simp, e2]
        simp
      · have := m1.append q1
        simpa using this
      · rcases List.mem_append.1 (m1.subset hx) with h5 | h5
        · exact a3 x h5 y (List.mem_append_right _ (q1.subset hy))
        · exact b3 x h5 y (q1.subset hy)
    · rw [if_neg h]
      by_cases h1 : a + bs < n
      · rw [if_pos h1]
        obtain ⟨A, R1, rfl, a1, a2, a3, a4, a5⟩ := hR.len (by omega)
        rw [List.length_append] at hn hg
        obtain ⟨M, e1, m1, m2⟩ := symR_ok o (n - a) P A R1 [] a (a + bs) n ha (by omega) (by omega) (by omega) (by omega) a5 a2 (a4.one (by omega)) a3
        have hl := m1.length_eq
        rw [List.length_append] at hl
        exact ⟨M, by simpa using e1, m1, .last M (by omega) m2⟩
      · rw [if_neg h1]
        exact ⟨R, rfl, List.Perm.refl _, .last R (by omega) (hR.one (by omega))⟩
theorem stO_ok (o : Ord lt T K) : ∀ (g bs : Nat) (l : List α), 0 < bs → l.length < g + bs → Bk T K bs l → (stO lt l.length g bs l).Perm l ∧ (stO lt l.length g bs l).Pairwise T
  | 0, bs, l, hbs, hg, h => ⟨List.Perm.refl _, h.one (by omega)⟩
  | g + 1, bs, l, hbs, hg, h => by
    unfold stO
    by_cases hl : bs < l.length
    · rw [if_pos hl]
      obtain ⟨Q, e, q1, q2⟩ := mgO_ok o hbs (l.length + 1) [] l 0 l.length rfl (by simp) (by omega) h
      simp only [List.nil_append] at e
      rw [e]
      have hql := q1.length_eq
      rw [← hql]
      obtain ⟨r1, r2⟩ := stO_ok o g (2 * bs) Q (by omega) (by omega) q2
      exact ⟨r1.trans q1, r2⟩
    · rw [if_neg hl]
      exact ⟨List.Perm.refl _, h.one (by omega)⟩
/-- The stable sort sorts. -/
theorem stR_ok (o : Ord lt T K) {l : List α} (h : l.Pairwise K) : (stR lt l).Perm l ∧ (stR lt l).Pairwise T := by
  obtain ⟨Q, e, q1, q2⟩ := blO_ok o (l.length + 1) [] l 0 l.length rfl (by simp) (by omega) h
  simp only [List.nil_append] at e
  unfold stR
  rw [e]
  have hql := q1.length_eq
  rw [← hql]
  obtain ⟨r1, r2⟩ := stO_ok o (Q.length + 1) 20 Q (by omega) (by omega) q2
  exact ⟨r1.trans q1, r2⟩
/-- Two rows of the same elements that are sorted are one row. -/
theorem sorted_one {T : α → α → Prop} (ha : ∀ x y, T x y → ¬ T y x) : ∀ {l m : List α}, l.Perm m → l.Pairwise T → m.Pairwise T → l = m
  | [], m, h, _, _ => (List.nil_perm.1 h).symm
  | x :: l, m, h, hl, hm => by
    cases m with
    | nil => exact absurd (List.perm_nil.1 h) (by simp)
    | cons y m =>
      obtain ⟨l1, l2⟩ := List.pairwise_cons.1 hl
      obtain ⟨m1, m2⟩ := List.pairwise_cons.1 hm
      have hxy : x = y := by
        rcases List.mem_cons.1 (h.subset (List.mem_cons_self)) with e | hx
        · exact e
        rcases List.mem_cons.1 (h.symm.subset (List.mem_cons_self)) with e | hy
        · exact e.symm
        exact absurd (m1 x hx) (ha _ _ (l1 y hy))
      subst hxy
      rw [sorted_one ha (List.Perm.cons_inv h) l2 m2]
end
end Go.Proofs.YteepbfpcdhdgfaaDoor

/- swapRange and rotate of slices.SortStableFunc at strings, over whatever the strings stand for. -/
namespace Go.Proofs.YteepbfpcdhdgfaaDoor
open Go.RowKit
set_option linter.unusedSectionVars false

section
variable {α : Type} [Inhabited α]

def encST (st : α → ByteArray) (x : α) : List Value := [.string (st x)]
theorem encST_len (st : α → ByteArray) (x : α) : (encST st x).length = 1 := rfl
/-- A row of strings while it is sorted. -/
structure StW (pr : α → Prop) (st : α → ByteArray) (w0 : World) (base blk cap n : Nat) (L : List α) (W : World) : Prop where
  own : Own W base 9 1 (encST st) (.slice (some ⟨blk, 0, none⟩) n cap) L
  onl : Onl blk w0 W
  len : L.length = n
  ok : ∀ x, x ∈ L → pr x
variable {pr : α → Prop} {st : α → ByteArray} {w0 W : World} {base blk cap n : Nat} {L : List α}

theorem StW.below {W' : World} (h : StW pr st w0 base blk cap n L W) (hb : Below W.heap.size W W') : StW pr st w0 base blk cap n L W' := ⟨h.own.below hb (Nat.le_refl _), h.onl.below hb, h.len, h.ok⟩
theorem StW.drew (h : StW pr st w0 base blk cap n L W) : StW pr st w0 base blk cap n L W.drew := h.below (Below.refl _ W).drew
theorem StW.drewN (h : StW pr st w0 base blk cap n L W) (k : Nat) : StW pr st w0 base blk cap n L (W.drewN k) := h.below (below_drewN (Below.refl _ W) k)
theorem at_some {L : List α} {i : Nat} (hi : i < L.length) : L[i]? = some (at_ L i) := by
  unfold at_
  rw [List.getD_eq_getElem?_getD, List.getElem?_eq_getElem hi]
  rfl
theorem at_mem {L : List α} {i : Nat} (hi : i < L.length) : at_ L i ∈ L := List.mem_of_getElem? (at_some hi)
theorem StW.cell (h : StW pr st w0 base blk cap n L W) {i : Nat} (hi : i < n) : W.cell? ⟨blk, i, none⟩ = some (.string (st (at_ L i))) ∧ W.frozen? ⟨blk, i, none⟩ = false := by
  have hl := h.len
  have hne : L ≠ [] := fun e => by rw [e] at hl; simp at hl; omega
  obtain ⟨g, cp, hv, _, _, _, _, hc, hf⟩ := Own.getk (encST_len st) h.own hne
  simp only [Value.slice.injEq, Option.some.injEq, Addr.mk.injEq, and_true] at hv
  obtain ⟨rfl, _, _⟩ := hv
  have h1 := hc i _ 0 _ (at_some (L := L) (by omega)) rfl
  exact ⟨by simpa using h1, hf i⟩
theorem StW.lt (h : StW pr st w0 base blk cap n L W) (hn : 0 < n) : blk < W.heap.size := by
  have := (h.cell (i := 0) hn).1
  exact World.block_lt_of_cell? W ⟨blk, 0, none⟩ this
theorem swL_mem {L : List α} {i j : Nat} (hi : i < L.length) (hj : j < L.length) {x : α} (h : x ∈ swL L i j) : x ∈ L := by
  unfold swL at h
  rcases List.mem_or_eq_of_mem_set h with h | h
  · rcases List.mem_or_eq_of_mem_set h with h | h
    · exact h
    · rw [h]; exact at_mem hj
  · rw [h]; exact at_mem hi
theorem StW.swap (h : StW pr st w0 base blk cap n L W) {i j : Nat} (hi : i < n) (hj : j < n) (hij : i ≠ j) {u v : ByteArray} (hu : u = st (at_ L j)) (hv : v = st (at_ L i)) :
    StW pr st w0 base blk cap n (swL L i j) ((W.setCell ⟨blk, i, none⟩ (.string u)).setCell ⟨blk, j, none⟩ (.string v)) := by
  have hl := h.len
  subst hu hv
  refine ⟨?_, (h.onl.trans (Onl.set blk W i _)).trans (Onl.set blk _ j _), by rw [swL_len, hl], fun x hx => h.ok x (swL_mem (by omega) (by omega) hx)⟩
  have h1 := Own.store (i := i) (j := 0) (x := at_ L i) (y := at_ L j) (u := .string (st (at_ L j))) (encST_len st) h.own hl.symm (at_some (by omega)) (by decide) rfl
  have h2 := Own.store (i := j) (j := 0) (x := at_ L j) (y := at_ L i) (u := .string (st (at_ L i))) (encST_len st) h1 (by simp [hl]) (by rw [List.getElem?_set_ne hij]; exact at_some (by omega)) (by decide) rfl
  show Own _ base 9 1 (encST st) _ ((L.set i (at_ L j)).set j (at_ L i))
  simpa using h2
/-- What a call on the row leaves. -/
def StP (pr : α → Prop) (st : α → ByteArray) (w0 : World) (base blk cap n : Nat) (L : List α) : Ending → World → Prop := fun e w' => e = .returned (.tuple #[]) ∧ StW pr st w0 base blk cap n L w'

theorem wrapAdd (a b : Nat) (h : a + b ≤ 4000000000000000000) : IntKind.i64.wrap ((a : Int) + (b : Int)) = ((a + b : Nat) : Int) := by
  rw [show (a : Int) + (b : Int) = ((a + b : Nat) : Int) by omega]; exact IntWalk.i64_in _ (by omega)
theorem wrapSub (a b : Nat) (hb : b ≤ a) (h : a ≤ 4000000000000000000) : IntKind.i64.wrap ((a : Int) - (b : Int)) = ((a - b : Nat) : Int) := by
  rw [show (a : Int) - (b : Int) = ((a - b : Nat) : Int) by omega]; exact IntWalk.i64_in _ (by omega)

set_option maxRecDepth 100000 in
set_option maxHeartbeats 4000000 in
theorem swapRange_st (h : StW pr st w0 base blk cap n L W) (a b c : Nat) (hab : a + c ≤ b) (hb : b + c ≤ n) (hsz : n ≤ 1000000) (f : Value) :
    Calls Tryd.prog 97 #[.slice (some ⟨blk, 0, none⟩) n cap, .int .i64 a, .int .i64 b, .int .i64 c, f] W (StP pr st w0 base blk cap n (swR L a b c)) := by
  have HH := Lib.hid h
  clear h
  go_enter Tryd.func97, Tryd.ntmps97
  go_wp2
  go_loopg [10] c (fun gg s10 wr => ∃ i : Nat, i ≤ c ∧ c - i ≤ gg ∧ s10 = .int .i64 i ∧ Aside (StW pr st w0 base blk cap n (swR L a b i) wr))
  case atStart => exact ⟨0, Nat.zero_le _, by omega, rfl, HH.out⟩
  case round =>
    obtain ⟨wq, rfl⟩ : ∃ wq : World, wq = wr := ⟨_, rfl⟩
    obtain ⟨i, hi, hgi, rfl, HE⟩ := hrel
    by_cases hil : i < c
    · have hiz : (i : Int) < (c : Int) := by omega
      obtain ⟨ca, fa⟩ := HE.out.cell (i := a + i) (by omega)
      obtain ⟨cb, fb⟩ := HE.out.cell (i := b + i) (by omega)
      have HSW := Lib.hid (fun u v hu hv => HE.out.swap (i := a + i) (j := b + i) (u := u) (v := v) (by omega) (by omega) (by omega) hu hv)
      obtain ⟨sa, hsa⟩ : ∃ s, s = st (at_ (swR L a b i) (a + i)) := ⟨_, rfl⟩
      obtain ⟨sb, hsb⟩ : ∃ s, s = st (at_ (swR L a b i) (b + i)) := ⟨_, rfl⟩
      rw [← hsa] at ca
      rw [← hsb] at cb
      have HSW2 := Lib.hid (HSW.out sb sa hsb hsa)
      have hwa := wrapAdd a i (by omega)
      have hwb := wrapAdd b i (by omega)
      have hwi : IntKind.i64.wrap ((i : Int) + 1) = (i : Int) + 1 := IntWalk.i64_in _ (by omega)
      have hai : a + i < n := by omega
      have hbi : b + i < n := by omega
      have hne : a + i ≠ b + i := by omega
      obtain ⟨ja, hja⟩ : ∃ ja, ja = a + i := ⟨_, rfl⟩
      obtain ⟨jb, hjb⟩ : ∃ jb, jb = b + i := ⟨_, rfl⟩
      rw [← hja] at ca fa hwa hai hne HSW2
      rw [← hjb] at cb fb hwb hbi hne HSW2
      have hja0 : (0 : Int) ≤ (ja : Int) := by omega
      have hjb0 : (0 : Int) ≤ (jb : Int) := by omega
      have hjaz : (ja : Int) < (n : Int) := by omega
      have hjbz : (jb : Int) < (n : Int) := by omega
      have HJ := Lib.hid (And.intro hja hjb)
      clear hja hjb hab hb hsa hsb HSW HE
      go_upto_region 3 with (fail)
      go_big_region
      all_goals go_wp2
      all_goals
        go_roundg (c - (i + 1))
        case measure => omega
        case rel => exact ⟨i + 1, by omega, by omega, by go_num, (show Aside _ from by
          show StW pr st w0 base blk cap n (swL (swR L a b i) (a + i) (b + i)) _
          rw [← HJ.out.1, ← HJ.out.2]
          exact HSW2.out.drew)⟩
    · obtain rfl : i = c := by omega
      go_wp2
      go_end0
      exact ⟨rfl, HE.out⟩

set_option maxRecDepth 100000 in
set_option maxHeartbeats 4000000 in
theorem rotate_st (h : StW pr st w0 base blk cap n L W) (a m b : Nat) (ham : a < m) (hmb : m < b) (hb : b ≤ n) (hsz : n ≤ 1000000) (f : Value) :
    Calls Tryd.prog 85 #[.slice (some ⟨blk, 0, none⟩) n cap, .int .i64 a, .int .i64 m, .int .i64 b, f] W (StP pr st w0 base blk cap n (rotR m (b - a) (m - a) (b - m) L)) := by
  have HH := Lib.hid h
  clear h
  have hw1 := wrapSub m a (by omega) (by omega)
  have hw2 := wrapSub b m (by omega) (by omega)
  go_enter Tryd.func85, Tryd.ntmps85
  go_wp2
  go_loopg [10, 11] (b - a) (fun gg s10 s11 wr => ∃ (i j : Nat) (d' : List α), 0 < i ∧ 0 < j ∧ i ≤ m ∧ m + j ≤ n ∧ i + j ≤ gg ∧ s10 = .int .i64 i ∧ s11 = .int .i64 j ∧ Aside (StW pr st w0 base blk cap n d' wr) ∧ Aside (∃ q, i + j ≤ q ∧ rotR m q i j d' = rotR m (b - a) (m - a) (b - m) L))
  case atStart => exact ⟨m - a, b - m, L, by omega, by omega, by omega, by omega, by omega, rfl, rfl, HH.out, (show Aside _ from ⟨b - a, by omega, rfl⟩)⟩
  case round =>
    obtain ⟨wq, rfl⟩ : ∃ wq : World, wq = wr := ⟨_, rfl⟩
    obtain ⟨i, j, d', hi0, hj0, him, hjd, hg, rfl, rfl, HE, HR⟩ := hrel
    obtain ⟨q0, hq0, hR0⟩ := HR.out
    obtain ⟨s, rfl⟩ : ∃ s, q0 = s + 1 := ⟨q0 - 1, by omega⟩
    have HR1 := Lib.hid hR0
    clear HR hR0
    have hwm := wrapSub m i (by omega) (by omega)
    by_cases hij : i = j
    · subst hij
      have hii : ((i : Int) == (i : Int)) = true := by simp
      have HC := Lib.hid (fun f => swapRange_st HE.out (m - i) m i (by omega) (by omega) hsz f)
      have HF : Hid (swR d' (m - i) m i = rotR m (b - a) (m - a) (b - m) L) := Lib.hid (by
        rw [← HR1.out]
        show _ = (if i = i then _ else _)
        rw [if_pos rfl])
      clear HE HR1
      go_wp2_with (go_at_call 97; refine (HC.out _).mono ?_; rintro e w6 ⟨rfl, hq⟩; have HQ := Lib.hid hq; clear hq)
      go_end0
      exact ⟨rfl, by rw [← HF.out]; exact HQ.out⟩
    · have hne : ((i : Int) == (j : Int)) = false := by rw [beq_eq_false_iff_ne]; omega
      by_cases hlt : j < i
      · have hltz : (j : Int) < (i : Int) := by omega
        have HC := Lib.hid (fun f => swapRange_st HE.out (m - i) m j (by omega) (by omega) hsz f)
        have hwij := wrapSub i j (by omega) (by omega)
        have HF : Hid (rotR m s (i - j) j (swR d' (m - i) m j) = rotR m (b - a) (m - a) (b - m) L) := Lib.hid (by
          rw [← HR1.out]
          show _ = (if i = j then _ else if j < i then _ else _)
          rw [if_neg hij, if_pos hlt])
        clear HE HR1 hij
        go_wp2_with (go_at_call 97; refine (HC.out _).mono ?_; rintro e w6 ⟨rfl, hq⟩; have HQ := Lib.hid hq; clear hq)
        go_roundg (i - j + j)
        case measure => omega
        case rel => exact ⟨i - j, j, swR d' (m - i) m j, by omega, by omega, by omega, by omega, by omega, by go_num, rfl, HQ.out, (show Aside _ from ⟨s, by omega, HF.out⟩)⟩
      · have hltz : ¬ (j : Int) < (i : Int) := by omega
        have hltn : i < j := by omega
        have HC := Lib.hid (fun f => swapRange_st HE.out (m - i) (m + j - i) i (by omega) (by omega) hsz f)
        have hwji := wrapSub j i (by omega) (by omega)
        have hwmj : IntKind.i64.wrap ((m : Int) + (j : Int)) = (m : Int) + (j : Int) := IntWalk.i64_in _ (by omega)
        have hwmji : IntKind.i64.wrap ((m : Int) + (j : Int) - (i : Int)) = ((m + j - i : Nat) : Int) := by rw [show (m : Int) + (j : Int) - (i : Int) = ((m + j - i : Nat) : Int) by omega]; exact IntWalk.i64_in _ (by omega)
        have HF : Hid (rotR m s i (j - i) (swR d' (m - i) (m + j - i) i) = rotR m (b - a) (m - a) (b - m) L) := Lib.hid (by
          rw [← HR1.out]
          show _ = (if i = j then _ else if j < i then _ else _)
          rw [if_neg hij, if_neg hlt])
        clear HE HR1 hij
        go_wp2_with (go_at_call 97; refine (HC.out _).mono ?_; rintro e w6 ⟨rfl, hq⟩; have HQ := Lib.hid hq; clear hq)
        go_roundg (i + (j - i))
        case measure => omega
        case rel => exact ⟨i, j - i, swR d' (m - i) (m + j - i) i, by omega, by omega, by omega, by omega, by omega, rfl, by go_num, HQ.out, (show Aside _ from ⟨s, by omega, HF.out⟩)⟩
end
end Go.Proofs.YteepbfpcdhdgfaaDoor

/- The plain stable sort sorts: plain. -/
import Derived.Test.YtmgbmoiefgfemaaDoorStbL
namespace Go.Proofs.YtmgbmoiefgfemaaDoor
open Go.RowKit
set_option linter.unusedSectionVars false

section
variable {α : Type} [Inhabited α]

theorem at_mid {P L Z : List α} {i n : Nat} (hi : i < L.length) (hn : n = P.length + i) : at_ (P ++ (L ++ Z)) n = L.getD i default := by
  unfold at_
  rw [List.getD_eq_getElem?_getD, List.getD_eq_getElem?_getD, hn, List.getElem?_append_right (by omega), Nat.add_sub_cancel_left, List.getElem?_append_left hi]
theorem at_mid2 {P L R Z : List α} {i n : Nat} (hi : i < R.length) (hn : n = P.length + L.length + i) : at_ (P ++ (L ++ (R ++ Z))) n = R.getD i default := by
  have := at_mid (P := P ++ L) (L := R) (Z := Z) hi (n := n) (by simp; omega)
  simpa using this
theorem getD_mem {L : List α} {i : Nat} (hi : i < L.length) : L.getD i default ∈ L := by
  rw [List.getD_eq_getElem?_getD, List.getElem?_eq_getElem hi]
  exact List.getElem_mem hi
theorem mem_getD {L : List α} {x : α} (h : x ∈ L) : ∃ i, i < L.length ∧ L.getD i default = x := by
  obtain ⟨i, hi, rfl⟩ := List.mem_iff_getElem.1 h
  exact ⟨i, hi, by rw [List.getD_eq_getElem?_getD, List.getElem?_eq_getElem hi]; rfl⟩
theorem pw_get {T : α → α → Prop} {L : List α} (h : L.Pairwise T) {i j : Nat} (hij : i < j) (hj : j < L.length) : T (L.getD i default) (L.getD j default) := by
  rw [List.getD_eq_getElem?_getD, List.getD_eq_getElem?_getD, List.getElem?_eq_getElem hj, List.getElem?_eq_getElem (by omega)]
  exact List.pairwise_iff_getElem.1 h i j (by omega) hj hij
theorem getD_app_left {L M : List α} {i : Nat} (hi : i < L.length) : (L ++ M).getD i default = L.getD i default := by
  rw [List.getD_eq_getElem?_getD, List.getD_eq_getElem?_getD, List.getElem?_append_left hi]
theorem getD_app_right {L M : List α} {i : Nat} : (L ++ M).getD (L.length + i) default = M.getD i default := by
  rw [List.getD_eq_getElem?_getD, List.getD_eq_getElem?_getD, List.getElem?_append_right (by omega), Nat.add_sub_cancel_left]

/-- What an order has to do with a comparison: K says which of two came first. -/
structure Ord (lt : α → α → Bool) (T K : α → α → Prop) : Prop where
  tr : ∀ x y z, T x y → T y z → T x z
  asy : ∀ x y, T x y → ¬ T y x
  cmp : ∀ x y, K x y → (lt y x = true ↔ T y x)
  tot : ∀ x y, K x y → T x y ∨ T y x
variable {lt : α → α → Bool} {T K : α → α → Prop}

theorem Ord.ge (o : Ord lt T K) {x y : α} (hk : K x y) (h : lt y x = false) : T x y := by
  rcases o.tot x y hk with h1 | h1
  · exact h1
  · rw [(o.cmp x y hk).2 h1] at h; cases h
theorem Ord.no (o : Ord lt T K) {x y : α} (hk : K x y) (h : T x y) : lt y x = false := by
  cases hl : lt y x
  · rfl
  · exact absurd ((o.cmp x y hk).1 hl) (o.asy _ _ h)

/-- One element goes up into a row. -/
theorem sym_up (o : Ord lt T K) {P R S : List α} {x : α} {a m b : Nat} (g : Nat) (ha : a = P.length) (hm : m = a + 1) (hb : b = m + R.length) (hg : b - m ≤ g) (hR : R.Pairwise T) (hk : ∀ y, y ∈ R → K x y) :
    ∃ M, upR (P ++ ([x] ++ (R ++ S))) a (bsR (fun h => lt (at_ (P ++ ([x] ++ (R ++ S))) h) (at_ (P ++ ([x] ++ (R ++ S))) a)) g m b - 1 - a) = P ++ (M ++ S) ∧ M.Perm ([x] ++ R) ∧ M.Pairwise T := by
  have hx : at_ (P ++ ([x] ++ (R ++ S))) a = x := at_app' ha
  have hy : ∀ i, i < R.length → at_ (P ++ ([x] ++ (R ++ S))) (m + i) = R.getD i default := fun i hi => at_mid2 hi (by simp; omega)
  rw [hx]
  obtain ⟨D, hD⟩ : ∃ D, D = P ++ ([x] ++ (R ++ S)) := ⟨_, rfl⟩
  rw [← hD] at hy ⊢
  have hmono : ∀ p q, m ≤ p → p ≤ q → q < b → lt (at_ D q) x = true → lt (at_ D p) x = true := fun p q h1 h2 h3 h4 => by
    by_cases e : p = q
    · rw [e]; exact h4
    have hq := hy (q - m) (by omega)
    have hp := hy (p - m) (by omega)
    rw [show m + (q - m) = q by omega] at hq
    rw [show m + (p - m) = p by omega] at hp
    rw [hq] at h4
    rw [hp]
    have k1 := hk _ (getD_mem (L := R) (i := q - m) (by omega))
    have k2 := hk _ (getD_mem (L := R) (i := p - m) (by omega))
    exact (o.cmp _ _ k2).2 (o.tr _ _ _ (pw_get hR (show p - m < q - m by omega) (by omega)) ((o.cmp _ _ k1).1 h4))
  obtain ⟨i, hi⟩ : ∃ i, i = bsR (fun h => lt (at_ D h) x) g m b := ⟨_, rfl⟩
  have hbd := bsR_bd (fun h => lt (at_ D h) x) g m b (by omega)
  obtain ⟨ho1, ho2⟩ := bsR_ok (p := fun h => lt (at_ D h) x) (g := g) (i := m) (j := b) (by omega) hg hmono
  rw [← hi] at hbd ho1 ho2 ⊢
  obtain ⟨R1, R2, rfl, hR1⟩ := split_at R (i - m) (by omega)
  rw [List.length_append] at hb hy
  obtain ⟨p1, p2, p3⟩ := List.pairwise_append.1 hR
  have f1 : ∀ y, y ∈ R1 → T y x := fun y h => by
    obtain ⟨j, hj, rfl⟩ := mem_getD h
    have h1 := ho1 (m + j) (by omega) (by omega)
    rw [hy j (by omega), getD_app_left hj] at h1
    exact (o.cmp _ _ (hk _ (List.mem_append_left _ h))).1 h1
  have f2 : ∀ y, y ∈ R2 → T x y := fun y h => by
    obtain ⟨j, hj, rfl⟩ := mem_getD h
    have h1 := ho2 (m + (R1.length + j)) (by omega) (by omega)
    rw [hy _ (by omega), getD_app_right] at h1
    exact o.ge (hk _ (List.mem_append_right _ h)) h1
  refine ⟨R1 ++ x :: R2, ?_, ?_, ?_⟩
  · have := upR_app P x (i - 1 - a) R1 (R2 ++ S) (by omega)
    rw [hD, ha] at *
    rw [show P ++ ([x] ++ (R1 ++ R2 ++ S)) = P ++ x :: (R1 ++ (R2 ++ S)) by simp, this]
    simp
  · rw [List.singleton_append]
    exact List.perm_middle
  · rw [List.pairwise_append]
    refine ⟨p1, List.pairwise_cons.2 ⟨f2, p2⟩, fun y hy1 z hz => ?_⟩
    rcases List.mem_cons.1 hz with rfl | hz
    · exact f1 y hy1
    · exact p3 y hy1 z hz
/-- One element goes down into a row. -/
theorem sym_dn (o : Ord lt T K) {P L S : List α} {y : α} {a m : Nat} (g : Nat) (ha : a = P.length) (hm : m = a + L.length) (hg : m - a ≤ g) (hL : L.Pairwise T) (hk : ∀ x, x ∈ L → K x y) :
    ∃ M, dnR (P ++ (L ++ ([y] ++ S))) m (m - bsR (fun h => !lt (at_ (P ++ (L ++ ([y] ++ S))) m) (at_ (P ++ (L ++ ([y] ++ S))) h)) g a m) = P ++ (M ++ S) ∧ M.Perm (L ++ [y]) ∧ M.Pairwise T := by
  have hyy : at_ (P ++ (L ++ ([y] ++ S))) m = y := by
    have := at_app' (P := P ++ L) (x := y) (Z := S) (n := m) (by simp; omega)
    simpa using this
  have hx : ∀ i, i < L.length → at_ (P ++ (L ++ ([y] ++ S))) (a + i) = L.getD i default := fun i hi => at_mid hi (by omega)
  rw [hyy]
  obtain ⟨D, hD⟩ : ∃ D, D = P ++ (L ++ ([y] ++ S)) := ⟨_, rfl⟩
  rw [← hD] at hx ⊢
  have hmono : ∀ p q, a ≤ p → p ≤ q → q < m → (!lt y (at_ D q)) = true → (!lt y (at_ D p)) = true := fun p q h1 h2 h3 h4 => by
    by_cases e : p = q
    · rw [e]; exact h4
    have hq := hx (q - a) (by omega)
    have hp := hx (p - a) (by omega)
    rw [show a + (q - a) = q by omega] at hq
    rw [show a + (p - a) = p by omega] at hp
    rw [hq, Bool.not_eq_true'] at h4
    rw [hp, Bool.not_eq_true']
    have k1 := hk _ (getD_mem (L := L) (i := q - a) (by omega))
    have k2 := hk _ (getD_mem (L := L) (i := p - a) (by omega))
    exact o.no k2 (o.tr _ _ _ (pw_get hL (show p - a < q - a by omega) (by omega)) (o.ge k1 h4))
  obtain ⟨i, hi⟩ : ∃ i, i = bsR (fun h => !lt y (at_ D h)) g a m := ⟨_, rfl⟩
  have hbd := bsR_bd (fun h => !lt y (at_ D h)) g a m (by omega)
  obtain ⟨ho1, ho2⟩ := bsR_ok (p := fun h => !lt y (at_ D h)) (g := g) (i := a) (j := m) (by omega) hg hmono
  rw [← hi] at hbd ho1 ho2 ⊢
  obtain ⟨L1, L2, rfl, hL1⟩ := split_at L (i - a) (by omega)
  rw [List.length_append] at hm hx
  obtain ⟨p1, p2, p3⟩ := List.pairwise_append.1 hL
  have f1 : ∀ x, x ∈ L1 → T x y := fun x h => by
    obtain ⟨j, hj, rfl⟩ := mem_getD h
    have h1 := ho1 (a + j) (by omega) (by omega)
    rw [hx j (by omega), getD_app_left hj, Bool.not_eq_true'] at h1
    exact o.ge (hk _ (List.mem_append_left _ h)) h1
  have f2 : ∀ x, x ∈ L2 → T y x := fun x h => by
    obtain ⟨j, hj, rfl⟩ := mem_getD h
    have h1 := ho2 (a + (L1.length + j)) (by omega) (by omega)
    rw [hx _ (by omega), getD_app_right, Bool.not_eq_false'] at h1
    exact (o.cmp _ _ (hk _ (List.mem_append_right _ h))).1 h1
  refine ⟨L1 ++ y :: L2, ?_, ?_, ?_⟩
  · have := dnR_app (P ++ L1) y (m - i) L2 S m (by omega) (by simp; omega)
    rw [hD, show P ++ (L1 ++ L2 ++ ([y] ++ S)) = P ++ L1 ++ (L2 ++ y :: S) by simp, this]
    simp
  · have h1 : (L1 ++ y :: L2).Perm (y :: (L1 ++ L2)) := List.perm_middle
    exact h1.trans (List.perm_append_singleton y (L1 ++ L2)).symm
  · rw [List.pairwise_append]
    refine ⟨p1, List.pairwise_cons.2 ⟨f2, p2⟩, fun x hx1 z hz => ?_⟩
    rcases List.mem_cons.1 hz with rfl | hz
    · exact f1 x hx1
    · exact p3 x hx1 z hz
/-- Where the middle is cut: who stands before it goes before who stands behind it. -/
theorem cut_ok (o : Ord lt T K) {P L R S : List α} {a m b : Nat} (ha : a = P.length) (hm : m = a + L.length) (hb : b = m + R.length) (hL0 : 0 < L.length) (hR0 : 0 < R.length) (hL : L.Pairwise T) (hR : R.Pairwise T) (hk : ∀ x, x ∈ L → ∀ y, y ∈ R → K x y) :
    ∃ L1 L2 R1 R2, L = L1 ++ L2 ∧ R = R1 ++ R2 ∧ cutR lt (P ++ (L ++ (R ++ S))) a m b = a + L1.length ∧ L1.length + R1.length = (a + b) / 2 - a ∧ (∀ x, x ∈ L1 → ∀ y, y ∈ R2 → T x y) ∧ (∀ y, y ∈ R1 → ∀ x, x ∈ L2 → T y x) := by
  have hx : ∀ i, i < L.length → at_ (P ++ (L ++ (R ++ S))) (a + i) = L.getD i default := fun i hi => at_mid hi (by omega)
  have hy : ∀ i, i < R.length → at_ (P ++ (L ++ (R ++ S))) (m + i) = R.getD i default := fun i hi => at_mid2 hi (by omega)
  unfold cutR
  obtain ⟨D, hD⟩ : ∃ D, D = P ++ (L ++ (R ++ S)) := ⟨_, rfl⟩
  rw [← hD] at hx hy ⊢
  clear hD
  obtain ⟨mid, hmid⟩ : ∃ mid, mid = (a + b) / 2 := ⟨_, rfl⟩
  rw [← hmid]
  obtain ⟨lo, hlo⟩ : ∃ lo, lo = if mid < m then mid + m - b else a := ⟨_, rfl⟩
  obtain ⟨hi', hhi⟩ : ∃ hi', hi' = if mid < m then mid else m := ⟨_, rfl⟩
  rw [← hlo, ← hhi]
  have hb1 : a ≤ lo ∧ lo ≤ hi' ∧ hi' ≤ m ∧ mid + m - hi' ≥ m ∧ mid + m - lo ≤ b ∧ hi' ≤ mid := by
    rw [hlo, hhi]
    split <;> omega
  have hlo2 : lo = a ∨ mid + m - lo = b := by rw [hlo]; split <;> omega
  have hhi2 : hi' = m ∨ mid + m - hi' = m := by rw [hhi]; split <;> omega
  clear hlo hhi
  obtain ⟨b1, b2, b3, b4, b5, b6⟩ := hb1
  have hat : ∀ c, lo ≤ c → c < hi' → c - a < L.length ∧ mid + m - 1 - c - m < R.length ∧ at_ D c = L.getD (c - a) default ∧ at_ D (mid + m - 1 - c) = R.getD (mid + m - 1 - c - m) default := fun c h1 h2 => by
    have q1 := hx (c - a) (by omega)
    have q2 := hy (mid + m - 1 - c - m) (by omega)
    rw [show a + (c - a) = c by omega] at q1
    rw [show m + (mid + m - 1 - c - m) = mid + m - 1 - c by omega] at q2
    exact ⟨by omega, by omega, q1, q2⟩
  have hmono : ∀ p q, lo ≤ p → p ≤ q → q < hi' → (!lt (at_ D (mid + m - 1 - q)) (at_ D q)) = true → (!lt (at_ D (mid + m - 1 - p)) (at_ D p)) = true := fun p q h1 h2 h3 h4 => by
    by_cases e : p = q
    · rw [e]; exact h4
    obtain ⟨q1, q2, q3, q4⟩ := hat q (by omega) h3
    obtain ⟨r1, r2, r3, r4⟩ := hat p h1 (by omega)
    rw [q3, q4, Bool.not_eq_true'] at h4
    rw [r3, r4, Bool.not_eq_true']
    have k1 := hk _ (getD_mem q1) _ (getD_mem q2)
    have k2 := hk _ (getD_mem r1) _ (getD_mem r2)
    have t1 := pw_get hL (show p - a < q - a by omega) q1
    have t2 := pw_get hR (show mid + m - 1 - q - m < mid + m - 1 - p - m by omega) r2
    exact o.no k2 (o.tr _ _ _ t1 (o.tr _ _ _ (o.ge k1 h4) t2))
  obtain ⟨s, hs⟩ : ∃ s, s = bsR (fun c => !lt (at_ D (mid + m - 1 - c)) (at_ D c)) (b - a) lo hi' := ⟨_, rfl⟩
  have hbd := bsR_bd (fun c => !lt (at_ D (mid + m - 1 - c)) (at_ D c)) (b - a) lo hi' (by omega)
  obtain ⟨ho1, ho2⟩ := bsR_ok (p := fun c => !lt (at_ D (mid + m - 1 - c)) (at_ D c)) (g := b - a) (i := lo) (j := hi') (by omega) (by omega) hmono
  rw [← hs] at hbd ho1 ho2 ⊢
  clear hs hmono
  obtain ⟨L1, L2, hLe, hL1⟩ := split_at L (s - a) (by omega)
  obtain ⟨R1, R2, hRe, hR1⟩ := split_at R (mid - s) (by omega)
  have hLl : L.length = L1.length + L2.length := by rw [hLe, List.length_append]
  have hRl : R.length = R1.length + R2.length := by rw [hRe, List.length_append]
  refine ⟨L1, L2, R1, R2, hLe, hRe, by omega, by omega, fun x hx1 y hy1 => ?_, fun y hy1 x hx1 => ?_⟩
  · obtain ⟨i, hi, rfl⟩ := mem_getD hx1
    obtain ⟨j, hj, rfl⟩ := mem_getD hy1
    have h1 := ho1 (s - 1) (by omega) (by omega)
    obtain ⟨q1, q2, q3, q4⟩ := hat (s - 1) (by omega) (by omega)
    simp only [q3, q4, Bool.not_eq_true'] at h1
    have t0 := o.ge (hk _ (getD_mem q1) _ (getD_mem q2)) h1
    have ei : L1.getD i default = L.getD i default := by rw [hLe, getD_app_left hi]
    have ej : R2.getD j default = R.getD (R1.length + j) default := by rw [hRe, getD_app_right]
    rw [ei, ej]
    have t1 : T (L.getD i default) (R.getD (mid + m - 1 - (s - 1) - m) default) := by
      by_cases e : i = s - 1 - a
      · rw [e]; exact t0
      · exact o.tr _ _ _ (pw_get hL (show i < s - 1 - a by omega) q1) t0
    by_cases e : R1.length + j = mid + m - 1 - (s - 1) - m
    · rw [e]; exact t1
    · exact o.tr _ _ _ t1 (pw_get hR (show mid + m - 1 - (s - 1) - m < R1.length + j by omega) (by omega))
  · obtain ⟨i, hi, rfl⟩ := mem_getD hx1
    obtain ⟨j, hj, rfl⟩ := mem_getD hy1
    have h1 := ho2 s (by omega) (by omega)
    obtain ⟨q1, q2, q3, q4⟩ := hat s (by omega) (by omega)
    simp only [q3, q4, Bool.not_eq_false'] at h1
    have t0 := (o.cmp _ _ (hk _ (getD_mem q1) _ (getD_mem q2))).1 h1
    have ei : L2.getD i default = L.getD (L1.length + i) default := by rw [hLe, getD_app_right]
    have ej : R1.getD j default = R.getD j default := by rw [hRe, getD_app_left hj]
    rw [ei, ej]
    have t1 : T (R.getD (mid + m - 1 - s - m) default) (L.getD (L1.length + i) default) := by
      by_cases e : L1.length + i = s - a
      · rw [e]; exact t0
      · exact o.tr _ _ _ t0 (pw_get hL (show s - a < L1.length + i by omega) (by omega))
    by_cases e : j = mid + m - 1 - s - m
    · rw [e]; exact t1
    · exact o.tr _ _ _ (pw_get hR (show j < mid + m - 1 - s - m by omega) q2) t1

/-- Two rows that are sorted are merged. -/
theorem symR_ok (o : Ord lt T K) : ∀ (g : Nat) (P L R S : List α) (a m b : Nat), a = P.length → m = a + L.length → b = m + R.length → b - a ≤ g → 0 < L.length → 0 < R.length → L.Pairwise T → R.Pairwise T → (∀ x, x ∈ L → ∀ y, y ∈ R → K x y) →
    ∃ M, symR lt g a m b (P ++ (L ++ (R ++ S))) = P ++ (M ++ S) ∧ M.Perm (L ++ R) ∧ M.Pairwise T
  | 0, P, L, R, S, a, m, b, ha, hm, hb, hg, hL0, hR0, hL, hR, hk => by omega
  | g + 1, P, L, R, S, a, m, b, ha, hm, hb, hg, hL0, hR0, hL, hR, hk => by
    unfold symR
    by_cases h1 : m - a = 1
    · rw [if_pos h1]
      obtain ⟨x, rfl⟩ : ∃ x, L = [x] := List.length_eq_one_iff.1 (by omega)
      exact sym_up o (b - a) ha (by omega) hb (by omega) hR (fun y hy => hk x (by simp) y hy)
    rw [if_neg h1]
    by_cases h2 : b - m = 1
    · rw [if_pos h2]
      obtain ⟨y, rfl⟩ : ∃ y, R = [y] := List.length_eq_one_iff.1 (by omega)
      exact sym_dn o (b - a) ha hm (by omega) hL (fun x hx => hk x hx y (by simp))
    rw [if_neg h2]
    obtain ⟨L1, L2, R1, R2, rfl, rfl, hcut, hsum, F1, F2⟩ := cut_ok (S := S) o ha hm hb hL0 hR0 hL hR hk
    rw [List.length_append] at hm hb
    simp only [hcut]
    obtain ⟨mid, hmid⟩ : ∃ mid, mid = (a + b) / 2 := ⟨_, rfl⟩
    rw [← hmid] at hsum ⊢
    obtain ⟨pl1, pl2, pl3⟩ := List.pairwise_append.1 hL
    obtain ⟨pr1, pr2, pr3⟩ := List.pairwise_append.1 hR
    have hd1 : (if a + L1.length < m ∧ m < mid + m - (a + L1.length) then rotR m (mid + m - (a + L1.length) - (a + L1.length)) (m - (a + L1.length)) (mid + m - (a + L1.length) - m) (P ++ (L1 ++ L2 ++ (R1 ++ R2 ++ S))) else P ++ (L1 ++ L2 ++ (R1 ++ R2 ++ S))) = P ++ (L1 ++ (R1 ++ (L2 ++ (R2 ++ S)))) := by
      by_cases h3 : a + L1.length < m ∧ m < mid + m - (a + L1.length)
      · rw [if_pos h3]
        have := rotR_app (mid + m - (a + L1.length) - (a + L1.length)) (P ++ L1) L2 R1 (R2 ++ S) m (m - (a + L1.length)) (mid + m - (a + L1.length) - m) (by omega) (by omega) (by omega) (by omega) (by omega) (by rw [List.length_append]; omega)
        rw [show P ++ (L1 ++ L2 ++ (R1 ++ R2 ++ S)) = P ++ L1 ++ (L2 ++ (R1 ++ (R2 ++ S))) by simp, this]
        simp
      · rw [if_neg h3]
        have h4 : L2.length = 0 ∨ R1.length = 0 := by omega
        rcases h4 with h4 | h4
        · rw [List.length_eq_zero_iff.1 h4]; simp
        · rw [List.length_eq_zero_iff.1 h4]; simp
    rw [hd1]
    have hd2 : ∃ M1, (if a < a + L1.length ∧ a + L1.length < mid then symR lt g a (a + L1.length) mid (P ++ (L1 ++ (R1 ++ (L2 ++ (R2 ++ S))))) else P ++ (L1 ++ (R1 ++ (L2 ++ (R2 ++ S))))) = P ++ (M1 ++ (L2 ++ (R2 ++ S))) ∧ M1.Perm (L1 ++ R1) ∧ M1.Pairwise T := by
      by_cases h3 : a < a + L1.length ∧ a + L1.length < mid
      · rw [if_pos h3]
        exact symR_ok o g P L1 R1 (L2 ++ (R2 ++ S)) a (a + L1.length) mid ha rfl (by omega) (by omega) (by omega) (by omega) pl1 pr1 (fun x hx y hy => hk x (List.mem_append_left _ hx) y (List.mem_append_left _ hy))
      · rw [if_neg h3]
        refine ⟨L1 ++ R1, by simp, List.Perm.refl _, ?_⟩
        have h4 : L1.length = 0 ∨ R1.length = 0 := by omega
        rcases h4 with h4 | h4
        · rw [List.length_eq_zero_iff.1 h4]; simpa using pr1
        · rw [List.length_eq_zero_iff.1 h4]; simpa using pl1
    obtain ⟨M1, e1, hp1, hs1⟩ := hd2
    rw [e1]
    have hl1 : M1.length = L1.length + R1.length := by rw [hp1.length_eq, List.length_append]
    have hd3 : ∃ M2, (if mid < mid + m - (a + L1.length) ∧ mid + m - (a + L1.length) < b then symR lt g mid (mid + m - (a + L1.length)) b (P ++ (M1 ++ (L2 ++ (R2 ++ S)))) else P ++ (M1 ++ (L2 ++ (R2 ++ S)))) = P ++ (M1 ++ (M2 ++ S)) ∧ M2.Perm (L2 ++ R2) ∧ M2.Pairwise T := by
      by_cases h3 : mid < mid + m - (a + L1.length) ∧ mid + m - (a + L1.length) < b
      · rw [if_pos h3]
        obtain ⟨M2, e2, h5, h6⟩ := symR_ok o g (P ++ M1) L2 R2 S mid (mid + m - (a + L1.length)) b (by rw [List.length_append]; omega) (by omega) (by omega) (by omega) (by omega) (by omega) pl2 pr2 (fun x hx y hy => hk x (List.mem_append_right _ hx) y (List.mem_append_right _ hy))
        refine ⟨M2, ?_, h5, h6⟩
        rw [show P ++ (M1 ++ (L2 ++ (R2 ++ S))) = P ++ M1 ++ (L2 ++ (R2 ++ S)) by simp, e2]
        simp
      · rw [if_neg h3]
        refine ⟨L2 ++ R2, by simp, List.Perm.refl _, ?_⟩
        have h4 : L2.length = 0 ∨ R2.length = 0 := by omega
        rcases h4 with h4 | h4
        · rw [List.length_eq_zero_iff.1 h4]; simpa using pr2
        · rw [List.length_eq_zero_iff.1 h4]; simpa using pl2
    obtain ⟨M2, e2, hp2, hs2⟩ := hd3
    refine ⟨M1 ++ M2, by rw [e2]; simp, ?_, ?_⟩
    · have h5 : (M1 ++ M2).Perm ((L1 ++ R1) ++ (L2 ++ R2)) := hp1.append hp2
      refine h5.trans ?_
      rw [List.append_assoc, List.append_assoc]
      refine List.Perm.append_left L1 ?_
      rw [← List.append_assoc, ← List.append_assoc]
      exact List.Perm.append_right R2 List.perm_append_comm
    · rw [List.pairwise_append]
      refine ⟨hs1, hs2, fun x hx y hy => ?_⟩
      rcases List.mem_append.1 (hp1.subset hx) with hx | hx <;> rcases List.mem_append.1 (hp2.subset hy) with hy | hy
      · exact pl3 x hx y hy
      · exact F1 x hx y hy
      · exact F2 x hx y hy
      · exact pr3 x hx y hy
end
end Go.Proofs.YtmgbmoiefgfemaaDoor

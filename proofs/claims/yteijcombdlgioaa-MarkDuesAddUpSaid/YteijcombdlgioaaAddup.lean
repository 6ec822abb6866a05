/- Plain laws of Due: two stretches add up; each event comes once. -/
import Derived.Test.YteijcombdlgioaaDueDef
namespace Go.Proofs.Yteijcombdlgioaa
open Go.RowKit

/-- All events that can come, each with its tick. -/
def candOf (l : List Prt) (i j : Nat) : List (Int × Ev) :=
  if noAd (l.getD i default) = false then [(tickOf l i ((j : Int) + 1), ⟨⟨#[]⟩, i, (l.getD i default).ad, (j : Int) + 1⟩)] else []
def candRow (l : List Prt) (i : Nat) : Nat → List (Int × Ev)
  | 0 => []
  | j + 1 => candRow l i j ++ candOf l i j
def candAll (l : List Prt) : Nat → List (Int × Ev)
  | 0 => []
  | n + 1 => candAll l n ++ candRow l n 5

def within2 (a b : Int) (x : Int × Ev) : Bool := decide (a ≤ x.1) && decide (x.1 < b)

theorem evOf_cand (l : List Prt) (a b : Int) (i j : Nat) : evOf l a b i j = ((candOf l i j).filter (within2 a b)).map (·.2) := by
  unfold evOf candOf
  by_cases h : noAd (l.getD i default) = false
  · rw [if_pos h]
    by_cases h2 : a ≤ tickOf l i ((j : Int) + 1) ∧ tickOf l i ((j : Int) + 1) < b
    · rw [if_pos ⟨h, h2⟩]
      simp [within2, h2]
    · rw [if_neg (fun e => h2 e.2)]
      have : within2 a b (tickOf l i ((j : Int) + 1), ⟨⟨#[]⟩, i, (l.getD i default).ad, (j : Int) + 1⟩) = false := by
        cases e : within2 a b (tickOf l i ((j : Int) + 1), ⟨⟨#[]⟩, i, (l.getD i default).ad, (j : Int) + 1⟩)
        · rfl
        · simp [within2] at e; exact absurd e h2
      rw [List.filter_cons, this]
      rfl
  · rw [if_neg h, if_neg (fun e => h e.1)]
    rfl
theorem evRow_cand (l : List Prt) (a b : Int) (i : Nat) : ∀ j, evRow l a b i j = ((candRow l i j).filter (within2 a b)).map (·.2)
  | 0 => rfl
  | j + 1 => by rw [evRow, candRow, evRow_cand l a b i j, evOf_cand, List.filter_append, List.map_append]
theorem evAll_cand (l : List Prt) (a b : Int) : ∀ n, evAll l a b n = ((candAll l n).filter (within2 a b)).map (·.2)
  | 0 => rfl
  | n + 1 => by rw [evAll, candAll, evAll_cand l a b n, evRow_cand, List.filter_append, List.map_append]

theorem need_mono {n : Int} (h : 1 ≤ n) {i j : Nat} (hij : i ≤ j) : need n ((i : Int) + 1) ≤ need n ((j : Int) + 1) := by
  unfold need
  repeat' split
  all_goals omega

theorem candRow_tick {l : List Prt} {i : Nat} : ∀ {j : Nat} {x : Int × Ev}, x ∈ candRow l i j → ∃ k, k < j ∧ x.1 = tickOf l i ((k : Int) + 1)
  | 0, x, h => by simp [candRow] at h
  | j + 1, x, h => by
    rw [candRow, List.mem_append] at h
    rcases h with h | h
    · obtain ⟨k, hk, e⟩ := candRow_tick h
      exact ⟨k, by omega, e⟩
    · unfold candOf at h
      split at h
      · simp at h; exact ⟨j, by omega, by rw [h]⟩
      · simp at h

theorem candRow_sorted {l : List Prt} {i : Nat} (h : 1 ≤ (l.getD i default).ln) : ∀ j, (candRow l i j).Pairwise (fun x y => x.1 ≤ y.1)
  | 0 => List.Pairwise.nil
  | j + 1 => by
    rw [candRow, List.pairwise_append]
    refine ⟨candRow_sorted h j, ?_, fun x hx y hy => ?_⟩
    · unfold candOf; split <;> simp
    · obtain ⟨k, hk, e⟩ := candRow_tick hx
      unfold candOf at hy
      split at hy
      · simp at hy
        rw [e, hy]
        simp only [tickOf]
        have := need_mono (n := (l.getD i default).ln) h (i := k) (j := j) (by omega)
        omega
      · simp at hy

theorem candAll_tick {l : List Prt} (h : ∀ p, p ∈ l → 1 ≤ p.ln ∧ p.ln ≤ 1000000000000000) : ∀ {n : Nat}, n ≤ l.length → ∀ {x : Int × Ev}, x ∈ candAll l n → 0 ≤ x.1 ∧ x.1 < sumL (l.take n)
  | 0, _, x, hx => by simp [candAll] at hx
  | n + 1, hn, x, hx => by
    have hp : l[n]? = some l[n] := by simp
    have hs := sumL_take hp
    have hb := h l[n] (List.getElem_mem _)
    have hs0 := sumL_bd (l := l.take n) (fun q hq => h q (List.mem_of_mem_take hq))
    rw [candAll, List.mem_append] at hx
    rcases hx with hx | hx
    · have := candAll_tick h (n := n) (by omega) hx
      omega
    · obtain ⟨k, hk, e⟩ := candRow_tick hx
      have hg : l.getD n default = l[n] := by rw [List.getD_eq_getElem?_getD, hp]; rfl
      rw [e, tickOf, hg, hs]
      have := need_bd (k := (k : Int) + 1) hb.1 hb.2
      omega

theorem candAll_sorted {l : List Prt} (h : ∀ p, p ∈ l → 1 ≤ p.ln ∧ p.ln ≤ 1000000000000000) : ∀ n, n ≤ l.length → (candAll l n).Pairwise (fun x y => x.1 ≤ y.1)
  | 0, _ => List.Pairwise.nil
  | n + 1, hn => by
    have hp : l[n]? = some l[n] := by simp
    have hb := h l[n] (List.getElem_mem _)
    have hg : l.getD n default = l[n] := by rw [List.getD_eq_getElem?_getD, hp]; rfl
    rw [candAll, List.pairwise_append]
    refine ⟨candAll_sorted h n (by omega), candRow_sorted (by rw [hg]; omega) 5, fun x hx y hy => ?_⟩
    have h1 := candAll_tick h (n := n) (by omega) hx
    obtain ⟨k, hk, e⟩ := candRow_tick hy
    rw [e, tickOf, hg]
    have := need_bd (k := (k : Int) + 1) hb.1 hb.2
    omega

theorem filter_split {a m b : Int} (h1 : a ≤ m) (h2 : m ≤ b) : ∀ {L : List (Int × Ev)}, L.Pairwise (fun x y => x.1 ≤ y.1) → L.filter (within2 a m) ++ L.filter (within2 m b) = L.filter (within2 a b)
  | [], _ => rfl
  | x :: r, h => by
    rw [List.pairwise_cons] at h
    have ih := filter_split h1 h2 h.2
    by_cases hx : x.1 < m
    · have e1 : within2 m b x = false := by simp [within2]; omega
      have e2 : within2 a m x = within2 a b x := by
        simp only [within2]
        have : decide (x.1 < m) = decide (x.1 < b) := by rw [decide_eq_decide]; omega
        rw [this]
      rw [List.filter_cons, List.filter_cons, List.filter_cons, e1, e2, ← ih]
      cases within2 a b x <;> simp
    · have e1 : r.filter (within2 a m) = [] := by
        rw [List.filter_eq_nil_iff]
        intro y hy
        have := h.1 y hy
        simp [within2]; omega
      have e2 : within2 a m x = false := by simp [within2]; omega
      have e3 : within2 m b x = within2 a b x := by
        simp only [within2]
        have : decide (m ≤ x.1) = decide (a ≤ x.1) := by rw [decide_eq_decide]; omega
        rw [this]
      rw [e1, List.nil_append] at ih
      rw [List.filter_cons, List.filter_cons, List.filter_cons, e1, e2, e3, ← ih]
      simp

/-- How many events the advertisements of some parts have. -/
def five : List Prt → Int
  | [] => 0
  | p :: r => (if noAd p = true then 0 else 5) + five r
theorem five_append : ∀ (a b : List Prt), five (a ++ b) = five a + five b
  | [], b => by simp [five]
  | p :: r, b => by simp [five, five_append r b]; omega

theorem candAll_len {l : List Prt} : ∀ n, n ≤ l.length → ((candAll l n).length : Int) = five (l.take n)
  | 0, _ => by simp [candAll, five]
  | n + 1, hn => by
    have hp : l[n]? = some l[n] := by simp
    have hg : l.getD n default = l[n] := by rw [List.getD_eq_getElem?_getD, hp]; rfl
    rw [candAll, List.length_append, take_next hp, five_append]
    have ih := candAll_len (l := l) n (by omega)
    simp only [five, candRow, candOf, hg]
    cases hno : noAd l[n] <;> simp <;> omega

theorem dueF_zero {l : List Prt} {a b : Int} (h : dueF l a b = 0) : checkP l = 0 ∧ 0 ≤ a ∧ a ≤ 1000000000000000 ∧ a ≤ b ∧ b ≤ 1000000000000000 := by
  unfold dueF at h
  split at h
  · rename_i h1; exact absurd h h1
  rename_i h1
  split at h
  · simp at h
  rename_i h2
  simp [outB] at h2
  exact ⟨by simpa using h1, by omega, by omega, by omega, by omega⟩

theorem dueF_ok {l : List Prt} {a b : Int} (h : checkP l = 0) (h0 : 0 ≤ a) (h1 : a ≤ b) (h2 : b ≤ 1000000000000000) : dueF l a b = 0 := by
  unfold dueF
  rw [if_neg (by simp [h]), if_neg (by simp [outB]; omega)]

/-- What comes in two stretches is what comes in both. -/
theorem dueL_add {l : List Prt} {a m b : Int} (h1 : dueF l a m = 0) (h2 : dueF l m b = 0) : dueF l a b = 0 ∧ dueL l a m ++ dueL l m b = dueL l a b := by
  have g1 := dueF_zero h1
  have g2 := dueF_zero h2
  have h3 : dueF l a b = 0 := dueF_ok g1.1 g1.2.1 (by omega) (by omega)
  refine ⟨h3, ?_⟩
  rw [dueL, dueL, dueL, if_pos h1, if_pos h2, if_pos h3, evAll_cand, evAll_cand, evAll_cand, ← List.map_append, filter_split (by omega) (by omega) (candAll_sorted (checkP_bd g1.1) _ (Nat.le_refl _))]

/-- Each event of each advertisement comes once. -/
theorem dueL_all {l : List Prt} (h : checkP l = 0) : dueF l 0 1000000000000000 = 0 ∧ ((dueL l 0 1000000000000000).length : Int) = five l := by
  have h3 : dueF l 0 1000000000000000 = 0 := dueF_ok h (by omega) (by omega) (by omega)
  refine ⟨h3, ?_⟩
  have hl := candAll_len (l := l) l.length (Nat.le_refl _)
  rw [List.take_length] at hl
  rw [dueL, if_pos h3, evAll_cand, List.filter_eq_self.2, List.length_map, hl]
  intro x hx
  have := candAll_tick (checkP_bd h) (Nat.le_refl _) hx
  rw [List.take_length] at this
  have hs := (checkP_parts h).2.2.1
  simp [within2]; omega
end Go.Proofs.Yteijcombdlgioaa

/- What Inserted and Replaced return: plain. -/
import Derived.Test.YteijcombdlgioaaRbld
import Derived.Test.YteijcombdlgioaaCb
namespace Go.Proofs.Yteijcombdlgioaa
open Go.RowKit

/-- A slice of advertisements among the elements of a slice. -/
structure AdS where
  v : Value
  l : List Adv
instance : Inhabited AdS := ⟨⟨.slice none 0 0, []⟩⟩
def encS (y : AdS) : List Value := [y.v]
theorem encS_len (y : AdS) : (encS y).length = 1 := rfl
def WfS (w : World) (y : AdS) : Prop := Sl w 4 encA y.v y.l ∧ ∀ a, a ∈ y.l → WfA a
theorem Sl.lt {α : Type} {w0 : World} {k : Nat} {enc : α → List Value} {u : Value} {l : List α} (h : Sl w0 k enc u l) (hk : ∀ x, 0 < (enc x).length) {B : Nat} (hB : w0.heap.size ≤ B) :
    0 < l.length → ∀ ao len cap, u = .slice ao len cap → ∀ b, ao = some b → b.block < B := by
  intro hl ao len cap hu b hb
  obtain ⟨ao', cap', h1, h2, h3, h4, h5⟩ := h
  rw [hu] at h1
  simp only [Value.slice.injEq] at h1
  obtain ⟨rfl, _, _⟩ := h1
  obtain ⟨b', off, ha, hc⟩ := h5 0 _ (List.getElem?_eq_getElem hl)
  rw [hb] at ha
  simp only [Option.some.injEq] at ha
  subst ha
  exact Nat.lt_of_lt_of_le (World.block_lt_of_cell? w0 ⟨b', off + 0 * k + 0, none⟩ (hc 0 _ (List.getElem?_eq_getElem (hk _)))) hB

theorem outB_no {n lo hi : Int} (h : outB n lo hi = false) : lo ≤ n ∧ n ≤ hi := by simp [outB] at h; omega
theorem outB_no' {n lo hi : Int} (h : ¬ outB n lo hi = true) : lo ≤ n ∧ n ≤ hi := outB_no (by simpa using h)

/-- How many advertisements there are. -/
def cntS : List AdS → Nat
  | [] => 0
  | y :: r => y.l.length + cntS r
theorem cntS_append : ∀ a b, cntS (a ++ b) = cntS a + cntS b
  | [], b => by simp [cntS]
  | p :: r, b => by simp [cntS, cntS_append r b]; omega
theorem cntS_take {l : List AdS} {k : Nat} {y : AdS} (hx : l[k]? = some y) : cntS (l.take (k + 1)) = cntS (l.take k) + y.l.length := by
  rw [take_next hx, cntS_append]; simp [cntS]
theorem cntS_le (l : List AdS) (k : Nat) : cntS (l.take k) ≤ cntS l := by
  conv => rhs; rw [← List.take_append_drop k l, cntS_append]
  omega
theorem getD_of {α : Type} {l : List α} {k : Nat} {x d : α} (hx : l[k]? = some x) : l.getD k d = x := by rw [List.getD_eq_getElem?_getD, hx]; rfl

def lastI (at_ : List Int) (k : Nat) : Int := if k = 0 then 0 else at_.getD (k - 1) 0
def insF1 (P : Int) (at_ : List Int) (ads : List AdS) (i : Nat) : Int :=
  if outB (at_.getD i 0) 0 P = true then 1 else if (decide (0 < i) && decide (at_.getD i 0 ≤ at_.getD (i - 1) 0)) = true then 8 else adsF (ads.getD i default).l
def insF0 (P : Int) (at_ : List Int) (ads : List AdS) : Int :=
  if outB P 0 1000000000000000 = true then 1 else if at_.length ≠ ads.length then 3 else if 200 < at_.length then 2 else FF (insF1 P at_ ads) at_.length
def insL (at_ : List Int) (ads : List AdS) : Nat → List Prt
  | 0 => []
  | k + 1 => prg (insL at_ ads k) (lastI at_ k) (at_.getD k 0) ++ ((ads.getD k default).l).map adP
def insZ (P : Int) (at_ : List Int) (ads : List AdS) : List Prt := prg (insL at_ ads at_.length) (lastI at_ at_.length) P
def insRF (P : Int) (at_ : List Int) (ads : List AdS) : Int := if insF0 P at_ ads ≠ 0 then insF0 P at_ ads else checkP (insZ P at_ ads)
def insRL (P : Int) (at_ : List Int) (ads : List AdS) : List Prt := if insF0 P at_ ads ≠ 0 then [] else rightL (insZ P at_ ads)

theorem insL_len (at_ : List Int) (ads : List AdS) : ∀ k, k ≤ ads.length → (insL at_ ads k).length ≤ k + cntS (ads.take k)
  | 0, _ => by simp [insL]
  | k + 1, hk => by
    obtain ⟨y, hy⟩ : ∃ x, ads[k]? = some x := ⟨ads[k]'(by omega), by simp⟩
    have h1 := insL_len at_ ads k (by omega)
    have h2 := prg_len (insL at_ ads k) (lastI at_ k) (at_.getD k 0)
    rw [insL, List.length_append, List.length_map, getD_of hy, cntS_take hy]
    omega
theorem insF1_zero {P : Int} {at_ : List Int} {ads : List AdS} {i : Nat} (h : insF1 P at_ ads i = 0) : 0 ≤ at_.getD i 0 ∧ at_.getD i 0 ≤ P ∧ (0 < i → at_.getD (i - 1) 0 < at_.getD i 0) ∧ adsF (ads.getD i default).l = 0 := by
  unfold insF1 at h
  split at h
  · simp at h
  rename_i h1
  split at h
  · simp at h
  rename_i h2
  have h1 := outB_no' h1
  simp only [Bool.and_eq_true, decide_eq_true_eq, not_and] at h2
  exact ⟨h1.1, h1.2, fun h3 => by have := h2 h3; omega, h⟩
theorem lastI_bd {P : Int} {at_ : List Int} {ads : List AdS} {k : Nat} (hP : 0 ≤ P) (h : ∀ j, j < k → insF1 P at_ ads j = 0) : 0 ≤ lastI at_ k ∧ lastI at_ k ≤ P := by
  unfold lastI
  split
  · omega
  · have := insF1_zero (h (k - 1) (by omega))
    omega
theorem insL_PB {P : Int} {at_ : List Int} {ads : List AdS} (hP : P ≤ 1000000000000000) (hP0 : 0 ≤ P) : ∀ k, (∀ j, j < k → insF1 P at_ ads j = 0) → ∀ p, p ∈ insL at_ ads k → PB p
  | 0, _ => fun p hp => by simp [insL] at hp
  | k + 1, h => by
    have ih := insL_PB hP hP0 k fun j hj => h j (by omega)
    have hk := insF1_zero (h k (by omega))
    have hl := lastI_bd (k := k) hP0 fun j hj => h j (by omega)
    exact ads_PB (prg_PB ih hl.1 (by omega)) hk.2.2.2

def repE (P : Int) (x : Brk) : Int := if x.en = -1 ∨ P < x.en then P else x.en
def repF1 (P : Int) (l : List Brk) (ads : List AdS) (i : Nat) : Int := if P < (l.getD i default).be then 1 else adsF (ads.getD i default).l
def repF0 (P : Int) (l : List Brk) (ads : List AdS) : Int :=
  if outB P 0 1000000000000000 = true then 1 else if l.length ≠ ads.length then 3 else if checkB l ≠ 0 then checkB l else FF (repF1 P l ads) l.length
def repS (P : Int) (l : List Brk) (ads : List AdS) : Nat → Int
  | 0 => 0
  | k + 1 => min ((l.getD k default).be + sumA (ads.getD k default).l) (repE P (l.getD k default))
def repL (P : Int) (l : List Brk) (ads : List AdS) : Nat → List Prt
  | 0 => []
  | k + 1 => prg (repL P l ads k) (repS P l ads k) (l.getD k default).be ++ ((ads.getD k default).l).map adP
def repZ (P : Int) (l : List Brk) (ads : List AdS) : List Prt := prg (repL P l ads l.length) (repS P l ads l.length) P
def repRF (P : Int) (l : List Brk) (ads : List AdS) : Int := if repF0 P l ads ≠ 0 then repF0 P l ads else checkP (repZ P l ads)
def repRL (P : Int) (l : List Brk) (ads : List AdS) : List Prt := if repF0 P l ads ≠ 0 then [] else rightL (repZ P l ads)

theorem repL_len (P : Int) (l : List Brk) (ads : List AdS) : ∀ k, k ≤ ads.length → (repL P l ads k).length ≤ k + cntS (ads.take k)
  | 0, _ => by simp [repL]
  | k + 1, hk => by
    obtain ⟨y, hy⟩ : ∃ x, ads[k]? = some x := ⟨ads[k]'(by omega), by simp⟩
    have h1 := repL_len P l ads k (by omega)
    have h2 := prg_len (repL P l ads k) (repS P l ads k) (l.getD k default).be
    rw [repL, List.length_append, List.length_map, getD_of hy, cntS_take hy]
    omega
/-- What CheckBreaks makes sure of each break. -/
theorem checkB_each {l : List Brk} (h : checkB l = 0) : l.length ≤ 200 ∧ ∀ i, i < l.length → 0 ≤ (l.getD i default).be ∧ (l.getD i default).be ≤ 1000000000000000 ∧ -1 ≤ (l.getD i default).en ∧ (l.getD i default).en ≤ 1000000000000000 ∧ ((l.getD i default).en ≠ -1 → (l.getD i default).be < (l.getD i default).en) := by
  unfold checkB at h
  split at h
  · simp at h
  rename_i h0
  refine ⟨by omega, fun i hi => ?_⟩
  have h1 := FF_eq_zero h i hi
  unfold cbAt cbOf at h1
  split at h1
  · simp at h1
  rename_i h2
  split at h1
  · simp at h1
  rename_i h3
  simp only [Bool.or_eq_true, not_or] at h2
  have h4 := outB_no' h2.1.2
  have h5 := outB_no' h2.2
  exact ⟨h4.1, h4.2, h5.1, h5.2, fun h6 => by
    exact Int.not_le.1 fun h7 => h3 ⟨h6, h7⟩⟩
theorem repF1_zero {P : Int} {l : List Brk} {ads : List AdS} {i : Nat} (h : repF1 P l ads i = 0) : (l.getD i default).be ≤ P ∧ adsF (ads.getD i default).l = 0 := by
  unfold repF1 at h
  split at h
  · simp at h
  · exact ⟨by omega, h⟩
theorem repS_bd {P : Int} {l : List Brk} {ads : List AdS} (hP : 0 ≤ P) (hc : checkB l = 0) : ∀ k, k ≤ l.length → (∀ j, j < k → repF1 P l ads j = 0) → 0 ≤ repS P l ads k ∧ repS P l ads k ≤ P
  | 0, _, _ => ⟨Int.le_refl _, hP⟩
  | k + 1, hk, h => by
    have h1 := (checkB_each hc).2 k (by omega)
    have h2 := repF1_zero (h k (by omega))
    have h3 := sumA_nn fun a ha => (adsF_zero h2.2 a ha).2
    obtain ⟨a1, a2, a3, a4, a5⟩ := h1
    show 0 ≤ min ((l.getD k default).be + sumA (ads.getD k default).l) (repE P (l.getD k default)) ∧ min ((l.getD k default).be + sumA (ads.getD k default).l) (repE P (l.getD k default)) ≤ P
    unfold repE
    by_cases h4 : (l.getD k default).en = -1 ∨ P < (l.getD k default).en
    · rw [if_pos h4]; omega
    · rw [if_neg h4]
      rw [not_or] at h4
      have := a5 h4.1
      omega
theorem repL_PB {P : Int} {l : List Brk} {ads : List AdS} (hP : P ≤ 1000000000000000) (hP0 : 0 ≤ P) (hc : checkB l = 0) : ∀ k, k ≤ l.length → (∀ j, j < k → repF1 P l ads j = 0) → ∀ p, p ∈ repL P l ads k → PB p
  | 0, _, _ => fun p hp => by simp [repL] at hp
  | k + 1, hk, h => by
    have ih := repL_PB hP hP0 hc k (by omega) fun j hj => h j (by omega)
    have h2 := repF1_zero (h k (by omega))
    have hl := repS_bd hP0 hc k (by omega) fun j hj => h j (show j < k + 1 by omega)
    exact ads_PB (prg_PB ih hl.1 (by omega)) h2.2
end Go.Proofs.Yteijcombdlgioaa

/- What Inserted and Replaced return: plain. -/
import Derived.Test.YtpdeodoidlcdoaaG20
import Derived.Test.YtpdeodoidlcdoaaG07
import Derived.Test.YtpdeodoidlcdoaaG19
import Derived.Test.YtpdeodoidlcdoaaG08
import Derived.Test.YtpdeodoidlcdoaaG13
namespace Go.Proofs.Ytpdeodoidlcdoaa
open Go.RowKit

/-- A slice of advertisements among the elements of a slice. -/
structure AdS where
  v : Value
  l : List Adv
instance : Inhabited AdS := ⟨⟨.slice none 0 0, []⟩⟩
def encS (y : AdS) : List Value := [y.v]
theorem encS_len (y : AdS) : (encS y).length = 1 := rfl
def WfS (w : World) (y : AdS) : Prop := Sl w 4 encA y.v y.l ∧ ∀ a, a ∈ y.l → WfA a
theorem Sl.lt {α : Type} {w0 : World} {k : Nat} {enc : α → List Value} {u : Value} {l : List α} (h : Sl w0 k enc u l) (hk : ∀ x, 0 < (enc x).length) {B : Nat} (hB : w0.heap.size ≤ B) :
    0 < l.length → ∀ ao len cap, u = .slice ao len cap → ∀ b, ao = some b → b.block < B := by
  intro hl ao len cap hu b hb
  obtain ⟨ao', cap', h1, h2, h3, h4, h5⟩ := h
  rw [hu] at h1
  simp only [Value.slice.injEq] at h1
  obtain ⟨rfl, _, _⟩ := h1
  obtain ⟨b', off, ha, hc⟩ := h5 0 _ (List.getElem?_eq_getElem hl)
  rw [hb] at ha
  simp only [Option.some.injEq] at ha
  subst ha
  exact Nat.lt_of_lt_of_le (World.block_lt_of_cell? w0 ⟨b', off + 0 * k + 0, none⟩ (hc 0 _ (List.getElem?_eq_getElem (hk _)))) hB

/-- How many advertisements there are. -/
def cntS : List AdS → Nat
  | [] => 0
  | y :: r => y.l.length + cntS r
theorem cntS_append : ∀ a b, cntS (a ++ b) = cntS a + cntS b
  | [], b => by simp [cntS]
  | p :: r, b => by simp [cntS, cntS_append r b]; omega
theorem cntS_take {l : List AdS} {k : Nat} {y : AdS} (hx : l[k]? = some y) : cntS (l.take (k + 1)) = cntS (l.take k) + y.l.length := by
  rw [take_next hx, cntS_append]; simp [cntS]
theorem cntS_le (l : List AdS) (k : Nat) : cntS (l.take k) ≤ cntS l := by
  conv => rhs; rw [← List.take_append_drop k l, cntS_append]
  omega
def lastI (at_ : List Int) (k : Nat) : Int := if k = 0 then 0 else at_.getD (k - 1) 0
def insF1 (P : Int) (at_ : List Int) (ads : List AdS) (i : Nat) : Int :=
  if outB (at_.getD i 0) 0 P = true then 1 else if (decide (0 < i) && decide (at_.getD i 0 ≤ at_.getD (i - 1) 0)) = true then 8 else adsF (ads.getD i default).l
def insF0 (P : Int) (at_ : List Int) (ads : List AdS) : Int :=
  if outB P 0 1000000000000000 = true then 1 else if at_.length ≠ ads.length then 3 else if 200 < at_.length then 2 else FF (insF1 P at_ ads) at_.length
def insL (at_ : List Int) (ads : List AdS) : Nat → List Prt
  | 0 => []
  | k + 1 => prg (insL at_ ads k) (lastI at_ k) (at_.getD k 0) ++ ((ads.getD k default).l).map adP
def insZ (P : Int) (at_ : List Int) (ads : List AdS) : List Prt := prg (insL at_ ads at_.length) (lastI at_ at_.length) P
def insRF (P : Int) (at_ : List Int) (ads : List AdS) : Int := if insF0 P at_ ads ≠ 0 then insF0 P at_ ads else checkP (insZ P at_ ads)
def insRL (P : Int) (at_ : List Int) (ads : List AdS) : List Prt := if insF0 P at_ ads ≠ 0 then [] else rightL (insZ P at_ ads)

theorem insL_len (at_ : List Int) (ads : List AdS) : ∀ k, k ≤ ads.length → (insL at_ ads k).length ≤ k + cntS (ads.take k)
  | 0, _ => by simp [insL]
  | k + 1, hk => by
    obtain ⟨y, hy⟩ : ∃ x, ads[k]? = some x := ⟨ads[k]'(by omega), by simp⟩
    have h1 := insL_len at_ ads k (by omega)
    have h2 := prg_len (insL at_ ads k) (lastI at_ k) (at_.getD k 0)
    rw [insL, List.length_append, List.length_map, getD_of hy, cntS_take hy]
    omega
theorem insF1_zero {P : Int} {at_ : List Int} {ads : List AdS} {i : Nat} (h : insF1 P at_ ads i = 0) : 0 ≤ at_.getD i 0 ∧ at_.getD i 0 ≤ P ∧ (0 < i → at_.getD (i - 1) 0 < at_.getD i 0) ∧ adsF (ads.getD i default).l = 0 := by
  unfold insF1 at h
  split at h
  · simp at h
  rename_i h1
  split at h
  · simp at h
  rename_i h2
  have h1 := outB_no' h1
  simp only [Bool.and_eq_true, decide_eq_true_eq, not_and] at h2
  exact ⟨h1.1, h1.2, fun h3 => by have := h2 h3; omega, h⟩
theorem lastI_bd {P : Int} {at_ : List Int} {ads : List AdS} {k : Nat} (hP : 0 ≤ P) (h : ∀ j, j < k → insF1 P at_ ads j = 0) : 0 ≤ lastI at_ k ∧ lastI at_ k ≤ P := by
  unfold lastI
  split
  · omega
  · have := insF1_zero (h (k - 1) (by omega))
    omega
theorem insL_PB {P : Int} {at_ : List Int} {ads : List AdS} (hP : P ≤ 1000000000000000) (hP0 : 0 ≤ P) : ∀ k, (∀ j, j < k → insF1 P at_ ads j = 0) → ∀ p, p ∈ insL at_ ads k → PB p
  | 0, _ => fun p hp => by simp [insL] at hp
  | k + 1, h => by
    have ih := insL_PB hP hP0 k fun j hj => h j (by omega)
    have hk := insF1_zero (h k (by omega))
    have hl := lastI_bd (k := k) hP0 fun j hj => h j (by omega)
    exact ads_PB (prg_PB ih hl.1 (by omega)) hk.2.2.2

def repE (P : Int) (x : Brk) : Int := if x.en = -1 ∨ P < x.en then P else x.en
def repF1 (P : Int) (l : List Brk) (ads : List AdS) (i : Nat) : Int := if P < (l.getD i default).be then 1 else adsF (ads.getD i default).l
def repF0 (P : Int) (l : List Brk) (ads : List AdS) : Int :=
  if outB P 0 1000000000000000 = true then 1 else if l.length ≠ ads.length then 3 else if checkB l ≠ 0 then checkB l else FF (repF1 P l ads) l.length
def repS (P : Int) (l : List Brk) (ads : List AdS) : Nat → Int
  | 0 => 0
  | k + 1 => min ((l.getD k default).be + sumA (ads.getD k default).l) (repE P (l.getD k default))
def repL (P : Int) (l : List Brk) (ads : List AdS) : Nat → List Prt
  | 0 => []
  | k + 1 => prg (repL P l ads k) (repS P l ads k) (l.getD k default).be ++ ((ads.getD k default).l).map adP
def repZ (P : Int) (l : List Brk) (ads : List AdS) : List Prt := prg (repL P l ads l.length) (repS P l ads l.length) P
def repRF (P : Int) (l : List Brk) (ads : List AdS) : Int := if repF0 P l ads ≠ 0 then repF0 P l ads else checkP (repZ P l ads)
def repRL (P : Int) (l : List Brk) (ads : List AdS) : List Prt := if repF0 P l ads ≠ 0 then [] else rightL (repZ P l ads)

theorem repL_len (P : Int) (l : List Brk) (ads : List AdS) : ∀ k, k ≤ ads.length → (repL P l ads k).length ≤ k + cntS (ads.take k)
  | 0, _ => by simp [repL]
  | k + 1, hk => by
    obtain ⟨y, hy⟩ : ∃ x, ads[k]? = some x := ⟨ads[k]'(by omega), by simp⟩
    have h1 := repL_len P l ads k (by omega)
    have h2 := prg_len (repL P l ads k) (repS P l ads k) (l.getD k default).be
    rw [repL, List.length_append, List.length_map, getD_of hy, cntS_take hy]
    omega
/-- What CheckBreaks makes sure of each break. -/
theorem checkB_each {l : List Brk} (h : checkB l = 0) : l.length ≤ 200 ∧ ∀ i, i < l.length → 0 ≤ (l.getD i default).be ∧ (l.getD i default).be ≤ 1000000000000000 ∧ -1 ≤ (l.getD i default).en ∧ (l.getD i default).en ≤ 1000000000000000 ∧ ((l.getD i default).en ≠ -1 → (l.getD i default).be < (l.getD i default).en) := by
  unfold checkB at h
  split at h
  · simp at h
  rename_i h0
  refine ⟨by omega, fun i hi => ?_⟩
  have h1 := FF_eq_zero h i hi
  unfold cbAt cbOf at h1
  split at h1
  · simp at h1
  rename_i h2
  split at h1
  · simp at h1
  rename_i h3
  simp only [Bool.or_eq_true, not_or] at h2
  have h4 := outB_no' h2.1.2
  have h5 := outB_no' h2.2
  exact ⟨h4.1, h4.2, h5.1, h5.2, fun h6 => by
    exact Int.not_le.1 fun h7 => h3 ⟨h6, h7⟩⟩
theorem repF1_zero {P : Int} {l : List Brk} {ads : List AdS} {i : Nat} (h : repF1 P l ads i = 0) : (l.getD i default).be ≤ P ∧ adsF (ads.getD i default).l = 0 := by
  unfold repF1 at h
  split at h
  · simp at h
  · exact ⟨by omega, h⟩
theorem repS_bd {P : Int} {l : List Brk} {ads : List AdS} (hP : 0 ≤ P) (hc : checkB l = 0) : ∀ k, k ≤ l.length → (∀ j, j < k → repF1 P l ads j = 0) → 0 ≤ repS P l ads k ∧ repS P l ads k ≤ P
  | 0, _, _ => ⟨Int.le_refl _, hP⟩
  | k + 1, hk, h => by
    have h1 := (checkB_each hc).2 k (by omega)
    have h2 := repF1_zero (h k (by omega))
    have h3 := sumA_nn fun a ha => (adsF_zero h2.2 a ha).2
    obtain ⟨a1, a2, a3, a4, a5⟩ := h1
    show 0 ≤ min ((l.getD k default).be + sumA (ads.getD k default).l) (repE P (l.getD k default)) ∧ min ((l.getD k default).be + sumA (ads.getD k default).l) (repE P (l.getD k default)) ≤ P
    unfold repE
    by_cases h4 : (l.getD k default).en = -1 ∨ P < (l.getD k default).en
    · rw [if_pos h4]; omega
    · rw [if_neg h4]
      rw [not_or] at h4
      have := a5 h4.1
      omega
theorem repL_PB {P : Int} {l : List Brk} {ads : List AdS} (hP : P ≤ 1000000000000000) (hP0 : 0 ≤ P) (hc : checkB l = 0) : ∀ k, k ≤ l.length → (∀ j, j < k → repF1 P l ads j = 0) → ∀ p, p ∈ repL P l ads k → PB p
  | 0, _, _ => fun p hp => by simp [repL] at hp
  | k + 1, hk, h => by
    have ih := repL_PB hP hP0 hc k (by omega) fun j hj => h j (by omega)
    have h2 := repF1_zero (h k (by omega))
    have hl := repS_bd hP0 hc k (by omega) fun j hj => h j (show j < k + 1 by omega)
    exact ads_PB (prg_PB ih hl.1 (by omega)) h2.2
end Go.Proofs.Ytpdeodoidlcdoaa

/- What is played of the programme when advertisements are put in: plain. -/
namespace Go.Proofs.Ytpdeodoidlcdoaa
open Go.RowKit

def sumAS : List AdS → Int
  | [] => 0
  | y :: r => sumA y.l + sumAS r
theorem sumAS_append : ∀ a b, sumAS (a ++ b) = sumAS a + sumAS b
  | [], b => by simp [sumAS]
  | p :: r, b => by simp [sumAS, sumAS_append r b]; omega
theorem sumAS_take {l : List AdS} {k : Nat} {y : AdS} (hx : l[k]? = some y) : sumAS (l.take (k + 1)) = sumAS (l.take k) + sumA y.l := by
  rw [take_next hx, sumAS_append]; simp [sumAS]

theorem sumL_set : ∀ {l : List Prt} {i : Nat} {p q : Prt}, l[i]? = some p → sumL (l.set i q) = sumL l - p.ln + q.ln
  | [], i, p, q, h => by simp at h
  | z :: r, 0, p, q, h => by
    simp at h; subst h
    simp [sumL]; omega
  | z :: r, i + 1, p, q, h => by
    have := sumL_set (l := r) (i := i) (q := q) (by simpa using h)
    simp only [List.set_cons_succ, sumL, this]
    omega
theorem sumL_prg (l : List Prt) (a b : Int) (h : a ≤ b) : sumL (prg l a b) = sumL l + (b - a) := by
  unfold prg
  split
  · omega
  · split
    · rename_i hm
      obtain ⟨q, hq, _⟩ := mrg_some hm
      rw [getD_of hq, sumL_set hq]
      simp only
      omega
    · rw [sumL_append]; simp [sumL]
theorem insL_sum {P : Int} {at_ : List Int} {ads : List AdS} (hlen : at_.length = ads.length) : ∀ k, k ≤ at_.length → (∀ j, j < k → insF1 P at_ ads j = 0) → sumL (insL at_ ads k) = lastI at_ k + sumAS (ads.take k)
  | 0, _, _ => by simp [insL, sumL, lastI, sumAS]
  | k + 1, hk, h => by
    obtain ⟨y, hy⟩ : ∃ x, ads[k]? = some x := ⟨ads[k]'(by omega), by simp⟩
    have ih := insL_sum hlen k (by omega) fun j hj => h j (by omega)
    have h1 := insF1_zero (h k (by omega))
    have h2 : lastI at_ k ≤ at_.getD k 0 := by
      unfold lastI
      split
      · omega
      · have := h1.2.2.1 (by omega); omega
    rw [insL, sumL_append, sumL_prg _ _ _ h2, ih, sumL_adP, getD_of hy, sumAS_take hy]
    have : lastI at_ (k + 1) = at_.getD k 0 := by rw [lastI, if_neg (by omega), Nat.add_sub_cancel]
    rw [this]
    omega

/-- Each tick from 0 up to b at which Q does not hold is played. -/
def Cov (Q : Int → Prop) (l : List Prt) (b : Int) : Prop := ∀ t, 0 ≤ t → t < b → ¬ Q t → ∃ (i : Nat) (p : Prt), l[i]? = some p ∧ stHit p t = true
theorem Cov.append {Q : Int → Prop} {l m : List Prt} {b : Int} (h : Cov Q l b) : Cov Q (l ++ m) b := fun t h0 h1 h2 => by
  obtain ⟨i, p, hx, hp⟩ := h t h0 h1 h2
  have hi : i < l.length := (List.getElem?_eq_some_iff.1 hx).1
  exact ⟨i, p, by rw [List.getElem?_append_left hi]; exact hx, hp⟩
theorem Cov.prg {Q : Int → Prop} {l : List Prt} {a b : Int} (h : Cov Q l a) (hpb : ∀ p, p ∈ l → PB p) : Cov Q (prg l a b) b := fun t h0 h1 h2 => by
  unfold Go.Proofs.Ytpdeodoidlcdoaa.prg
  split
  · exact h t h0 (by omega) h2
  · rename_i hab
    split
    · rename_i hm
      obtain ⟨q, hq, hq1, hq2⟩ := mrg_some hm
      rw [getD_of hq]
      have hlt : l.length - 1 < l.length := (List.getElem?_eq_some_iff.1 hq).1
      by_cases hta : t < a
      · obtain ⟨i, p, hx, hp⟩ := h t h0 hta h2
        by_cases e : i = l.length - 1
        · subst e
          have := hq.symm.trans hx
          simp only [Option.some.injEq] at this
          subst this
          refine ⟨_, _, List.getElem?_set_self hlt, ?_⟩
          unfold stHit at hp ⊢
          simp only [Bool.and_eq_true, decide_eq_true_eq] at hp ⊢
          refine ⟨⟨hq1, hp.1.2⟩, by omega⟩
        · exact ⟨i, p, by rw [List.getElem?_set_ne (by omega)]; exact hx, hp⟩
      · refine ⟨_, _, List.getElem?_set_self hlt, ?_⟩
        have hq3 := (hpb q (List.mem_of_getElem? hq)).2.1
        unfold stHit
        simp only [Bool.and_eq_true, decide_eq_true_eq]
        exact ⟨⟨hq1, by omega⟩, by omega⟩
    · by_cases hta : t < a
      · exact (h.append (m := [⟨emp, a, b - a⟩])) t h0 hta h2
      · refine ⟨l.length, _, by rw [List.getElem?_append_right (Nat.le_refl _), Nat.sub_self]; rfl, ?_⟩
        unfold stHit
        rw [noAd_emp]
        simp
        omega

theorem insL_cov {P : Int} {at_ : List Int} {ads : List AdS} (hP : P ≤ 1000000000000000) (hP0 : 0 ≤ P) : ∀ k, (∀ j, j < k → insF1 P at_ ads j = 0) → Cov (fun _ => False) (insL at_ ads k) (lastI at_ k)
  | 0, _ => fun t h0 h1 => by simp [lastI] at h1; omega
  | k + 1, h => by
    have ih := insL_cov hP hP0 k fun j hj => h j (by omega)
    have hpb := insL_PB hP hP0 k fun j hj => h j (by omega)
    have e : lastI at_ (k + 1) = at_.getD k 0 := by rw [lastI, if_neg (by omega), Nat.add_sub_cancel]
    rw [insL, e]
    exact (ih.prg hpb).append

/-- Is a tick in one of the first k breaks? -/
def inBr (l : List Brk) (k : Nat) (t : Int) : Prop := ∃ i, i < k ∧ (l.getD i default).be ≤ t ∧ (t < (l.getD i default).en ∨ (l.getD i default).en = -1)
theorem repL_cov {P : Int} {l : List Brk} {ads : List AdS} (hP : P ≤ 1000000000000000) (hP0 : 0 ≤ P) (hc : checkB l = 0) : ∀ k, k ≤ l.length → (∀ j, j < k → repF1 P l ads j = 0) → Cov (inBr l k) (repL P l ads k) (repS P l ads k)
  | 0, _, _ => fun t h0 h1 => by simp [repS] at h1; omega
  | k + 1, hk, h => by
    have ih := repL_cov hP hP0 hc k (by omega) fun j hj => h j (by omega)
    have hpb := repL_PB hP hP0 hc k (by omega) fun j hj => h j (by omega)
    have h2 := (ih.prg (b := (l.getD k default).be) hpb).append (m := ((ads.getD k default).l).map adP)
    intro t h0 h1 hq
    by_cases ht : t < (l.getD k default).be
    · exact h2 t h0 ht fun ⟨i, hi, hr⟩ => hq ⟨i, by omega, hr⟩
    · exfalso
      refine hq ⟨k, by omega, by omega, ?_⟩
      have h3 : t < repE P (l.getD k default) := by
        have h4 : repS P l ads (k + 1) = min ((l.getD k default).be + sumA (ads.getD k default).l) (repE P (l.getD k default)) := rfl
        rw [h4] at h1; omega
      unfold repE at h3
      split at h3
      · rename_i h5
        rcases h5 with h5 | h5
        · exact .inr h5
        · left; omega
      · exact .inl h3

theorem placeN_at : ∀ {l : List Prt} {i : Nat} {p : Prt} {d : Int}, l[i]? = some p → 0 ≤ d → d < p.ln → (∀ q, q ∈ l → 1 ≤ q.ln) → placeN l (sumL (l.take i) + d) = (i, d)
  | [], i, p, d, h, _, _, _ => by simp at h
  | z :: r, 0, p, d, h, h0, h1, _ => by
    simp at h; subst h
    simp only [List.take_zero, sumL, Int.zero_add]
    rw [placeN, if_pos h1]
  | z :: r, i + 1, p, d, h, h0, h1, h2 => by
    have ih := placeN_at (l := r) (i := i) (p := p) (d := d) (by simpa using h) h0 h1 (fun q hq => h2 q (by simp [hq]))
    have hz := h2 z (by simp)
    have hs : 0 ≤ sumL (r.take i) := by
      have : ∀ m : List Prt, (∀ q, q ∈ m → 1 ≤ q.ln) → 0 ≤ sumL m := by
        intro m
        induction m with
        | nil => intro _; simp [sumL]
        | cons a b ihm => intro hm; have := ihm (fun q hq => hm q (by simp [hq])); have := hm a (by simp); simp only [sumL]; omega
      exact this _ fun q hq => h2 q (by simp [List.mem_of_mem_take hq])
    simp only [List.take_succ_cons, sumL]
    rw [placeN, if_neg (by omega), show z.ln + sumL (r.take i) + d - z.ln = sumL (r.take i) + d by omega, ih]

/-- What is known of a tick that is played. -/
theorem played_at {l : List Prt} {t : Int} {i : Nat} {p : Prt} (hc : checkP l = 0) (h0 : 0 ≤ t) (h1 : t ≤ 1000000000000000) (hx : l[i]? = some p) (hp : stHit p t = true) :
    ∃ s, timeF l t = 0 ∧ stitL l t = [s] ∧ placeF l s = 0 ∧ progB l s = true ∧ progV l s = t := by
  have hn := hp
  unfold stHit at hn
  simp only [Bool.and_eq_true, decide_eq_true_eq] at hn
  have hi : i < l.length := (List.getElem?_eq_some_iff.1 hx).1
  have htf : timeF l t = 0 := by
    unfold timeF
    rw [if_neg (by simp [hc]), if_neg (by simp [outB]; omega)]
  have hb := checkP_bd hc
  have hpl := placeN_at hx (d := t - p.fr) (by omega) (by omega) (fun q hq => (hb q hq).1)
  have hs0 := (sumL_bd (l := l.take i) fun q hq => hb q (List.mem_of_mem_take hq)).1
  have hs1 : sumL (l.take i) + (t - p.fr) ≤ 1000000000000000 := by
    have h2 := sumL_take hx
    have h3 := sumL_mono hb (a := i + 1) (b := l.length) (by omega)
    rw [List.take_length] at h3
    have h4 := (checkP_parts hc).2.2.1
    omega
  have htf2 : timeF l (sumL (l.take i) + (t - p.fr)) = 0 := by
    unfold timeF
    rw [if_neg (by simp [hc]), if_neg (by simp [outB]; omega)]
  have hpf : placeF l (sumL (l.take i) + (t - p.fr)) = 0 := by
    unfold placeF
    rw [if_neg (by simp [htf2]), hpl, if_neg (by simp; omega)]
  refine ⟨_, htf, by rw [stitL, if_pos htf, stF_of hc hx hp], hpf, ?_, ?_⟩
  · unfold progB
    rw [hpf, hpl]
    simp only [getD_of hx, hn.1.1]
    rfl
  · unfold progV
    rw [if_pos hpf, hpl]
    simp only [getD_of hx, hn.1.1, if_true]
    omega

theorem stF_len (l : List Prt) (t : Int) : (stF l t).length ≤ 1 := by
  have : ∀ (m : List Prt) (b : Int), (stL t b m).length ≤ 1 := by
    intro m
    induction m with
    | nil => intro b; simp [stL]
    | cons p r ih =>
      intro b
      unfold stL
      split
      · simp
      · exact ih _
  exact this l 0

/-- What Inserted makes sure of. -/
theorem keeps_all {P : Int} {at_ : List Int} {ads : List AdS} (h : insRF P at_ ads = 0) :
    insRL P at_ ads = insZ P at_ ads ∧ checkP (insZ P at_ ads) = 0 ∧ sumL (insZ P at_ ads) = P + sumAS ads ∧ 0 ≤ P ∧ P ≤ 1000000000000000 ∧ (∀ y, y ∈ ads → ∀ a, a ∈ y.l → 1 ≤ a.ln ∧ a.ln ≤ 1000000000000000) ∧
      ∀ t, 0 ≤ t → t < P → ∃ s, timeF (insZ P at_ ads) t = 0 ∧ stitL (insZ P at_ ads) t = [s] ∧ placeF (insZ P at_ ads) s = 0 ∧ progB (insZ P at_ ads) s = true ∧ progV (insZ P at_ ads) s = t := by
  have hf0 : insF0 P at_ ads = 0 := by
    unfold insRF at h
    split at h
    · rename_i h1; exact absurd h h1
    · rename_i h1; simpa using h1
  have hch : checkP (insZ P at_ ads) = 0 := by
    unfold insRF at h
    rw [if_neg (by simp [hf0])] at h
    exact h
  have hl : insRL P at_ ads = insZ P at_ ads := by
    unfold insRL rightL
    rw [if_neg (by simp [hf0]), if_pos hch]
  unfold insF0 at hf0
  split at hf0
  · simp at hf0
  rename_i h1
  have hP := outB_no' h1
  split at hf0
  · simp at hf0
  rename_i h2
  have hlen : at_.length = ads.length := by simpa using h2
  split at hf0
  · simp at hf0
  have hz := FF_eq_zero hf0
  have hla := lastI_bd hP.1 hz
  have hsum := insL_sum hlen at_.length (Nat.le_refl _) hz
  have hpb := insL_PB hP.2 hP.1 _ hz
  have hcov := (insL_cov hP.2 hP.1 _ hz).prg (b := P) hpb
  refine ⟨hl, hch, ?_, hP.1, hP.2, ?_, fun t h0 h1 => ?_⟩
  · rw [insZ, sumL_prg _ _ _ hla.2, hsum, hlen, List.take_length]
    omega
  · intro y hy a ha
    obtain ⟨j, hj, rfl⟩ := List.mem_iff_getElem.1 hy
    have h3 := insF1_zero (hz j (by omega))
    rw [getD_of (List.getElem?_eq_getElem hj)] at h3
    exact (adsF_zero h3.2.2.2 a ha).2
  · obtain ⟨i, p, hx, hp⟩ := hcov t h0 h1 (fun h => h)
    exact played_at hch h0 (by omega) hx hp

/-- What Replaced makes sure of. -/
theorem goes_on {P : Int} {l : List Brk} {ads : List AdS} (h : repRF P l ads = 0) :
    repRL P l ads = repZ P l ads ∧ checkP (repZ P l ads) = 0 ∧ 0 ≤ P ∧ P ≤ 1000000000000000 ∧
      ∀ t, 0 ≤ t → t < P → timeF (repZ P l ads) t = 0 ∧ (stitL (repZ P l ads) t).length ≤ 1 ∧ (¬ inBr l l.length t → (stitL (repZ P l ads) t).length = 1) := by
  have hf0 : repF0 P l ads = 0 := by
    unfold repRF at h
    split at h
    · rename_i h1; exact absurd h h1
    · rename_i h1; simpa using h1
  have hch : checkP (repZ P l ads) = 0 := by
    unfold repRF at h
    rw [if_neg (by simp [hf0])] at h
    exact h
  have hl : repRL P l ads = repZ P l ads := by
    unfold repRL rightL
    rw [if_neg (by simp [hf0]), if_pos hch]
  unfold repF0 at hf0
  split at hf0
  · simp at hf0
  rename_i h1
  have hP := outB_no' h1
  split at hf0
  · simp at hf0
  split at hf0
  · rename_i h3; exact absurd hf0 h3
  rename_i h3
  have hcb : checkB l = 0 := by simpa using h3
  have hz := FF_eq_zero hf0
  have hpb := repL_PB hP.2 hP.1 hcb _ (Nat.le_refl _) hz
  have hcov := (repL_cov hP.2 hP.1 hcb _ (Nat.le_refl _) hz).prg (b := P) hpb
  refine ⟨hl, hch, hP.1, hP.2, fun t h0 h1 => ?_⟩
  have htf : timeF (repZ P l ads) t = 0 := by
    unfold timeF
    rw [if_neg (by simp [hch]), if_neg (by simp [outB]; omega)]
  refine ⟨htf, ?_, fun hq => ?_⟩
  · rw [stitL, if_pos htf]; exact stF_len _ _
  · obtain ⟨i, p, hx, hp⟩ := hcov t h0 h1 hq
    obtain ⟨s, _, h5, _⟩ := played_at hch h0 (by omega) hx hp
    rw [h5]; rfl
end Go.Proofs.Ytpdeodoidlcdoaa

/- Breaks that are filled leave a programme as long as it was: plain. -/
namespace Go.Proofs.Ytpdeodoidlcdoaa
open Go.RowKit

theorem nameB_noAd {p : Prt} (h : nameB p.ad = true) : noAd p = false := by
  have h0 : 0 < p.ad.size := by
    unfold nameB at h
    simp only [Bool.and_eq_true, decide_eq_true_eq] at h
    exact h.1.1.1
  unfold noAd
  rw [ByteArray.toList_eq, List.isEmpty_eq_false_iff]
  intro e
  have h1 : p.ad.size = 0 := by
    show p.ad.data.size = 0
    rw [← Array.length_toList, e]
    rfl
  omega
theorem pf_ok {p : Prt} (h0 : noAd p = true ∨ nameB p.ad = true) (h1 : 1 ≤ p.ln) (h2 : 0 ≤ p.fr) (h3 : p.fr + p.ln ≤ 1000000000000000) (h4 : noAd p = true ∨ p.fr = 0) : pf p = 0 := by
  unfold pf
  rw [if_neg, if_neg, if_neg]
  · rcases h4 with h | h <;> simp [h]
  · unfold outB
    simp only [Bool.or_eq_true, decide_eq_true_eq]
    omega
  · rcases h0 with h | h <;> simp [h]
theorem cpOf_ok {p : Prt} {e : Int} (h : pf p = 0) (h2 : noAd p = true → e ≤ p.fr) : cpOf p e = 0 := by
  unfold cpOf
  rw [if_neg (by simp [h]), if_neg]
  simp only [Bool.and_eq_true, decide_eq_true_eq, not_and]
  intro h3
  have := h2 h3
  omega
theorem cpOf_no {p : Prt} {e : Int} (h : cpOf p e = 0) : pf p = 0 ∧ (noAd p = true → e ≤ p.fr) := by
  unfold cpOf at h
  split at h
  · rename_i h1; exact absurd h h1
  rename_i h1
  split at h
  · simp at h
  rename_i h2
  simp only [Bool.and_eq_true, decide_eq_true_eq, not_and] at h2
  exact ⟨by simpa using h1, fun h3 => by have := h2 h3; omega⟩
theorem cpAt_left {l m : List Prt} {i : Nat} (h : i < l.length) : cpAt (l ++ m) i = cpAt l i := by
  unfold cpAt
  rw [List.getD_eq_getElem?_getD, List.getD_eq_getElem?_getD, List.getElem?_append_left h, List.take_append_of_le_length (by omega)]
theorem cpAt_snoc (l : List Prt) (p : Prt) : cpAt (l ++ [p]) l.length = cpOf p (endL 0 l) := by
  unfold cpAt
  rw [List.getD_eq_getElem?_getD, List.getElem?_append_right (Nat.le_refl _)]
  simp
/-- Parts that stand right, those of the programme up to a tick. -/
def TlR (l : List Prt) (e : Int) : Prop := (∀ i, i < l.length → cpAt l i = 0) ∧ endL 0 l ≤ e
theorem TlR.snoc {l : List Prt} {e : Int} {p : Prt} (h : TlR l e) (hp : pf p = 0) (h2 : noAd p = true → endL 0 l ≤ p.fr) : TlR (l ++ [p]) (if noAd p = true then p.fr + p.ln else e) := by
  refine ⟨fun i hi => ?_, ?_⟩
  · rw [List.length_append, List.length_singleton] at hi
    by_cases h3 : i < l.length
    · rw [cpAt_left h3]; exact h.1 i h3
    · obtain rfl : i = l.length := by omega
      rw [cpAt_snoc]
      exact cpOf_ok hp h2
  · rw [endL_append]
    show (if noAd p = true then p.fr + p.ln else endL 0 l) ≤ _
    have := h.2
    split <;> omega
theorem TlR.mono {l : List Prt} {e f : Int} (h : TlR l e) (hf : e ≤ f) : TlR l f := ⟨h.1, Int.le_trans h.2 hf⟩
theorem TlR.ads {e : Int} : ∀ {a : List Adv} {l : List Prt}, TlR l e → (∀ x, x ∈ a → nameB x.na = true ∧ 1 ≤ x.ln ∧ x.ln ≤ 1000000000000000) → TlR (l ++ a.map adP) e
  | [], l, h, _ => by simpa using h
  | x :: r, l, h, ha => by
    obtain ⟨h1, h2, h3⟩ := ha x (by simp)
    have hn : noAd (adP x) = false := nameB_noAd (p := adP x) h1
    have h4 := h.snoc (p := adP x) (pf_ok (.inr h1) h2 (Int.le_refl 0) (by show (0 : Int) + x.ln ≤ _; omega) (.inr rfl)) (fun h5 => by rw [hn] at h5; cases h5)
    rw [hn] at h4
    have h5 := TlR.ads (l := l ++ [adP x]) (a := r) (by simpa using h4) (fun y hy => ha y (by simp [hy]))
    rw [List.map_cons, show l ++ adP x :: r.map adP = (l ++ [adP x]) ++ r.map adP by simp]
    exact h5
theorem TlR.prg {l : List Prt} {a b : Int} (h : TlR l a) (ha : 0 ≤ a) (hab : a ≤ b) (hb : b ≤ 1000000000000000) : TlR (prg l a b) b := by
  unfold Go.Proofs.Ytpdeodoidlcdoaa.prg
  split
  · exact h.mono hab
  rename_i h1
  split
  · rename_i hm
    obtain ⟨q, hq, hq1, hq2⟩ := mrg_some hm
    have hne : l ≠ [] := fun e => by rw [e] at hq; simp at hq
    obtain ⟨m, x, rfl⟩ : ∃ m x, l = m ++ [x] := ⟨l.dropLast, l.getLast hne, (List.dropLast_concat_getLast hne).symm⟩
    have hxq : x = q := by simpa using hq
    subst hxq
    rw [getD_of hq]
    have hs : (m ++ [x]).set ((m ++ [x]).length - 1) ⟨x.ad, x.fr, x.ln + (b - a)⟩ = m ++ [⟨x.ad, x.fr, x.ln + (b - a)⟩] := by
      rw [List.length_append, List.length_singleton, Nat.add_sub_cancel, List.set_append_right _ _ (Nat.le_refl _)]
      simp
    rw [hs]
    have h3 := h.1 m.length (by simp)
    rw [cpAt_snoc] at h3
    obtain ⟨h4, h5⟩ := cpOf_no h3
    obtain ⟨z1, z2, z3, z4, z5, z6, z7⟩ := pf_zero h4
    have hm2 : TlR m (endL 0 m) := ⟨fun i hi => by rw [← cpAt_left (m := [x]) hi]; exact h.1 i (by simp; omega), Int.le_refl _⟩
    have h6 := hm2.snoc (p := ⟨x.ad, x.fr, x.ln + (b - a)⟩) (pf_ok (.inl hq1) (by show 1 ≤ x.ln + (b - a); omega) z4 (by show x.fr + (x.ln + (b - a)) ≤ _; omega) (.inl hq1)) (fun _ => h5 hq1)
    rw [if_pos (show noAd (⟨x.ad, x.fr, x.ln + (b - a)⟩ : Prt) = true from hq1)] at h6
    exact h6.mono (by show x.fr + (x.ln + (b - a)) ≤ b; omega)
  · have h6 := h.snoc (p := ⟨emp, a, b - a⟩) (pf_ok (.inl (noAd_emp _ _)) (by show 1 ≤ b - a; omega) ha (by show a + (b - a) ≤ _; omega) (.inl (noAd_emp _ _))) (fun _ => h.2)
    rw [if_pos (noAd_emp _ _)] at h6
    exact h6.mono (by show a + (b - a) ≤ b; omega)

/-- What CheckBreaks makes sure of neighbours. -/
theorem checkB_all {l : List Brk} (h : checkB l = 0) : l.length ≤ 200 ∧ ∀ i, i < l.length → cbAt l i = 0 := by
  unfold checkB at h
  split at h
  · simp at h
  exact ⟨by omega, FF_eq_zero h⟩
theorem cbOf_zero {x p : Brk} {i : Nat} {tw : Bool} (h : cbOf x p i tw = 0) : (outB x.ev 0 4294967295 = false ∧ (0 ≤ x.be ∧ x.be ≤ 1000000000000000) ∧ (-1 ≤ x.en ∧ x.en ≤ 1000000000000000)) ∧ (x.en = -1 ∨ x.be < x.en) ∧ (0 < i → p.en ≠ -1 ∧ p.en ≤ x.be) ∧ tw = false := by
  unfold cbOf at h
  split at h
  · simp at h
  rename_i h1
  split at h
  · simp at h
  rename_i h2
  split at h
  · simp at h
  rename_i h3
  split at h
  · simp at h
  rename_i h4
  split at h
  · simp at h
  rename_i h5
  simp only [Bool.or_eq_true, not_or] at h1
  obtain ⟨⟨e1, e2⟩, e3⟩ := h1
  refine ⟨⟨by simpa using e1, outB_no' e2, outB_no' e3⟩, ?_, fun hi => ?_, by simpa using h5⟩
  · by_cases e : x.en = -1
    · exact .inl e
    · exact .inr (Int.not_le.1 fun e4 => h2 ⟨e, e4⟩)
  · exact ⟨fun e => h3 ⟨hi, e⟩, by omega⟩
theorem cbOf_ok {x p : Brk} {i : Nat} {tw : Bool} (h1 : outB x.ev 0 4294967295 = false) (h2 : 0 ≤ x.be ∧ x.be ≤ 1000000000000000) (h3 : -1 ≤ x.en ∧ x.en ≤ 1000000000000000) (h4 : x.be < x.en) (h5 : 0 < i → p.en ≠ -1 ∧ p.en ≤ x.be) (h6 : tw = false) : cbOf x p i tw = 0 := by
  subst h6
  unfold cbOf
  rw [if_neg, if_neg, if_neg, if_neg, if_neg]
  · simp
  · rintro ⟨hi, h⟩; have := h5 hi; omega
  · rintro ⟨hi, h⟩; exact (h5 hi).1 h
  · rintro ⟨_, h⟩; omega
  · rw [h1]
    unfold outB
    simp only [Bool.or_eq_true, decide_eq_true_eq, Bool.false_eq_true, false_or]
    omega
theorem takeWhile_pre {p : Brk → Bool} : ∀ (l : List Brk), ∃ k, k ≤ l.length ∧ l.takeWhile p = l.take k ∧ ∀ i x, i < k → l[i]? = some x → p x = true
  | [] => ⟨0, by simp, by simp, fun i x hi => absurd hi (Nat.not_lt_zero _)⟩
  | y :: r => by
    by_cases hy : p y = true
    · obtain ⟨k, h1, h2, h3⟩ := takeWhile_pre (p := p) r
      refine ⟨k + 1, by simp; omega, by rw [List.takeWhile_cons, if_pos hy, h2, List.take_succ_cons], fun i x hi hx => ?_⟩
      cases i with
      | zero => simp at hx; subst hx; exact hy
      | succ i => exact h3 i x (by omega) (by simpa using hx)
    · exact ⟨0, by omega, by rw [List.takeWhile_cons, if_neg hy]; rfl, fun i x hi => absurd hi (Nat.not_lt_zero _)⟩
/-- A break that has an end, and is within an end. -/
def inEnd (e : Int) (x : Brk) : Prop := 0 ≤ x.be ∧ x.be < x.en ∧ x.en ≤ e
theorem short_right {l : List Brk} {e : Int} (h : checkB l = 0) (he : 0 ≤ e ∧ e ≤ 1000000000000000) : shortF l e = 0 ∧ checkB (shortL l e) = 0 ∧ ∀ i, i < (shortL l e).length → inEnd e ((shortL l e).getD i default) := by
  have hF : shortF l e = 0 := by
    unfold shortF
    rw [if_neg (by simp [h]), if_neg]
    unfold outB
    simp only [Bool.or_eq_true, decide_eq_true_eq]
    omega
  obtain ⟨hl, hz⟩ := checkB_all h
  obtain ⟨k, h1, h2, h3⟩ := takeWhile_pre (p := fun b => decide (b.be < e)) l
  have hL : shortL l e = (l.take k).map (cutB e) := by unfold shortL; rw [if_pos hF, h2]
  have hlen : (shortL l e).length = k := by rw [hL]; simp; omega
  have hat : ∀ i, i < k → (shortL l e).getD i default = cutB e (l.getD i default) := fun i hi => by
    rw [hL, List.getD_eq_getElem?_getD, List.getElem?_map, List.getElem?_take, if_pos hi, List.getD_eq_getElem?_getD, List.getElem?_eq_getElem (show i < l.length by omega)]
    rfl
  have hbe : ∀ i, i < k → (l.getD i default).be < e := fun i hi => by
    have hx : l[i]? = some (l.getD i default) := by rw [List.getD_eq_getElem?_getD, List.getElem?_eq_getElem (show i < l.length by omega)]; rfl
    have := h3 i _ hi hx
    simpa using this
  have hcut : ∀ x : Brk, (cutB e x).ev = x.ev ∧ (cutB e x).be = x.be ∧ ((cutB e x).en = e ∨ ((cutB e x).en = x.en ∧ x.en ≠ -1 ∧ x.en ≤ e)) := fun x => by
    unfold cutB
    split
    · exact ⟨rfl, rfl, .inl rfl⟩
    · rename_i h4
      simp only [Bool.or_eq_true, beq_iff_eq, decide_eq_true_eq, not_or] at h4
      exact ⟨rfl, rfl, .inr ⟨rfl, h4.1, by omega⟩⟩
  have hin : ∀ i, i < k → inEnd e (cutB e (l.getD i default)) := fun i hi => by
    obtain ⟨⟨_, a2, a3⟩, a4, _, _⟩ := cbOf_zero (hz i (by omega))
    obtain ⟨_, c2, c3⟩ := hcut (l.getD i default)
    have := hbe i hi
    unfold inEnd
    rw [c2]
    rcases c3 with c3 | ⟨c3, c4, c5⟩
    · rw [c3]; omega
    · rw [c3]; rcases a4 with a4 | a4
      · exact absurd a4 c4
      · omega
  refine ⟨hF, ?_, fun i hi => by rw [hlen] at hi; rw [hat i hi]; exact hin i hi⟩
  unfold checkB
  rw [if_neg (by omega)]
  refine FF_zero fun i hi => ?_
  rw [hlen] at hi
  obtain ⟨⟨a1, a2, a3⟩, a4, a5, a6⟩ := cbOf_zero (hz i (by omega))
  have b1 := hin i hi
  unfold inEnd at b1
  obtain ⟨c1, c2, _⟩ := hcut (l.getD i default)
  unfold cbAt
  rw [hat i hi]
  refine cbOf_ok (by rw [c1]; exact a1) (by rw [c2]; exact a2) (by omega) b1.2.1 (fun h0 => ?_) ?_
  · rw [hat (i - 1) (by omega), c2]
    obtain ⟨q1, q2⟩ := a5 h0
    obtain ⟨_, _, d3⟩ := hcut (l.getD (i - 1) default)
    have d4 := hin (i - 1) (by omega)
    unfold inEnd at d4
    have := hbe i hi
    rcases d3 with d3 | ⟨d3, _, _⟩
    · have e1 : (cutB e (l.getD (i - 1) default)).en = (l.getD (i - 1) default).en := by
        unfold cutB
        rw [if_neg]
        simp only [Bool.or_eq_true, beq_iff_eq, decide_eq_true_eq, not_or]
        exact ⟨q1, by omega⟩
      rw [e1]
      exact ⟨q1, q2⟩
    · rw [d3]
      exact ⟨q1, q2⟩
  · rw [c1, hL, ← List.map_take, List.take_take, Nat.min_eq_left (by omega), List.any_map, ← a6]
    congr 1
    funext o
    show ((cutB e o).ev == _) = _
    rw [(hcut o).1]

/-- The advertisements of a choice. -/
def chosA (l : List Adv) (B : List Int) : List Adv := B.map (adAt l)
theorem sumA_chos (l : List Adv) : ∀ B : List Int, sumA (chosA l B) = selL l B
  | [] => rfl
  | k :: r => by
    have := sumA_chos l r
    simp only [chosA, selL, List.map_cons, List.sum_cons, sumA] at this ⊢
    rw [this]
theorem chos_ok {l : List Adv} {m : Int} {B : List Int} (hf : fillF l m = 0) (hB : okL l m B) : adsF (chosA l B) = 0 ∧ sumA (chosA l B) ≤ m ∧ (chosA l B).length ≤ 16 := by
  obtain ⟨h16, hg⟩ := adsG_zero (fillF_zero hf).1
  refine ⟨FF_zero fun j hj => ?_, by rw [sumA_chos]; exact hB.len, ?_⟩
  · obtain ⟨x, hx⟩ : ∃ x, (chosA l B)[j]? = some x := ⟨(chosA l B)[j], by simp [hj]⟩
    rw [getD_of hx]
    have hm := List.mem_of_getElem? hx
    unfold chosA at hm
    obtain ⟨k, hk, rfl⟩ := List.mem_map.1 hm
    obtain ⟨k0, k1⟩ := hB.rng k hk
    have hmem : adAt l k ∈ l := by
      unfold adAt
      rw [getD_of (List.getElem?_eq_getElem (by omega : k.toNat < l.length))]
      exact List.getElem_mem _
    obtain ⟨g1, g2, _⟩ := hg _ hmem
    have hn : nameB (adAt l k).na = true := by
      unfold nmA at g1
      simp only [Bool.and_eq_true] at g1
      exact g1.1
    unfold adF
    rw [if_neg (by simp [hn]), if_neg]
    unfold outB
    simp only [Bool.or_eq_true, decide_eq_true_eq]
    omega
  · have h1 : ∀ (B : List Int) (b : Int), 0 ≤ b → B.Pairwise (· < ·) → (∀ k, k ∈ B → b ≤ k ∧ k < l.length) → b + B.length ≤ max b l.length := by
      intro B
      induction B with
      | nil => intro b _ _ _; simp; omega
      | cons x r ih =>
        intro b hb hp hr
        rw [List.pairwise_cons] at hp
        have hx := hr x (by simp)
        have := ih (x + 1) (by omega) hp.2 (fun k hk => ⟨by have := hp.1 k hk; omega, (hr k (by simp [hk])).2⟩)
        rw [List.length_cons]
        omega
    have h2 := h1 B 0 (Int.le_refl 0) hB.inc hB.rng
    unfold chosA
    rw [List.length_map]
    omega

theorem repL_R {P : Int} {l : List Brk} {ads : List AdS} (hP : P ≤ 1000000000000000) (hP0 : 0 ≤ P) (hc : checkB l = 0) (hin : ∀ i, i < l.length → inEnd P (l.getD i default))
    (hfit : ∀ i, i < l.length → adsF (ads.getD i default).l = 0 ∧ sumA (ads.getD i default).l ≤ (l.getD i default).en - (l.getD i default).be) :
    ∀ k, k ≤ l.length → (0 ≤ repS P l ads k ∧ repS P l ads k ≤ P ∧ ∀ j, j + 1 = k → repS P l ads k ≤ (l.getD j default).en) ∧ sumL (repL P l ads k) = repS P l ads k ∧ TlR (repL P l ads k) (repS P l ads k)
  | 0, _ => ⟨⟨Int.le_refl _, hP0, fun j hj => by omega⟩, rfl, fun i hi => absurd hi (Nat.not_lt_zero _), Int.le_refl _⟩
  | k + 1, hk => by
    obtain ⟨⟨i1, i2, i3⟩, i4, i5⟩ := repL_R hP hP0 hc hin hfit k (by omega)
    obtain ⟨_, hz⟩ := checkB_all hc
    obtain ⟨_, _, a5, _⟩ := cbOf_zero (hz k (by omega))
    have hq := hin k (by omega)
    unfold inEnd at hq
    obtain ⟨f1, f2⟩ := hfit k (by omega)
    have hall := adsF_zero f1
    have hnn := sumA_nn fun a ha => (hall a ha).2
    have hSb : repS P l ads k ≤ (l.getD k default).be := by
      cases k with
      | zero => show (0 : Int) ≤ _; omega
      | succ j =>
        have h1 := i3 j rfl
        have h2 := a5 (by omega)
        rw [Nat.add_sub_cancel] at h2
        omega
    have hS : repS P l ads (k + 1) = (l.getD k default).be + sumA (ads.getD k default).l := by
      show min ((l.getD k default).be + sumA (ads.getD k default).l) (repE P (l.getD k default)) = _
      unfold repE
      rw [if_neg (by omega)]
      omega
    rw [hS]
    refine ⟨⟨by omega, by omega, fun j hj => ?_⟩, ?_, ?_⟩
    · obtain rfl : j = k := by omega
      omega
    · show sumL (prg (repL P l ads k) (repS P l ads k) (l.getD k default).be ++ ((ads.getD k default).l).map adP) = _
      rw [sumL_append, sumL_prg _ _ _ hSb, i4, sumL_adP]
      omega
    · show TlR (prg (repL P l ads k) (repS P l ads k) (l.getD k default).be ++ ((ads.getD k default).l).map adP) _
      exact (TlR.ads (i5.prg i1 hSb (by omega)) hall).mono (by omega)
/-- A programme whose breaks are filled is as long as it was. -/
theorem filled_sum {P : Int} {l : List Brk} {ads : List AdS} (hP : P ≤ 1000000000000000) (hP0 : 0 ≤ P) (hc : checkB l = 0) (hlen : l.length = ads.length) (hin : ∀ i, i < l.length → inEnd P (l.getD i default))
    (hfit : ∀ i, i < l.length → adsF (ads.getD i default).l = 0 ∧ sumA (ads.getD i default).l ≤ (l.getD i default).en - (l.getD i default).be) :
    repRF P l ads = 2 ∨ (repRF P l ads = 0 ∧ checkP (repRL P l ads) = 0 ∧ sumL (repRL P l ads) = P) := by
  obtain ⟨⟨i1, i2, _⟩, i4, i5⟩ := repL_R hP hP0 hc hin hfit l.length (Nat.le_refl _)
  have h0 : repF0 P l ads = 0 := by
    unfold repF0
    rw [if_neg, if_neg (by simp [hlen]), if_neg (by simp [hc])]
    · refine FF_zero fun j hj => ?_
      have hq := hin j hj
      unfold inEnd at hq
      unfold repF1
      rw [if_neg (by omega)]
      exact (hfit j hj).1
    · unfold outB
      simp only [Bool.or_eq_true, decide_eq_true_eq]
      omega
  have hF : repRF P l ads = checkP (repZ P l ads) := by unfold repRF; rw [if_neg (by simp [h0])]
  have hL : repRL P l ads = rightL (repZ P l ads) := by unfold repRL; rw [if_neg (by simp [h0])]
  have hs : sumL (repZ P l ads) = P := by unfold repZ; rw [sumL_prg _ _ _ i2, i4]; omega
  have hr : TlR (repZ P l ads) P := by unfold repZ; exact i5.prg i1 i2 hP
  rw [hF, hL]
  by_cases h1 : 1000 < (repZ P l ads).length
  · exact .inl (by unfold checkP; rw [if_pos h1])
  · have hz : checkP (repZ P l ads) = 0 := by
      unfold checkP
      rw [if_neg h1, if_neg (by simp [FF_zero hr.1]), if_neg (by omega)]
    refine .inr ⟨hz, ?_⟩
    unfold rightL
    rw [if_pos hz]
    exact ⟨hz, hs⟩
theorem repRF_out {P : Int} {l : List Brk} {ads : List AdS} (h : outB P 0 1000000000000000 = true) : repRF P l ads = 1 := by
  have h0 : repF0 P l ads = 1 := by unfold repF0; rw [if_pos h]
  unfold repRF
  rw [if_pos (by simp [h0]), h0]
end Go.Proofs.Ytpdeodoidlcdoaa

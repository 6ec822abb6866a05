/- Programme of the reference: what it returns. -/
import Derived.Test.YtpdeodoidlcdoaaG16
namespace Go.Proofs.Ytpdeodoidlcdoaa
open Go.RowKit

theorem endL_none : ∀ {l : List Prt} {e : Int}, (∀ p, p ∈ l → noAd p = false) → endL e l = e
  | [], _, _ => rfl
  | p :: r, e, h => by
    rw [endL, if_neg (by rw [h p (by simp)]; simp)]
    exact endL_none fun q hq => h q (by simp [hq])

end Go.Proofs.Ytpdeodoidlcdoaa

/- Due of the program: what it returns. -/
namespace Go.Proofs.Ytpdeodoidlcdoaa
open Go.RowKit
theorem dueF_time (l : List Prt) (a b : Int) : dueF l a b = if timeF l a ≠ 0 then timeF l a else if outB b a 1000000000000000 = true then 1 else 0 := by
  unfold dueF timeF
  by_cases h : checkP l = 0
  · rw [h]
    cases outB a 0 1000000000000000 <;> cases outB b a 1000000000000000 <;> simp
  · simp [h]

end Go.Proofs.Ytpdeodoidlcdoaa

/- Stitched, of the program and of the reference. -/
namespace Go.Proofs.Ytpdeodoidlcdoaa
open Go.RowKit

/-- Is a tick of the programme in a part? -/
def stHit (p : Prt) (t : Int) : Bool := noAd p && decide (p.fr ≤ t) && decide (t < p.fr + p.ln)
def stL (t : Int) : Int → List Prt → List Int
  | _, [] => []
  | b, p :: r => if stHit p t = true then [b + (t - p.fr)] else stL t (b + p.ln) r
def stF (l : List Prt) (t : Int) : List Int := stL t 0 l
def stitL (l : List Prt) (t : Int) : List Int := if timeF l t = 0 then stF l t else []
def StAt (l : List Prt) (t : Int) (k : Nat) : Prop := stF l t = stL t (sumL (l.take k)) (l.drop k)
theorem StAt.start (l : List Prt) (t : Int) : StAt l t 0 := rfl
theorem StAt.hit {l : List Prt} {t : Int} {k : Nat} {p : Prt} (h : StAt l t k) (hx : l[k]? = some p) (hu : stHit p t = true) : stF l t = [sumL (l.take k) + (t - p.fr)] := by
  unfold StAt at h
  rw [h, drop_next hx, stL, if_pos hu]
theorem StAt.next {l : List Prt} {t : Int} {k : Nat} {p : Prt} (h : StAt l t k) (hx : l[k]? = some p) (hu : stHit p t = false) : StAt l t (k + 1) := by
  unfold StAt at h ⊢
  rw [h, drop_next hx, stL, if_neg (by rw [hu]; simp), sumL_take hx]
theorem StAt.done {l : List Prt} {t : Int} (h : StAt l t l.length) : stF l t = [] := by
  unfold StAt at h
  rw [h, List.drop_length, stL]

/-- Parts of the programme end before what is behind them begins. -/
theorem ends_le {l : List Prt} (h : checkP l = 0) : ∀ k, k ≤ l.length → ∀ i p, l[i]? = some p → i < k → noAd p = true → p.fr + p.ln ≤ endL 0 (l.take k)
  | 0, _, i, p, _, hi, _ => by omega
  | k + 1, hk, i, p, hx, hi, hn => by
    obtain ⟨q, hq⟩ : ∃ x, l[k]? = some x := ⟨l[k]'(by omega), by simp⟩
    rw [endL_take 0 hq]
    by_cases e : i = k
    · subst e
      have := hq.symm.trans hx
      simp at this; subst this
      rw [if_pos hn]; exact Int.le_refl _
    · have ih := ends_le h k (by omega) i p hx (by omega) hn
      have hc := (checkP_parts h).2.2.2 k (by omega)
      have hpf := pf_all h q (List.mem_of_getElem? hq)
      unfold cpAt cpOf at hc
      rw [List.getD_eq_getElem?_getD, hq, Option.getD_some] at hc
      split
      · rename_i hnq
        split at hc
        · rename_i h1; exact absurd hc h1
        split at hc
        · simp at hc
        rename_i h2
        rw [hnq] at h2
        simp at h2
        omega
      · exact ih
theorem hits_one {l : List Prt} (h : checkP l = 0) {t : Int} {i k : Nat} {p q : Prt} (hx : l[i]? = some p) (hy : l[k]? = some q) (hik : i < k) (hp : stHit p t = true) : stHit q t = false := by
  have hk : k < l.length := (List.getElem?_eq_some_iff.1 hy).1
  unfold stHit at hp ⊢
  simp only [Bool.and_eq_true, decide_eq_true_eq] at hp
  have h1 := ends_le h k (by omega) i p hx hik hp.1.1
  have hc := (checkP_parts h).2.2.2 k hk
  unfold cpAt cpOf at hc
  rw [List.getD_eq_getElem?_getD, hy, Option.getD_some] at hc
  split at hc
  · rename_i h1; exact absurd hc h1
  split at hc
  · simp at hc
  rename_i h2
  cases hq : noAd q
  · simp
  · rw [hq] at h2
    simp at h2
    simp
    omega

def stA (l : List Prt) (t : Int) : Nat → List Int
  | 0 => []
  | k + 1 => stA l t k ++ (if stHit (l.getD k default) t = true then [sumL (l.take k) + (t - (l.getD k default).fr)] else [])
theorem stA_len (l : List Prt) (t : Int) : ∀ k, (stA l t k).length ≤ k
  | 0 => by simp [stA]
  | k + 1 => by
    have := stA_len l t k
    rw [stA, List.length_append]
    split <;> simp <;> omega
theorem stA_inv {l : List Prt} (h : checkP l = 0) (t : Int) : ∀ k, k ≤ l.length → (stA l t k = [] ∧ StAt l t k) ∨ (stA l t k = stF l t ∧ ∃ i p, i < k ∧ l[i]? = some p ∧ stHit p t = true)
  | 0, _ => .inl ⟨rfl, StAt.start l t⟩
  | k + 1, hk => by
    obtain ⟨q, hq⟩ : ∃ x, l[k]? = some x := ⟨l[k]'(by omega), by simp⟩
    have hg : l.getD k default = q := by rw [List.getD_eq_getElem?_getD, hq]; rfl
    rw [stA, hg]
    rcases stA_inv h t k (by omega) with ⟨h1, h2⟩ | ⟨h1, i, p, hi, hx, hp⟩
    · rw [h1]
      cases e : stHit q t
      · exact .inl ⟨rfl, h2.next hq e⟩
      · exact .inr ⟨by rw [h2.hit hq e]; rfl, k, q, by omega, hq, e⟩
    · rw [hits_one h hx hq hi hp]
      exact .inr ⟨by simpa using h1, i, p, by omega, hx, hp⟩
theorem stA_all {l : List Prt} (h : checkP l = 0) (t : Int) : stA l t l.length = stF l t := by
  rcases stA_inv h t l.length (Nat.le_refl _) with ⟨h1, h2⟩ | ⟨h1, _⟩
  · rw [h1, h2.done]
  · exact h1

theorem Sl.one1 {w x : World} {o : Obj} {E : TypeId} {a b : Int} (hw : x = ((w.alloc o).alloc (.cells #[.int .i64 a] E)).drew) (h : a = b) : Sl x 1 encI (.slice (some ⟨w.heap.size + 1, 0, none⟩) 1 1) [b] := by
  subst hw h
  have := Sl.fresh encI_len (w.alloc o) E (0, 0) [a] (by simp [maxLen])
  have e : (w.alloc o).heap.size = w.heap.size + 1 := by simp
  rw [e] at this
  exact this

end Go.Proofs.Ytpdeodoidlcdoaa

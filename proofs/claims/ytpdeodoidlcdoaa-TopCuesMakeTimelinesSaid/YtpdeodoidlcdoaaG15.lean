/- starts and begins: where parts begin. -/
import Derived.Test.YtpdeodoidlcdoaaG14
import Derived.Test.YtpdeodoidlcdoaaG04
namespace Go.Proofs.Ytpdeodoidlcdoaa
open Go.RowKit
/-- Where the parts begin, and the end. -/
def startsL (l : List Prt) : Nat → List Int
  | 0 => [0]
  | k + 1 => startsL l k ++ [sumL (l.take (k + 1))]
theorem startsL_len (l : List Prt) : ∀ k, (startsL l k).length = k + 1
  | 0 => rfl
  | k + 1 => by simp [startsL, startsL_len l k]
theorem startsL_get (l : List Prt) : ∀ k i, i ≤ k → (startsL l k)[i]? = some (sumL (l.take i))
  | 0, i, h => by
    obtain rfl : i = 0 := by omega
    simp [startsL, sumL]
  | k + 1, i, h => by
    unfold startsL
    by_cases e : i = k + 1
    · subst e
      rw [List.getElem?_append_right (by rw [startsL_len]; exact Nat.le_refl _), startsL_len]
      simp
    · rw [List.getElem?_append_left (by rw [startsL_len]; omega)]
      exact startsL_get l k i (by omega)

theorem sumL_bd {l : List Prt} (h : ∀ p, p ∈ l → 1 ≤ p.ln ∧ p.ln ≤ 1000000000000000) : (0 ≤ sumL l ∧ sumL l ≤ l.length * 1000000000000000) := by
  induction l with
  | nil => simp [sumL]
  | cons p r ih =>
    have h1 := h p (by simp)
    have h2 := ih (fun q hq => h q (by simp [hq]))
    simp only [sumL, List.length_cons]
    omega

theorem Own.get {α : Type} {w : World} {base : Nat} {E : TypeId} {enc : α → List Value} {v : Value} {l : List α} (hk : ∀ x, (enc x).length = 1) (h : Own w base E 1 enc v l) (hne : l ≠ []) :
    ∃ g cap, v = .slice (some ⟨g, 0, none⟩) l.length cap ∧ base ≤ g ∧ g < w.heap.size ∧ l.length ≤ cap ∧ ∀ i x u, l[i]? = some x → enc x = [u] → w.cell? ⟨g, i, none⟩ = some u := by
  have h0 := h
  obtain ⟨h1, h2⟩ := h
  rcases h2 with ⟨_, h2⟩ | ⟨g, cap, cur, rfl, hg, hh, hn, hm, hs, ht⟩
  · exact absurd (List.length_eq_zero_iff.1 h2) hne
  · refine ⟨g, cap, rfl, hg, (World.ownsRow.lt h0 g rfl).2, hn, fun i x u hx hu => ?_⟩
    have hi : i < l.length := (List.getElem?_eq_some_iff.1 hx).1
    have h3 := World.ownsRow.cellAt h0 i (by omega)
    rw [h3]
    have := flatMap_get hk l i 0 x hx (by omega)
    simp only [Nat.mul_one, Nat.add_zero] at this
    rw [this, hu]
    rfl

end Go.Proofs.Ytpdeodoidlcdoaa

/- The small functions under Due: timeFault, begins, ticksOf, needed. -/
namespace Go.Proofs.Ytpdeodoidlcdoaa
open Go.RowKit

/-- The fault of a timeline with a time. -/
def timeF (l : List Prt) (t : Int) : Int := if checkP l ≠ 0 then checkP l else if outB t 0 1000000000000000 = true then 1 else 0

/-- How many ticks a Kind needs, of an advertisement of n ticks. -/
def need (n k : Int) : Int := if k = 1 then 1 else if k = 2 then (n + 3) / 4 else if k = 3 then (n + 1) / 2 else if k = 4 then (3 * n + 3) / 4 else n

end Go.Proofs.Ytpdeodoidlcdoaa

/- place and Place, of the program and of the reference. -/
namespace Go.Proofs.Ytpdeodoidlcdoaa
open Go.RowKit

/-- The part that has a tick, and how many of its ticks are before it. -/
def placeN : List Prt → Int → Nat × Int
  | [], _ => (0, 0)
  | p :: r, t => if t < p.ln then (0, t) else ((placeN r (t - p.ln)).1 + 1, (placeN r (t - p.ln)).2)

theorem placeN_le : ∀ (l : List Prt) (t : Int), (placeN l t).1 ≤ l.length
  | [], _ => Nat.le_refl _
  | p :: r, t => by
    unfold placeN
    split
    · simp
    · have := placeN_le r (t - p.ln); simp; omega

/-- What a round knows: the rest of the way is the rest of the list. -/
def PlAt (l : List Prt) (t : Int) (k : Nat) (u : Int) : Prop := placeN l t = ((placeN (l.drop k) u).1 + k, (placeN (l.drop k) u).2)

theorem PlAt.start (l : List Prt) (t : Int) : PlAt l t 0 t := rfl
theorem PlAt.hit {l : List Prt} {t : Int} {k : Nat} {u : Int} {p : Prt} (h : PlAt l t k u) (hx : l[k]? = some p) (hu : u < p.ln) : placeN l t = (k, u) := by
  unfold PlAt at h
  rw [h, drop_next hx, placeN, if_pos hu]
  simp
theorem PlAt.next {l : List Prt} {t : Int} {k : Nat} {u : Int} {p : Prt} (h : PlAt l t k u) (hx : l[k]? = some p) (hu : ¬ u < p.ln) : PlAt l t (k + 1) (u - p.ln) := by
  unfold PlAt at h ⊢
  rw [h, drop_next hx, placeN, if_neg hu]
  simp; omega
theorem PlAt.done {l : List Prt} {t : Int} {u : Int} (h : PlAt l t l.length u) : placeN l t = (l.length, 0) := by
  unfold PlAt at h
  rw [h, List.drop_length, placeN]
  simp

/-- The reference's place. -/
def placeI (l : List Prt) (t : Int) : Int := if (placeN l t).1 = l.length then -1 else ((placeN l t).1 : Nat)

theorem placeN_none {l : List Prt} : ∀ {t : Int}, (placeN l t).1 = l.length → (placeN l t).2 = 0 := by
  induction l with
  | nil => intro t _; rfl
  | cons p r ih =>
    intro t h
    unfold placeN at h ⊢
    split at h
    · simp at h
    · rename_i h1
      rw [if_neg h1]
      simp at h
      exact ih h

end Go.Proofs.Ytpdeodoidlcdoaa

/- Sets of advertisements, bit by bit; plain. -/
import Derived.Test.YtaajjngfmaiicaaFillL
namespace Go.Proofs.Ytaajjngfmaiicaa
open Go.RowKit

/-- Has a choice of bits no two of one rival? -/
def rgtB (l : List Adv) (bit : Nat → Bool) : Nat → Bool
  | 0 => true
  | k + 1 => if bit k then rgtB l bit k && !((bitsL bit k).any fun j => riv l j k) else rgtB l bit k
theorem rgtB_iff (l : List Adv) (bit : Nat → Bool) : ∀ k, rgtB l bit k = true ↔ (bitsL bit k).Pairwise (fun a b => riv l a b = false)
  | 0 => by simp [rgtB, bitsL]
  | k + 1 => by
    have ih := rgtB_iff l bit k
    simp only [rgtB, bitsL]
    split
    · rw [Bool.and_eq_true, ih, List.pairwise_append, Bool.not_eq_true', List.any_eq_false]
      simp
    · exact ih
theorem rgtB_mono (l : List Adv) (bit : Nat → Bool) {k : Nat} : ∀ {n}, k ≤ n → rgtB l bit n = true → rgtB l bit k = true
  | 0, h, hr => by
    obtain rfl : k = 0 := by omega
    exact hr
  | n + 1, h, hr => by
    by_cases e : k = n + 1
    · subst e; exact hr
    · refine rgtB_mono l bit (n := n) (by omega) ?_
      unfold rgtB at hr
      split at hr
      · rw [Bool.and_eq_true] at hr; exact hr.1
      · exact hr
theorem bitsL_ok {l : List Adv} {m : Int} {bit : Nat → Bool} (hr : rgtB l bit l.length = true) (hl : selL l (bitsL bit l.length) ≤ m) : okL l m (bitsL bit l.length) :=
  ⟨fun k hk => bitsL_rng bit _ k hk, bitsL_inc bit _, (rgtB_iff l bit _).1 hr, hl⟩
/-- The bit of a number. -/
def intBit (s : Int) (k : Nat) : Bool := decide (s / 2 ^ k % 2 ≠ 0)
theorem intBit_nat (s k : Nat) : intBit (s : Int) k = natBit s k := by
  unfold intBit natBit
  have e : ((s : Int) / 2 ^ k % 2) = ((s / 2 ^ k % 2 : Nat) : Int) := by norm_cast
  rw [e]
  by_cases h : s / 2 ^ k % 2 = 0
  · simp [h]
  · have : ((s / 2 ^ k % 2 : Nat) : Int) ≠ 0 := by omega
    rw [decide_eq_true h, decide_eq_true this]
/-- What all numbers below 2^n have gone through is the best choice. -/
def bestTo (l : List Adv) (m : Int) (s : Nat) (B : List Int) : Prop := okL l m B ∧ ∀ j, j < s → okL l m (bitsL (natBit j) l.length) → betB l (bitsL (natBit j) l.length) B = false
theorem bestTo.done {l : List Adv} {m : Int} {s : Nat} {B : List Int} (h : bestTo l m s B) (hs : 2 ^ l.length ≤ s) : bestL l m B := ⟨h.1, fun X hX => by
  obtain ⟨j, hj, rfl⟩ := bits_all l.length X hX.rng hX.inc
  exact h.2 j (by omega) hX⟩
theorem bestTo.next {l : List Adv} {m : Int} {s : Nat} {B B' : List Int} (h : bestTo l m s B) (u : upB l B B') (hB : okL l m B') (hc : okL l m (bitsL (natBit s) l.length) → betB l (bitsL (natBit s) l.length) B' = false) : bestTo l m (s + 1) B' :=
  ⟨hB, fun j hj hX => by
    by_cases e : j = s
    · subst e; exact hc hX
    · exact u.no (h.2 j (by omega) hX)⟩
end Go.Proofs.Ytaajjngfmaiicaa

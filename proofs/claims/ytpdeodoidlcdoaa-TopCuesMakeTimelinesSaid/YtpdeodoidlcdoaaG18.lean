/- slices.IndexFunc and its like, at one type. -/
import Derived.Test.YtpdeodoidlcdoaaG16
import Derived.Test.YtpdeodoidlcdoaaG17
namespace Go.Proofs.Ytpdeodoidlcdoaa
open Go.RowKit

/-- The first place at which p holds, or -1. -/
def fidxP (p : Prt → Bool) (l : List Prt) : Int := if l.findIdx p = l.length then -1 else (l.findIdx p : Nat)
theorem fidxP_hit {p : Prt → Bool} {l : List Prt} {k : Nat} {x : Prt} (hx : l[k]? = some x) (h : p x = true) (hn : ∀ (j : Nat) y, l[j]? = some y → j < k → p y = false) : fidxP p l = k ∧ l.findIdx p = k := by
  obtain ⟨hk, rfl⟩ := List.getElem?_eq_some_iff.1 hx
  have e : l.findIdx p = k := by
    rw [List.findIdx_eq hk]
    exact ⟨h, fun j hj => hn j _ (List.getElem?_eq_getElem (by omega)) hj⟩
  exact ⟨by rw [fidxP, e, if_neg (by omega)], e⟩
theorem fidxP_none {p : Prt → Bool} {l : List Prt} (hn : ∀ (j : Nat) y, l[j]? = some y → p y = false) : fidxP p l = -1 ∧ l.findIdx p = l.length := by
  have e : l.findIdx p = l.length := by
    rw [List.findIdx_eq_length]
    intro x hx
    obtain ⟨j, hj, rfl⟩ := List.mem_iff_getElem.1 hx
    exact hn j _ (List.getElem?_eq_getElem hj)
  exact ⟨by rw [fidxP, if_pos e], e⟩
theorem fidxP_any (p : Prt → Bool) (l : List Prt) : decide (0 ≤ fidxP p l) = l.any p := by
  unfold fidxP
  by_cases h : l.findIdx p = l.length
  · rw [if_pos h]
    rw [List.findIdx_eq_length] at h
    have : l.any p = false := by rw [List.any_eq_false]; intro x hx; simp [h x hx]
    simp [this]
  · rw [if_neg h]
    have hlt : l.findIdx p < l.length := by have := List.findIdx_le_length (p := p) (xs := l); omega
    have : l.any p = true := List.any_eq_true.2 ⟨_, List.getElem_mem hlt, List.findIdx_getElem⟩
    simp [this]

end Go.Proofs.Ytpdeodoidlcdoaa

/- What Resume returns; the small functions under it. -/
namespace Go.Proofs.Ytpdeodoidlcdoaa
open Go.RowKit

def seenB (s : List Int) (k : Int) : Bool := s.any fun x => x == k
def seF1 (l : List Prt) (k : Int) : Int := if outB k 0 ((l.length : Int) - 1) = true then 1 else if noAd (l.getD k.toNat default) = true then 6 else 0
def seenF (l : List Prt) (s : List Int) : Int := FF (fun j => seF1 l (s.getD j 0)) s.length
def resF (l : List Prt) (s : List Int) (t : Int) : Int := if timeF l t ≠ 0 then timeF l t else seenF l s
def reHit (t : Int) (p : Prt) : Bool := noAd p && decide (t < p.fr + p.ln)
def resI (l : List Prt) (t : Int) : Nat := l.findIdx (reHit t)
def fst1 (l : List Prt) : Nat → Nat
  | 0 => 0
  | i + 1 => if noAd (l.getD i default) = true then i + 1 else fst1 l i
def unsee (s : List Int) : Nat → Nat → Option Nat
  | _, 0 => none
  | k, n + 1 => if seenB s k = true then unsee s (k + 1) n else some k
def resV (l : List Prt) (s : List Int) (t : Int) : Int :=
  if resF l s t ≠ 0 then 0 else if resI l t = l.length then sumL l else
    match unsee s (fst1 l (resI l t)) (resI l t - fst1 l (resI l t)) with
    | some k => sumL (l.take k)
    | none => sumL (l.take (resI l t)) + max 0 (t - (l.getD (resI l t) default).fr)

theorem fst1_le (l : List Prt) : ∀ i, fst1 l i ≤ i
  | 0 => Nat.le_refl _
  | i + 1 => by
    unfold fst1
    split
    · exact Nat.le_refl _
    · have := fst1_le l i; omega
theorem unsee_lt (s : List Int) : ∀ n k m, unsee s k n = some m → k ≤ m ∧ m < k + n
  | 0, k, m, h => by simp [unsee] at h
  | n + 1, k, m, h => by
    unfold unsee at h
    split at h
    · have := unsee_lt s n (k + 1) m h; omega
    · simp at h; omega

/-- The two results of Resume. -/
def R2 (w : World) (l : List Prt) (s : List Int) (t : Int) : Ending → World → Prop :=
  fun e w' => e = .returned (.tuple #[.int .i64 (resV l s t), .int .i64 (resF l s t)]) ∧ Below w.heap.size w w'
theorem R2.mk {w w' : World} {l : List Prt} {s : List Int} {t a f : Int} (ha : a = resV l s t) (hf : f = resF l s t) (hw : Below w.heap.size w w') : R2 w l s t (.returned (.tuple #[.int .i64 a, .int .i64 f])) w' := by
  subst ha hf
  exact ⟨rfl, hw⟩

end Go.Proofs.Ytpdeodoidlcdoaa

/- Resume of the program. -/
namespace Go.Proofs.Ytpdeodoidlcdoaa
open Go.RowKit

theorem seF1_in {l : List Prt} {k : Int} (h : seF1 l k = 0) : 0 ≤ k ∧ k < l.length ∧ noAd (l.getD k.toNat default) = false := by
  unfold seF1 at h
  split at h
  · simp at h
  rename_i h1
  split at h
  · simp at h
  rename_i h2
  simp [outB] at h1
  exact ⟨by omega, by omega, by simpa using h2⟩

theorem startsL_ne (l : List Prt) : startsL l l.length ≠ [] := by intro e; have := startsL_len l l.length; rw [e] at this; simp at this

def contB (l : List Prt) (m : Nat) : Bool := decide (0 < m) && !noAd (l.getD (m - 1) default)
theorem contB_true {l : List Prt} {m : Nat} (h : contB l m = true) : 0 < m ∧ fst1 l m = fst1 l (m - 1) := by
  unfold contB at h
  simp only [Bool.and_eq_true, decide_eq_true_eq, Bool.not_eq_true'] at h
  obtain ⟨h1, h2⟩ := h
  refine ⟨h1, ?_⟩
  obtain ⟨k, rfl⟩ : ∃ k, m = k + 1 := ⟨m - 1, by omega⟩
  simp only [Nat.add_sub_cancel] at h2 ⊢
  rw [fst1, h2]; rfl
theorem contB_false {l : List Prt} {m : Nat} (h : contB l m = false) : fst1 l m = m := by
  unfold contB at h
  cases m with
  | zero => rfl
  | succ k =>
    simp at h
    rw [fst1, List.getD_eq_getElem?_getD, h]; rfl

end Go.Proofs.Ytpdeodoidlcdoaa

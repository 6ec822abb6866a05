/- What Due returns. -/
import Derived.Test.YtpdeodoidlcdoaaG15
import Derived.Test.YtpdeodoidlcdoaaG04
namespace Go.Proofs.Ytpdeodoidlcdoaa
open Go.RowKit

structure Ev where
  se : ByteArray
  pl : Int
  ad : ByteArray
  ki : Int

def encE (e : Ev) : List Value := [.string e.se, .int .i64 e.pl, .string e.ad, .int .i64 e.ki]
theorem encE_len (e : Ev) : (encE e).length = 4 := rfl
/-- The tick at which the event of a Kind comes. -/
def tickOf (l : List Prt) (i : Nat) (k : Int) : Int := sumL (l.take i) + need (l.getD i default).ln k - 1
def evOf (l : List Prt) (a b : Int) (i j : Nat) : List Ev :=
  if noAd (l.getD i default) = false ∧ a ≤ tickOf l i ((j : Int) + 1) ∧ tickOf l i ((j : Int) + 1) < b then [⟨⟨#[]⟩, i, (l.getD i default).ad, (j : Int) + 1⟩] else []
def evRow (l : List Prt) (a b : Int) (i : Nat) : Nat → List Ev
  | 0 => []
  | j + 1 => evRow l a b i j ++ evOf l a b i j
def evAll (l : List Prt) (a b : Int) : Nat → List Ev
  | 0 => []
  | n + 1 => evAll l a b n ++ evRow l a b n 5
def dueF (l : List Prt) (a b : Int) : Int := if checkP l ≠ 0 then checkP l else if (outB a 0 1000000000000000 || outB b a 1000000000000000) = true then 1 else 0
def dueL (l : List Prt) (a b : Int) : List Ev := if dueF l a b = 0 then evAll l a b l.length else []

theorem evOf_len (l : List Prt) (a b : Int) (i j : Nat) : (evOf l a b i j).length ≤ 1 := by unfold evOf; split <;> simp
theorem evRow_len (l : List Prt) (a b : Int) (i : Nat) : ∀ j, (evRow l a b i j).length ≤ j
  | 0 => by simp [evRow]
  | j + 1 => by have := evRow_len l a b i j; have := evOf_len l a b i j; simp only [evRow, List.length_append]; omega
theorem evAll_len (l : List Prt) (a b : Int) : ∀ n, (evAll l a b n).length ≤ 5 * n
  | 0 => by simp [evAll]
  | n + 1 => by have := evAll_len l a b n; have := evRow_len l a b n 5; simp only [evAll, List.length_append]; omega
theorem evRow_none {l : List Prt} {a b : Int} {i : Nat} (h : noAd (l.getD i default) = true) : ∀ j, evRow l a b i j = []
  | 0 => rfl
  | j + 1 => by rw [evRow, evRow_none h j, evOf, if_neg (fun e => by have h1 := e.1; rw [h] at h1; cases h1)]; rfl

theorem checkP_parts {l : List Prt} (h : checkP l = 0) : l.length ≤ 1000 ∧ (∀ p, p ∈ l → pf p = 0) ∧ sumL l ≤ 1000000000000000 ∧ ∀ i, i < l.length → cpAt l i = 0 := by
  unfold checkP at h
  split at h
  · simp at h
  rename_i h1
  split at h
  · rename_i h2; exact absurd h h2
  rename_i h2
  split at h
  · simp at h
  rename_i h3
  have h2' : FF (cpAt l) l.length = 0 := by simpa using h2
  have hz := FF_eq_zero h2'
  refine ⟨by omega, fun p hp => ?_, by omega, hz⟩
  obtain ⟨i, hi, rfl⟩ := List.mem_iff_getElem.1 hp
  have h4 := hz i hi
  rw [cpAt, List.getD_eq_getElem?_getD, List.getElem?_eq_getElem hi, Option.getD_some] at h4
  unfold cpOf at h4
  split at h4
  · rename_i h5; exact absurd h4 h5
  · rename_i h5; simpa using h5

theorem checkP_bd {l : List Prt} (h : checkP l = 0) : ∀ p, p ∈ l → 1 ≤ p.ln ∧ p.ln ≤ 1000000000000000 := fun p hp => by
  have := pf_zero ((checkP_parts h).2.1 p hp)
  omega

theorem need_bd {n k : Int} (h1 : 1 ≤ n) (h2 : n ≤ 1000000000000000) : 1 ≤ need n k ∧ need n k ≤ n := by
  unfold need
  repeat' split
  all_goals omega
end Go.Proofs.Ytpdeodoidlcdoaa

/- Place, of the program and of the reference. -/
namespace Go.Proofs.Ytpdeodoidlcdoaa
open Go.RowKit

def placeF (l : List Prt) (t : Int) : Int := if timeF l t ≠ 0 then timeF l t else if (placeN l t).1 = l.length then 9 else 0
def placeA (l : List Prt) (t : Int) : Int := if placeF l t = 0 then ((placeN l t).1 : Nat) else 0
def placeB (l : List Prt) (t : Int) : Int := if placeF l t = 0 then (placeN l t).2 else 0

theorem timeF_zero {l : List Prt} {t : Int} (h : timeF l t = 0) : checkP l = 0 ∧ 0 ≤ t ∧ t ≤ 1000000000000000 := by
  unfold timeF at h
  split at h
  · rename_i h1; exact absurd h h1
  rename_i h1
  split at h
  · simp at h
  rename_i h2
  simp [outB] at h2
  exact ⟨by simpa using h1, by omega, by omega⟩

/-- The three results of Place. -/
def P3 (w : World) (l : List Prt) (t : Int) : Ending → World → Prop :=
  fun e w' => e = .returned (.tuple #[.int .i64 (placeA l t), .int .i64 (placeB l t), .int .i64 (placeF l t)]) ∧ Below w.heap.size w w'
theorem P3.mk {w w' : World} {l : List Prt} {t a b f : Int} (ha : a = placeA l t) (hb : b = placeB l t) (hf : f = placeF l t) (hw : Below w.heap.size w w') : P3 w l t (.returned (.tuple #[.int .i64 a, .int .i64 b, .int .i64 f])) w' := by
  subst ha hb hf
  exact ⟨rfl, hw⟩

theorem placeF_bad {l : List Prt} {t : Int} (h : placeF l t ≠ 0) : placeA l t = 0 ∧ placeB l t = 0 := by
  unfold placeA placeB
  rw [if_neg h, if_neg h]; exact ⟨rfl, rfl⟩

end Go.Proofs.Ytpdeodoidlcdoaa

/- Programme of the program: what it returns. -/
namespace Go.Proofs.Ytpdeodoidlcdoaa
open Go.RowKit

/-- Where the first part of the programme begins. -/
def firstP : List Prt → Option Int
  | [] => none
  | p :: r => if noAd p = true then some p.fr else firstP r

def progV (l : List Prt) (t : Int) : Int :=
  if placeF l t = 0 then
    (if noAd (l.getD (placeN l t).1 default) = true then (l.getD (placeN l t).1 default).fr + (placeN l t).2 else (firstP (l.drop (placeN l t).1)).getD (endL 0 l))
  else 0
def progB (l : List Prt) (t : Int) : Bool := decide (placeF l t = 0) && noAd (l.getD (placeN l t).1 default)

/-- The three results of Programme. -/
def Pg3 (w : World) (l : List Prt) (t : Int) : Ending → World → Prop :=
  fun e w' => e = .returned (.tuple #[.int .i64 (progV l t), .bool (progB l t), .int .i64 (placeF l t)]) ∧ Below w.heap.size w w'
theorem Pg3.mk {w w' : World} {l : List Prt} {t a f : Int} {b : Bool} (ha : a = progV l t) (hb : b = progB l t) (hf : f = placeF l t) (hw : Below w.heap.size w w') : Pg3 w l t (.returned (.tuple #[.int .i64 a, .bool b, .int .i64 f])) w' := by
  subst ha hb hf
  exact ⟨rfl, hw⟩
theorem prog_bad {l : List Prt} {t : Int} (h : placeF l t ≠ 0) : progV l t = 0 ∧ progB l t = false := by
  unfold progV progB
  rw [if_neg h]
  simp [h]

theorem firstP_skip : ∀ {l : List Prt} {k : Nat}, (∀ j p, l[j]? = some p → j < k → noAd p = false) → k ≤ l.length → firstP l = firstP (l.drop k)
  | _, 0, _, _ => rfl
  | [], k + 1, _, h => by simp at h
  | p :: r, k + 1, h1, h2 => by
    have hp := h1 0 p rfl (by omega)
    rw [firstP, if_neg (by rw [hp]; simp), List.drop_succ_cons]
    exact firstP_skip (fun j q hq hj => h1 (j + 1) q (by simpa using hq) (by omega)) (by simpa using h2)

theorem endL_bd {l : List Prt} (h : ∀ p, p ∈ l → 0 ≤ p.fr ∧ 1 ≤ p.ln ∧ p.fr + p.ln ≤ 1000000000000000) : ∀ {e : Int}, 0 ≤ e → e ≤ 1000000000000000 → 0 ≤ endL e l ∧ endL e l ≤ 1000000000000000 := by
  induction l with
  | nil => intro e h0 h1; exact ⟨h0, h1⟩
  | cons p r ih =>
    intro e h0 h1
    have hp := h p (by simp)
    rw [endL]
    refine ih (fun q hq => h q (by simp [hq])) ?_ ?_
    · split <;> omega
    · split <;> omega

theorem placeN_bd : ∀ {l : List Prt} {t : Int}, 0 ≤ t → (placeN l t).1 < l.length → 0 ≤ (placeN l t).2 ∧ (placeN l t).2 < (l.getD (placeN l t).1 default).ln
  | [], t, _, h => by simp at h
  | p :: r, t, h0, h => by
    unfold placeN at h ⊢
    split at h
    · rename_i h1
      rw [if_pos h1]
      exact ⟨h0, by simpa using h1⟩
    · rename_i h1
      rw [if_neg h1]
      simp only [List.length_cons] at h
      have := placeN_bd (l := r) (t := t - p.ln) (by omega) (by omega)
      simpa using this

theorem pf_all {l : List Prt} (h : checkP l = 0) : ∀ p, p ∈ l → 0 ≤ p.fr ∧ 1 ≤ p.ln ∧ p.fr + p.ln ≤ 1000000000000000 := fun p hp => by
  have := pf_zero ((checkP_parts h).2.1 p hp)
  omega

end Go.Proofs.Ytpdeodoidlcdoaa

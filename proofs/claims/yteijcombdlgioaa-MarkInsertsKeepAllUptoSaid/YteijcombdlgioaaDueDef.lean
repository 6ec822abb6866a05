/- What Due returns. -/
import Derived.Test.YteijcombdlgioaaDue0
import Derived.Test.YteijcombdlgioaaKeep
namespace Go.Proofs.Yteijcombdlgioaa
open Go.RowKit

structure Ev where
  se : ByteArray
  pl : Int
  ad : ByteArray
  ki : Int

def encE (e : Ev) : List Value := [.string e.se, .int .i64 e.pl, .string e.ad, .int .i64 e.ki]
theorem encE_len (e : Ev) : (encE e).length = 4 := rfl
theorem infoE : (Try.prog.info? 29).map (fun i => (i.zero, i.size, i.bytes)) = some (some (.agg #[.string ⟨#[]⟩, .int .i64 0, .string ⟨#[]⟩, .int .i64 0]), 4, 48) := by kernel_rfl
theorem slE : SlT Try.prog 23 29 4 48 := by
  obtain ⟨i0, hi, hz0, hz1, hz2⟩ := info_parts infoE
  exact ⟨i0, _, Try.underlying23, hi, hz0, hz1, hz2, rfl, by decide, by decide⟩

/-- The tick at which the event of a Kind comes. -/
def tickOf (l : List Prt) (i : Nat) (k : Int) : Int := sumL (l.take i) + need (l.getD i default).ln k - 1
def evOf (l : List Prt) (a b : Int) (i j : Nat) : List Ev :=
  if noAd (l.getD i default) = false ∧ a ≤ tickOf l i ((j : Int) + 1) ∧ tickOf l i ((j : Int) + 1) < b then [⟨⟨#[]⟩, i, (l.getD i default).ad, (j : Int) + 1⟩] else []
def evRow (l : List Prt) (a b : Int) (i : Nat) : Nat → List Ev
  | 0 => []
  | j + 1 => evRow l a b i j ++ evOf l a b i j
def evAll (l : List Prt) (a b : Int) : Nat → List Ev
  | 0 => []
  | n + 1 => evAll l a b n ++ evRow l a b n 5
def dueF (l : List Prt) (a b : Int) : Int := if checkP l ≠ 0 then checkP l else if (outB a 0 1000000000000000 || outB b a 1000000000000000) = true then 1 else 0
def dueL (l : List Prt) (a b : Int) : List Ev := if dueF l a b = 0 then evAll l a b l.length else []

theorem evOf_len (l : List Prt) (a b : Int) (i j : Nat) : (evOf l a b i j).length ≤ 1 := by unfold evOf; split <;> simp
theorem evRow_len (l : List Prt) (a b : Int) (i : Nat) : ∀ j, (evRow l a b i j).length ≤ j
  | 0 => by simp [evRow]
  | j + 1 => by have := evRow_len l a b i j; have := evOf_len l a b i j; simp only [evRow, List.length_append]; omega
theorem evAll_len (l : List Prt) (a b : Int) : ∀ n, (evAll l a b n).length ≤ 5 * n
  | 0 => by simp [evAll]
  | n + 1 => by have := evAll_len l a b n; have := evRow_len l a b n 5; simp only [evAll, List.length_append]; omega
theorem evRow_none {l : List Prt} {a b : Int} {i : Nat} (h : noAd (l.getD i default) = true) : ∀ j, evRow l a b i j = []
  | 0 => rfl
  | j + 1 => by rw [evRow, evRow_none h j, evOf, if_neg (fun e => by have h1 := e.1; rw [h] at h1; cases h1)]; rfl

theorem checkP_parts {l : List Prt} (h : checkP l = 0) : l.length ≤ 1000 ∧ (∀ p, p ∈ l → pf p = 0) ∧ sumL l ≤ 1000000000000000 ∧ ∀ i, i < l.length → cpAt l i = 0 := by
  unfold checkP at h
  split at h
  · simp at h
  rename_i h1
  split at h
  · rename_i h2; exact absurd h h2
  rename_i h2
  split at h
  · simp at h
  rename_i h3
  have h2' : FF (cpAt l) l.length = 0 := by simpa using h2
  have hz := FF_eq_zero h2'
  refine ⟨by omega, fun p hp => ?_, by omega, hz⟩
  obtain ⟨i, hi, rfl⟩ := List.mem_iff_getElem.1 hp
  have h4 := hz i hi
  rw [cpAt, List.getD_eq_getElem?_getD, List.getElem?_eq_getElem hi, Option.getD_some] at h4
  unfold cpOf at h4
  split at h4
  · rename_i h5; exact absurd h4 h5
  · rename_i h5; simpa using h5

theorem checkP_bd {l : List Prt} (h : checkP l = 0) : ∀ p, p ∈ l → 1 ≤ p.ln ∧ p.ln ≤ 1000000000000000 := fun p hp => by
  have := pf_zero ((checkP_parts h).2.1 p hp)
  omega

theorem need_bd {n k : Int} (h1 : 1 ≤ n) (h2 : n ≤ 1000000000000000) : 1 ≤ need n k ∧ need n k ≤ n := by
  unfold need
  repeat' split
  all_goals omega
end Go.Proofs.Yteijcombdlgioaa

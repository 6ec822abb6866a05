/- All cues, and the breaks that come out: plain. -/
import Derived.Test.YtaknkldbdijkeaaBrkU
import Derived.Test.YtaknkldbdijkeaaShK
namespace Go.Proofs.Ytaknkldbdijkeaa
open Go.RowKit

def encH (h : Hrd) : List Value := [.int .i64 h.at_, .int .i64 h.cu.ki, .int .i64 h.cu.ev, .bool h.cu.no, .int .i64 h.cu.ti, .int .i64 h.cu.le, .bool h.cu.au]
theorem encH_len (h : Hrd) : (encH h).length = 7 := rfl
/-- Does a cue come before the one before it? -/
def ordH (l : List Hrd) (j : Nat) (h : Hrd) : Bool := decide (0 < j) && (match l[j - 1]? with | none => false | some p => decide (h.at_ < p.at_))
def errOf (l : List Hrd) (j : Nat) (h : Hrd) : Int := if outB h.at_ (-1000000000000000) 1000000000000000 = true then 1 else if ordH l j h = true then 8 else checkC h.cu
def errH (l : List Hrd) (j : Nat) : Int := match l[j]? with | none => 0 | some h => errOf l j h
theorem errH_at {l : List Hrd} {j : Nat} {h : Hrd} (hj : l[j]? = some h) : errH l j = errOf l j h := by unfold errH; rw [hj]
/-- What became of events, and the idle cues. -/
def stE (l : List Hrd) : Nat → List Evn
  | 0 => []
  | k + 1 => match l[k]? with | none => stE l k | some h => (hear1 (stE l k) h).1
def idE (l : List Hrd) : Nat → List Int
  | 0 => []
  | k + 1 => match l[k]? with | none => idE l k | some h => if (hear1 (stE l k) h).2 = true then idE l k else idE l k ++ [(k : Int)]
theorem stE_at {l : List Hrd} {k : Nat} {h : Hrd} (hk : l[k]? = some h) : stE l (k + 1) = (hear1 (stE l k) h).1 := by rw [stE, hk]
theorem idE_at {l : List Hrd} {k : Nat} {h : Hrd} (hk : l[k]? = some h) : idE l (k + 1) = if (hear1 (stE l k) h).2 = true then idE l k else idE l k ++ [(k : Int)] := by rw [idE, hk]
theorem stE_ids (l : List Hrd) : ∀ k, idsE (stE l k)
  | 0 => List.Pairwise.nil
  | k + 1 => by
    rw [stE]
    split
    · exact stE_ids l k
    · exact hear_ids (stE_ids l k)
theorem stE_len (l : List Hrd) : ∀ k, (stE l k).length ≤ k
  | 0 => Nat.le_refl _
  | k + 1 => by
    have ih := stE_len l k
    rw [stE]
    split
    · omega
    · rename_i h _
      have := hear_len (l := stE l k) (h := h)
      omega
theorem idE_len (l : List Hrd) : ∀ k, (idE l k).length ≤ k
  | 0 => Nat.le_refl _
  | k + 1 => by
    have ih := idE_len l k
    rw [idE]
    split
    · omega
    · split
      · omega
      · simp; omega
theorem err_ok {l : List Hrd} {j : Nat} {h : Hrd} (hj : l[j]? = some h) (he : errH l j = 0) : okH h ∧ ordH l j h = false := by
  rw [errH_at hj] at he
  unfold errOf at he
  by_cases h1 : outB h.at_ (-1000000000000000) 1000000000000000 = true
  · rw [if_pos h1] at he; cases he
  · rw [if_neg h1] at he
    by_cases h2 : ordH l j h = true
    · rw [if_pos h2] at he; cases he
    · rw [if_neg h2] at he
      obtain ⟨h3, _, h4, _⟩ := checkC_zero he
      refine ⟨⟨?_, h3, h4⟩, by simpa using h2⟩
      have h5 : outB h.at_ (-1000000000000000) 1000000000000000 = false := by simpa using h1
      simp [outB] at h5
      omega
theorem stE_ok {l : List Hrd} : ∀ {k : Nat}, (∀ j, j < k → errH l j = 0) → ∀ e, e ∈ stE l k → okE e
  | 0, _, e, he => by simp [stE] at he
  | k + 1, hz, e, he => by
    have ih := stE_ok (l := l) (k := k) (fun j hj => hz j (by omega))
    rw [stE] at he
    cases hk : l[k]? with
    | none => rw [hk] at he; exact ih e he
    | some h =>
      rw [hk] at he
      exact hear_ok ih (err_ok hk (hz k (by omega))).1 e he

def badG (e : Evn) : Bool := outB e.be 0 1000000000000000 || (!e.op && outB e.en 0 1000000000000000)
def toB (e : Evn) : Brk := ⟨e.id, e.be, if e.op = true then -1 else e.en⟩
/-- The fault of Breaks, the breaks, and the idle cues. -/
def brkF (l : List Hrd) : Int := if 500 < l.length then 2 else if FF (errH l) l.length ≠ 0 then FF (errH l) l.length else if (gapsE (stE l l.length)).any badG = true then 1 else if 200 < (gapsE (stE l l.length)).length then 2 else 0
def brkL (l : List Hrd) : List Brk := if brkF l = 0 then (gapsE (stE l l.length)).map toB else []
def brkI (l : List Hrd) : List Int := if brkF l = 0 then idE l l.length else []
theorem brk_large {l : List Hrd} (h : 500 < l.length) : brkF l = 2 ∧ brkL l = [] ∧ brkI l = [] := by
  have e : brkF l = 2 := by unfold brkF; rw [if_pos h]
  exact ⟨e, by unfold brkL; rw [e]; rfl, by unfold brkI; rw [e]; rfl⟩
theorem brk_err {l : List Hrd} (h : ¬ 500 < l.length) {j : Nat} (hj : j < l.length) (hz : ∀ i, i < j → errH l i = 0) {f : Int} (he : errH l j = f) (hf : f ≠ 0) : brkF l = f ∧ brkL l = [] ∧ brkI l = [] := by
  have hh := FF_hit (f := errH l) hj hz (by rw [he]; exact hf)
  rw [he] at hh
  have e : brkF l = f := by unfold brkF; rw [if_neg h, hh, if_pos hf]
  exact ⟨e, by unfold brkL; rw [e, if_neg hf], by unfold brkI; rw [e, if_neg hf]⟩
theorem brk_bad {l : List Hrd} (h : ¬ 500 < l.length) (hz : ∀ i, i < l.length → errH l i = 0) {g : Evn} (hg : g ∈ gapsE (stE l l.length)) (hb : badG g = true) : brkF l = 1 ∧ brkL l = [] ∧ brkI l = [] := by
  have e : brkF l = 1 := by unfold brkF; rw [if_neg h, FF_zero hz, if_neg (by simp), if_pos (List.any_eq_true.2 ⟨g, hg, hb⟩)]
  exact ⟨e, by unfold brkL; rw [e]; rfl, by unfold brkI; rw [e]; rfl⟩
theorem brk_many {l : List Hrd} (h : ¬ 500 < l.length) (hz : ∀ i, i < l.length → errH l i = 0) (hg : ∀ g, g ∈ gapsE (stE l l.length) → badG g = false) (hm : 200 < (gapsE (stE l l.length)).length) : brkF l = 2 ∧ brkL l = [] ∧ brkI l = [] := by
  have ha : (gapsE (stE l l.length)).any badG = false := by rw [List.any_eq_false]; intro g hg'; rw [hg g hg']; simp
  have e : brkF l = 2 := by unfold brkF; rw [if_neg h, FF_zero hz, if_neg (by simp), if_neg (by simp [ha]), if_pos hm]
  exact ⟨e, by unfold brkL; rw [e]; rfl, by unfold brkI; rw [e]; rfl⟩
theorem brk_ok {l : List Hrd} (h : ¬ 500 < l.length) (hz : ∀ i, i < l.length → errH l i = 0) (hg : ∀ g, g ∈ gapsE (stE l l.length) → badG g = false) (hm : ¬ 200 < (gapsE (stE l l.length)).length) : brkF l = 0 ∧ brkL l = (gapsE (stE l l.length)).map toB ∧ brkI l = idE l l.length := by
  have ha : (gapsE (stE l l.length)).any badG = false := by rw [List.any_eq_false]; intro g hg'; rw [hg g hg']; simp
  have e : brkF l = 0 := by unfold brkF; rw [if_neg h, FF_zero hz, if_neg (by simp), if_neg (by simp [ha]), if_neg hm]
  exact ⟨e, by unfold brkL; rw [e]; rfl, by unfold brkI; rw [e]; rfl⟩

/-- Two slices and a fault. -/
def BrkPost (w : World) (l : List Brk) (m : List Int) (f : Int) : Ending → World → Prop := fun e w' => ∃ v1 v2, e = .returned (.tuple #[v1, v2, .int .i64 f]) ∧ Sl w' 3 encB v1 l ∧ Sl w' 1 encI v2 m ∧ Below w.heap.size w w'
theorem BrkPost.mk {w w' : World} {l : List Brk} {m : List Int} {f f' : Int} {v1 v2 : Value} (hf : f' = f) (h1 : Sl w' 3 encB v1 l) (h2 : Sl w' 1 encI v2 m) (hb : Below w.heap.size w w') : BrkPost w l m f (.returned (.tuple #[v1, v2, .int .i64 f'])) w' := ⟨v1, v2, by rw [hf], h1, h2, hb⟩
theorem BrkPost.none {w w' : World} {l : List Brk} {m : List Int} {f f' : Int} (h : f = f' ∧ l = [] ∧ m = []) (hb : Below w.heap.size w w') : BrkPost w l m f (.returned (.tuple #[.slice none 0 0, .slice none 0 0, .int .i64 f'])) w' := by
  obtain ⟨rfl, rfl, rfl⟩ := h
  exact .mk rfl Sl.nil Sl.nil hb
end Go.Proofs.Ytaknkldbdijkeaa

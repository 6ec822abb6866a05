/- Advertisements, and timelines that are built: plain. -/
import Derived.Test.YteijcombdlgioaaStit
namespace Go.Proofs.Yteijcombdlgioaa
open Go.RowKit

structure Adv where
  na : ByteArray
  ln : Int
  va : Int
  ri : ByteArray
instance : Inhabited Adv := ⟨⟨ByteArray.empty, 0, 0, ByteArray.empty⟩⟩
def encA (a : Adv) : List Value := [.string a.na, .int .i64 a.ln, .int .i64 a.va, .string a.ri]
theorem encA_len (a : Adv) : (encA a).length = 4 := rfl
def WfA (a : Adv) : Prop := a.na.size ≤ 9223372036854775807 ∧ a.ri.size ≤ 9223372036854775807 ∧ (-9223372036854775808 ≤ a.ln ∧ a.ln ≤ 9223372036854775807) ∧ (-9223372036854775808 ≤ a.va ∧ a.va ≤ 9223372036854775807)

/-- The fault of an advertisement that is put in. -/
def adF (a : Adv) : Int := if nameB a.na = false then 5 else if outB a.ln 1 1000000000000000 = true then 1 else 0
def adsF (l : List Adv) : Int := FF (fun j => adF (l.getD j default)) l.length
theorem adF_zero {a : Adv} (h : adF a = 0) : nameB a.na = true ∧ 1 ≤ a.ln ∧ a.ln ≤ 1000000000000000 := by
  unfold adF at h
  split at h
  · simp at h
  rename_i h1
  split at h
  · simp at h
  rename_i h2
  simp [outB] at h2
  exact ⟨by simpa using h1, by omega, by omega⟩
theorem adsF_zero {l : List Adv} (h : adsF l = 0) : ∀ a, a ∈ l → nameB a.na = true ∧ 1 ≤ a.ln ∧ a.ln ≤ 1000000000000000 := fun a ha => by
  obtain ⟨i, hi, rfl⟩ := List.mem_iff_getElem.1 ha
  have := FF_eq_zero h i hi
  rw [List.getD_eq_getElem?_getD, List.getElem?_eq_getElem hi, Option.getD_some] at this
  exact adF_zero this

def adP (a : Adv) : Prt := ⟨a.na, 0, a.ln⟩
def sumA : List Adv → Int
  | [] => 0
  | a :: r => a.ln + sumA r
theorem sumA_append : ∀ a b : List Adv, sumA (a ++ b) = sumA a + sumA b
  | [], b => by simp [sumA]
  | p :: r, b => by simp [sumA, sumA_append r b]; omega
theorem sumA_take {l : List Adv} {k : Nat} {a : Adv} (hx : l[k]? = some a) : sumA (l.take (k + 1)) = sumA (l.take k) + a.ln := by
  rw [take_next hx, sumA_append]; simp [sumA]
theorem sumA_nn {l : List Adv} (h : ∀ a, a ∈ l → 1 ≤ a.ln ∧ a.ln ≤ 1000000000000000) : 0 ≤ sumA l := by
  induction l with
  | nil => simp [sumA]
  | cons p r ih =>
    have h1 := h p (by simp)
    have h2 := ih (fun q hq => h q (by simp [hq]))
    simp only [sumA]
    omega
theorem sumL_adP (l : List Adv) : sumL (l.map adP) = sumA l := by
  induction l with
  | nil => rfl
  | cons p r ih => simp [sumA, sumL, ih, adP]

def emp : ByteArray := ⟨#[]⟩
/-- Does the last part go on at a tick? -/
def mrg (l : List Prt) (a : Int) : Bool := match l[l.length - 1]? with
  | some p => noAd p && (p.fr + p.ln == a)
  | none => false
/-- Ticks of the programme added. -/
def prg (l : List Prt) (a b : Int) : List Prt :=
  if b ≤ a then l else if mrg l a = true then l.set (l.length - 1) ⟨(l.getD (l.length - 1) default).ad, (l.getD (l.length - 1) default).fr, (l.getD (l.length - 1) default).ln + (b - a)⟩ else l ++ [⟨emp, a, b - a⟩]

theorem prg_len (l : List Prt) (a b : Int) : (prg l a b).length ≤ l.length + 1 := by
  unfold prg
  split
  · omega
  · split <;> simp

/-- A part that is right by itself. -/
def PB (p : Prt) : Prop := 0 ≤ p.fr ∧ 1 ≤ p.ln ∧ p.fr + p.ln ≤ 1000000000000000 ∧ p.ad.size ≤ 40
theorem emp_size : emp.size = 0 := rfl
theorem noAd_emp (a b : Int) : noAd ⟨emp, a, b⟩ = true := by
  show emp.toList.isEmpty = true
  decide +kernel
theorem mrg_some {l : List Prt} {a : Int} (h : mrg l a = true) : ∃ p, l[l.length - 1]? = some p ∧ noAd p = true ∧ p.fr + p.ln = a := by
  unfold mrg at h
  split at h
  · rename_i p hp
    simp at h
    exact ⟨p, hp, h.1, h.2⟩
  · cases h
theorem prg_PB {l : List Prt} {a b : Int} (h : ∀ p, p ∈ l → PB p) (h0 : 0 ≤ a) (h1 : b ≤ 1000000000000000) : ∀ p, p ∈ prg l a b → PB p := by
  unfold prg
  split
  · exact h
  · rename_i hab
    split
    · rename_i hm
      obtain ⟨q, hq, hq1, hq2⟩ := mrg_some hm
      have hg : l.getD (l.length - 1) default = q := by rw [List.getD_eq_getElem?_getD, hq]; rfl
      rw [hg]
      intro p hp
      rcases List.mem_or_eq_of_mem_set hp with h2 | rfl
      · exact h p h2
      · have := h q (List.mem_of_getElem? hq)
        unfold PB at this ⊢
        simp only
        omega
    · intro p hp
      rcases List.mem_append.1 hp with h2 | h2
      · exact h p h2
      · simp only [List.mem_singleton] at h2
        subst h2
        unfold PB
        simp only [emp_size]
        omega
theorem nameB_size {s : ByteArray} (h : nameB s = true) : s.size ≤ 40 := by
  unfold nameB at h
  simp only [Bool.and_eq_true, decide_eq_true_eq] at h
  omega
theorem ads_PB {l : List Prt} {ads : List Adv} (h : ∀ p, p ∈ l → PB p) (ha : adsF ads = 0) : ∀ p, p ∈ l ++ ads.map adP → PB p := by
  intro p hp
  rcases List.mem_append.1 hp with h2 | h2
  · exact h p h2
  · obtain ⟨a, h3, rfl⟩ := List.mem_map.1 h2
    have h4 := adsF_zero ha a h3
    have h5 := nameB_size h4.1
    unfold PB adP
    simp only
    omega
theorem PB_wf {l : List Prt} (h : ∀ p, p ∈ l → PB p) : ∀ p, p ∈ l → WfP p := fun p hp => by
  have := h p hp
  unfold PB at this
  unfold WfP
  omega

/-- The sum of lengths, at most the greatest time. -/
def capA (n : Int) : List Adv → Int
  | [] => n
  | a :: r => capA (min (n + a.ln) 1000000000000000) r
theorem capA_append (n : Int) : ∀ a b : List Adv, capA n (a ++ b) = capA (capA n a) b
  | [], b => rfl
  | p :: r, b => by simp [capA, capA_append _ r b]
theorem capA_take {l : List Adv} {k : Nat} {a : Adv} (hx : l[k]? = some a) : capA 0 (l.take (k + 1)) = min (capA 0 (l.take k) + a.ln) 1000000000000000 := by
  rw [take_next hx, capA_append]; rfl
theorem capA_eq {l : List Adv} (h : ∀ a, a ∈ l → 1 ≤ a.ln ∧ a.ln ≤ 1000000000000000) : ∀ {n : Int}, 0 ≤ n → n ≤ 1000000000000000 → capA n l = min (n + sumA l) 1000000000000000 := by
  induction l with
  | nil => intro n h0 h1; simp [capA, sumA]; omega
  | cons p r ih =>
    intro n h0 h1
    have h2 := h p (by simp)
    have h3 := sumA_nn (l := r) fun q hq => h q (by simp [hq])
    rw [capA, ih (fun q hq => h q (by simp [hq])) (by omega) (by omega)]
    simp only [sumA]
    omega
theorem capA_bd {l : List Adv} (h : ∀ a, a ∈ l → 1 ≤ a.ln ∧ a.ln ≤ 1000000000000000) : 0 ≤ capA 0 l ∧ capA 0 l ≤ 1000000000000000 := by
  have := sumA_nn h
  rw [capA_eq h (Int.le_refl _) (by omega)]
  omega
end Go.Proofs.Yteijcombdlgioaa

/- Plain helpers: the first fault of some, and slices that read as lists. Nothing of the program is used. -/
import Derived.WalkKit
import Derived.WalkSpells
import Derived.WalkLawsBesides
import Derived.Handy
import Derived.Lib.Hide
import Derived.BigQuiet
import Derived.Deep.QuietTactic
import Derived.Deep.LoopGhost
import Derived.Deep.Slices
import Derived.Laws.OwnMore
import Derived.Shelf.Abstract
import Derived.Deep.RegionWith
import Derived.Deep.DeepCutAuto
namespace Go.Proofs.YtmgbmoiefgfemaaDoor
open Go.RowKit

/-- The first number other than 0 among f 0 .. f (n-1), or 0. -/
def FF (f : Nat → Int) : Nat → Int
  | 0 => 0
  | n + 1 => if FF f n = 0 then f n else FF f n

theorem FF_zero {f : Nat → Int} : ∀ {n : Nat}, (∀ j, j < n → f j = 0) → FF f n = 0
  | 0, _ => rfl
  | n + 1, h => by
    have h1 := FF_zero (f := f) (n := n) (fun j hj => h j (by omega))
    simp [FF, h1, h n (by omega)]

theorem FF_hit {f : Nat → Int} {k : Nat} : ∀ {n : Nat}, k < n → (∀ j, j < k → f j = 0) → f k ≠ 0 → FF f n = f k
  | 0, h, _, _ => by omega
  | n + 1, h, hz, hk => by
    by_cases e : k = n
    · subst e
      simp [FF, FF_zero hz]
    · have h1 := FF_hit (f := f) (n := n) (by omega) hz hk
      simp [FF, h1, hk]

theorem FF_congr {f g : Nat → Int} : ∀ {n : Nat}, (∀ j, j < n → f j = g j) → FF f n = FF g n
  | 0, _ => rfl
  | n + 1, h => by
    have h1 := FF_congr (f := f) (g := g) (n := n) (fun j hj => h j (by omega))
    simp [FF, h1, h n (by omega)]

theorem FF_eq_zero {f : Nat → Int} : ∀ {n : Nat}, FF f n = 0 → ∀ j, j < n → f j = 0
  | 0, _, j, hj => by omega
  | n + 1, h, j, hj => by
    unfold FF at h
    split at h
    · rename_i h0
      by_cases e : j = n
      · subst e; exact h
      · exact FF_eq_zero h0 j (by omega)
    · contradiction

/-- The value v is a slice of as many elements as l has; element i's cells are enc l[i]. -/
def Sl {α : Type} (w : World) (k : Nat) (enc : α → List Value) (v : Value) (l : List α) : Prop :=
  ∃ ao cap, v = .slice ao l.length cap ∧ l.length ≤ cap ∧ cap ≤ maxLen ∧ (ao = none → cap = 0) ∧
    ∀ i x, l[i]? = some x → ∃ b off, ao = some ⟨b, off, none⟩ ∧ ∀ j u, (enc x)[j]? = some u → w.cell? ⟨b, off + i * k + j, none⟩ = some u

section
variable {α : Type} {w w' : World} {k : Nat} {enc : α → List Value} {v : Value} {l : List α}

theorem Sl.nil : Sl w k enc (.slice none 0 0) ([] : List α) :=
  ⟨none, 0, rfl, Nat.le_refl _, by simp [maxLen], fun _ => rfl, fun i x h => by simp at h⟩

theorem Sl.below (h : Sl w k enc v l) {B : Nat} (hb : Below B w w') (hB : w.heap.size ≤ B) : Sl w' k enc v l := by
  obtain ⟨ao, cap, h1, h2, h3, h4, h5⟩ := h
  refine ⟨ao, cap, h1, h2, h3, h4, fun i x hx => ?_⟩
  obtain ⟨b, off, ha, hc⟩ := h5 i x hx
  refine ⟨b, off, ha, fun j u hu => ?_⟩
  have hcell := hc j u hu
  have hlt := World.block_lt_of_cell? w _ hcell
  exact (hb.cell (p := ⟨b, off + i * k + j, none⟩) (Nat.lt_of_lt_of_le hlt hB)).trans hcell

theorem Sl.take (h : Sl w k enc v l) {ao : Option Addr} {cap : Nat} (hv : v = .slice ao l.length cap) (n : Nat) (hn : n ≤ l.length) : Sl w k enc (.slice ao n cap) (l.take n) := by
  obtain ⟨ao', cap', h1, h2, h3, h4, h5⟩ := h
  rw [hv] at h1
  simp only [Value.slice.injEq, true_and] at h1
  obtain ⟨rfl, rfl⟩ := h1
  have hlen : (l.take n).length = n := by simp; omega
  refine ⟨ao, cap, by rw [hlen], by rw [hlen]; omega, h3, h4, fun i x hx => ?_⟩
  rw [List.getElem?_take] at hx
  split at hx
  · exact h5 i x hx
  · simp at hx

theorem flatMap_get (hk : ∀ x, (enc x).length = k) : ∀ (l : List α) (i j : Nat) (x : α), l[i]? = some x → j < k → (l.flatMap enc)[i * k + j]? = (enc x)[j]?
  | [], i, j, x, h, _ => by simp at h
  | y :: r, 0, j, x, h, hj => by
    simp at h; subst h
    simp only [List.flatMap_cons, Nat.zero_mul, Nat.zero_add]
    rw [List.getElem?_append_left (by rw [hk]; exact hj)]
  | y :: r, i + 1, j, x, h, hj => by
    simp only [List.flatMap_cons]
    have e : (i + 1) * k + j = k + (i * k + j) := by rw [Nat.succ_mul]; omega
    rw [e, List.getElem?_append_right (by rw [hk]; omega), hk, Nat.add_sub_cancel_left]
    exact flatMap_get hk r i j x (by simpa using h) hj

/-- A literal that has just been laid reads as a list. -/
theorem Sl.fresh (hk : ∀ x, (enc x).length = k) (w : World) (E : TypeId) (fr : Nat × Nat) (l : List α) (hm : l.length ≤ maxLen) :
    Sl (w.alloc (.cells (l.flatMap enc).toArray E fr)) k enc (.slice (some ⟨w.heap.size, 0, none⟩) l.length l.length) l := by
  refine ⟨_, _, rfl, Nat.le_refl _, hm, fun e => by simp at e, fun i x hx => ⟨w.heap.size, 0, rfl, fun j u hu => ?_⟩⟩
  have hj : j < k := by
    have := (List.getElem?_eq_some_iff.1 hu).1
    rwa [hk] at this
  rw [Nat.zero_add, World.cell?_alloc_mark, List.getElem?_toArray, flatMap_get hk l i j x hx hj]
  exact hu

/-- What the call owns reads as a list. -/
theorem Sl.own {base : Nat} {E : TypeId} (hk : ∀ x, (enc x).length = k) (h : w.ownsRow base E k v l.length (l.flatMap enc)) : Sl w k enc v l := by
  have h0 := h
  obtain ⟨h1, h2⟩ := h
  rcases h2 with ⟨rfl, h2⟩ | ⟨g, cap, cur, rfl, hg, hh, hn, hm, hs, ht⟩
  · obtain rfl : l = [] := List.length_eq_zero_iff.1 h2
    exact Sl.nil
  · refine ⟨_, cap, rfl, hn, hm, fun e => by simp at e, fun i x hx => ⟨g, 0, rfl, fun j u hu => ?_⟩⟩
    have hj : j < k := by
      have := (List.getElem?_eq_some_iff.1 hu).1
      rwa [hk] at this
    have hi : i < l.length := (List.getElem?_eq_some_iff.1 hx).1
    have hle : i * k + k ≤ l.length * k := by
      have := Nat.mul_le_mul_right k (Nat.succ_le_of_lt hi)
      rwa [Nat.succ_mul] at this
    rw [Nat.zero_add, h0.cellAt (i * k + j) (by omega), flatMap_get hk l i j x hx hj]
    exact hu
end

theorem _root_.Go.RowKit.Below.thru {w a b : World} (h : Below w.heap.size w a) (h2 : Below a.heap.size a b) : Below w.heap.size w b := h.trans (h2.mono h.size)

theorem cell_new_list (w : World) (C : List Value) (E : TypeId) (fr : Nat × Nat) : ∀ j u, C[j]? = some u → (w.alloc (.cells C.toArray E fr)).cell? ((⟨w.heap.size, 0, none⟩ : Addr).add j) = some u := by
  intro j u hu
  have e : (⟨w.heap.size, 0, none⟩ : Addr).add j = ⟨w.heap.size, j, none⟩ := by
    unfold Addr.add
    split
    · simp [*]
    · simp
  rw [e, World.cell?_alloc_mark, List.getElem?_toArray]
  exact hu

theorem ret_int {k : IntKind} {a b : Int} (h : a = b) : Ending.returned (.int k a) = .returned (.int k b) := by rw [h]
theorem ret_bool {a b : Bool} (h : a = b) : Ending.returned (.bool a) = .returned (.bool b) := by rw [h]
end Go.Proofs.YtmgbmoiefgfemaaDoor

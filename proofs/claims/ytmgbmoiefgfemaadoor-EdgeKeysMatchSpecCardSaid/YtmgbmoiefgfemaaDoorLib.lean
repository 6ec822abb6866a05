/- More helpers: what the call owns, and slices of ints. Nothing of the program but its ints is used. -/
import Derived.Test.YtmgbmoiefgfemaaDoorKeep
import Derived.Test.YtmgbmoiefgfemaaDoorProg
import Derived.OneCell
namespace Go.Proofs.YtmgbmoiefgfemaaDoor
open Go.RowKit

theorem take_next {α : Type} {l : List α} {k : Nat} {x : α} (hx : l[k]? = some x) : l.take (k + 1) = l.take k ++ [x] := by
  obtain ⟨hk, rfl⟩ := List.getElem?_eq_some_iff.1 hx
  rw [List.take_succ_eq_append_getElem hk]
theorem drop_next {α : Type} {l : List α} {k : Nat} {x : α} (hx : l[k]? = some x) : l.drop k = x :: l.drop (k + 1) := by
  obtain ⟨hk, rfl⟩ := List.getElem?_eq_some_iff.1 hx
  exact List.drop_eq_getElem_cons hk
theorem getD_of {α : Type} {l : List α} {k : Nat} {x d : α} (hx : l[k]? = some x) : l.getD k d = x := by rw [List.getD_eq_getElem?_getD, hx]; rfl

theorem Own.below {α : Type} {w w' : World} {base B : Nat} {E : TypeId} {k : Nat} {enc : α → List Value} {v : Value} {l : List α} (h : Own w base E k enc v l) (hb : Below B w w') (hB : w.heap.size ≤ B) : Own w' base E k enc v l := by
  have hlt := World.ownsRow.lt h
  obtain ⟨h1, h2⟩ := h
  refine ⟨h1, ?_⟩
  rcases h2 with h2 | ⟨g, cap, cur, rfl, hg, hh, r⟩
  · exact Or.inl h2
  · exact Or.inr ⟨g, cap, cur, rfl, hg, by rw [hb.block g (Nat.lt_of_lt_of_le (hlt g rfl).2 hB)]; exact hh, r⟩

theorem flatMap_set {α : Type} {enc : α → List Value} {k : Nat} (hk : ∀ x, (enc x).length = k) : ∀ (l : List α) (i j : Nat) (x y : α) (u : Value), l[i]? = some x → j < k → enc y = (enc x).set j u → (l.set i y).flatMap enc = (l.flatMap enc).set (i * k + j) u
  | [], i, j, x, y, u, h, _, _ => by simp at h
  | z :: r, 0, j, x, y, u, h, hj, hy => by
    simp at h; subst h
    simp only [List.set_cons_zero, List.flatMap_cons, Nat.zero_mul, Nat.zero_add]
    rw [List.set_append_left _ _ (by rw [hk]; exact hj), hy]
  | z :: r, i + 1, j, x, y, u, h, hj, hy => by
    simp only [List.set_cons_succ, List.flatMap_cons]
    have e : (i + 1) * k + j = k + (i * k + j) := by rw [Nat.succ_mul]; omega
    rw [e, List.set_append_right _ _ (by rw [hk]; omega), hk, Nat.add_sub_cancel_left, flatMap_set hk r i j x y u (by simpa using h) hj hy]

/-- One cell of an element written, in what the call owns. -/
theorem Own.store {α : Type} {w : World} {base : Nat} {E : TypeId} {k : Nat} {enc : α → List Value} {l : List α} {g cap n : Nat} (hk : ∀ x, (enc x).length = k) (h : Own w base E k enc (.slice (some ⟨g, 0, none⟩) n cap) l) (hn : n = l.length) {i j : Nat} {x y : α} {u : Value}
    (hx : l[i]? = some x) (hj : j < k) (hy : enc y = (enc x).set j u) : Own (w.setCell ⟨g, i * k + j, none⟩ u) base E k enc (.slice (some ⟨g, 0, none⟩) n cap) (l.set i y) := by
  subst hn
  have := (World.ownsRow.stored h (i * k + j) u).1
  unfold Own
  rw [List.length_set, flatMap_set hk l i j x y u hx hj hy]
  exact this

/-- The block of what the call owns, and its cells. -/
theorem Own.getk {α : Type} {w : World} {base : Nat} {E : TypeId} {k : Nat} {enc : α → List Value} {v : Value} {l : List α} (hk : ∀ x, (enc x).length = k) (h : Own w base E k enc v l) (hne : l ≠ []) :
    ∃ g cap, v = .slice (some ⟨g, 0, none⟩) l.length cap ∧ base ≤ g ∧ g < w.heap.size ∧ l.length ≤ cap ∧ cap ≤ maxLen ∧ (∀ i x j u, l[i]? = some x → (enc x)[j]? = some u → w.cell? ⟨g, i * k + j, none⟩ = some u) ∧ ∀ j, w.frozen? ⟨g, j, none⟩ = false := by
  have h0 := h
  obtain ⟨h1, h2⟩ := h
  rcases h2 with ⟨_, h2⟩ | ⟨g, cap, cur, rfl, hg, hh, hn, hm, hs, ht⟩
  · exact absurd (List.length_eq_zero_iff.1 h2) hne
  · refine ⟨g, cap, rfl, hg, (World.ownsRow.lt h0 g rfl).2, hn, hm, fun i x j u hx hu => ?_, fun j => World.ownsRow.frozenAt h0 j⟩
    have hi : i < l.length := (List.getElem?_eq_some_iff.1 hx).1
    have hj : j < k := by
      have := (List.getElem?_eq_some_iff.1 hu).1
      rwa [hk] at this
    have hle : i * k + k ≤ l.length * k := by
      have := Nat.mul_le_mul_right k (Nat.succ_le_of_lt hi)
      rwa [Nat.succ_mul] at this
    have h3 := World.ownsRow.cellAt h0 (i * k + j) (by omega)
    rw [h3, flatMap_get hk l i j x hx hj]
    exact hu
/-- What the call owns is a slice. -/
theorem Own.slv {α : Type} {w : World} {base : Nat} {E : TypeId} {k : Nat} {enc : α → List Value} {v : Value} {l : List α} (hk : ∀ x, (enc x).length = k) (h : Own w base E k enc v l) : ∃ ao L cap, v = .slice ao L cap := by
  obtain ⟨ao, cap, rfl, _⟩ := Own.sl h hk
  exact ⟨_, _, _, rfl⟩
theorem Own.blk {α : Type} {w : World} {base : Nat} {E : TypeId} {k : Nat} {enc : α → List Value} {l : List α} {g n cap : Nat} (h : Own w base E k enc (.slice (some ⟨g, 0, none⟩) n cap) l) : ∃ cur, w.heap[g]? = some (Obj.cells cur E (0, 0)) := by
  obtain ⟨_, h2⟩ := h
  rcases h2 with ⟨h2, _⟩ | ⟨g', cap', cur, hv, hg, hh, _⟩
  · cases h2
  · simp only [Value.slice.injEq, Option.some.injEq, Addr.mk.injEq, and_true] at hv
    obtain ⟨rfl, _⟩ := hv
    exact ⟨cur, hh⟩

def encI (n : Int) : List Value := [.int .i64 n]
theorem encI_len (n : Int) : (encI n).length = 1 := rfl
theorem infoI : (Tryd.prog.info? 3).map (fun i => (i.zero, i.size, i.bytes)) = some (some (.int .i64 0), 1, 8) := by kernel_rfl
theorem slI : SlT Tryd.prog 48 3 1 8 := by
  obtain ⟨i0, hi, hz0, hz1, hz2⟩ := info_parts infoI
  exact ⟨i0, _, Tryd.underlying48, hi, hz0, hz1, hz2, rfl, by decide, by decide⟩

def outB (n lo hi : Int) : Bool := decide (n < lo) || decide (hi < n)
theorem outB_no {n lo hi : Int} (h : outB n lo hi = false) : lo ≤ n ∧ n ≤ hi := by simp [outB] at h; omega
theorem outB_no' {n lo hi : Int} (h : ¬ outB n lo hi = true) : lo ≤ n ∧ n ≤ hi := outB_no (by simpa using h)

theorem out_any (n lo hi : Int) (w : World) :
    Calls Tryd.prog 40 #[.int .i64 n, .int .i64 lo, .int .i64 hi] w fun e w' => e = .returned (.bool (outB n lo hi)) ∧ w = w' := by
  by_cases h : n < lo
  · go_enter Tryd.func40, Tryd.ntmps40
    go_wp2
    go_ret
    exact ⟨by simp [outB, h], rfl⟩
  · go_enter Tryd.func40, Tryd.ntmps40
    go_wp2
    go_ret
    exact ⟨by simp [outB]; omega, rfl⟩
end Go.Proofs.YtmgbmoiefgfemaaDoor

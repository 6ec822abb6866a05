/- One element taken out of a slice that the call has built: plain, over cells. -/
import Derived.Test.YtmgbmoiefgfemaaDoorLib
import Derived.Laws.IdiomCopy
import Derived.Deep.Upon
namespace Go.Proofs.YtmgbmoiefgfemaaDoor
open Go.RowKit

theorem setCells_block {g : Nat} {t : TypeId} : ∀ (vs : List Value) (o : Nat) (w : World) (cur : Array Value), w.heap[g]? = some (.cells cur t (0, 0)) → o + vs.length ≤ cur.size →
    ∃ cur' : Array Value, (w.setCells g o vs).heap[g]? = some (.cells cur' t (0, 0)) ∧ cur'.toList = cur.toList.take o ++ vs ++ cur.toList.drop (o + vs.length)
  | [], o, w, cur, h, _ => ⟨cur, h, by simp⟩
  | v :: r, o, w, cur, h, hl => by
    obtain ⟨c', h1, h2⟩ := setCells_block r (o + 1) (w.setCell ⟨g, o, none⟩ v) (cur.setIfInBounds o v) (heap_setCell_same w g o cur t v h) (by simp at hl ⊢; omega)
    refine ⟨c', h1, ?_⟩
    rw [h2, Array.toList_setIfInBounds]
    have e := list_seg_step cur.toList o v r (by simp at hl ⊢; omega)
    simpa using e

theorem below_setCellsD {B g : Nat} {a : World} (hg : B ≤ g) : ∀ (vs : List Value) (o : Nat) (w : World), Below B a w → Below B a (w.setCells g o vs)
  | [], _, _, h => h
  | v :: r, o, _, h => below_setCellsD (a := a) hg r (o + 1) _ (h.setCell hg v)

theorem take_flat {α : Type} {enc : α → List Value} {k : Nat} (hk : ∀ x, (enc x).length = k) : ∀ (l : List α) (i : Nat), (l.flatMap enc).take (i * k) = (l.take i).flatMap enc
  | [], i => by simp
  | x :: r, 0 => by simp
  | x :: r, i + 1 => by
    rw [List.flatMap_cons, List.take_succ_cons, List.flatMap_cons, Nat.succ_mul, Nat.add_comm, ← hk x, List.take_length_add_append, hk x, take_flat hk r i]

theorem Own.erase {α : Type} {w : World} {base : Nat} {E : TypeId} {k : Nat} {enc : α → List Value} {l : List α} {g cap : Nat} (hk : ∀ x, (enc x).length = k) (h : Own w base E k enc (.slice (some ⟨g, 0, none⟩) l.length cap) l) {i : Nat} (hi : i < l.length) (zs : List Value) (hz : zs.length = k) :
    Own ((w.setCells g (i * k) ((l.drop (i + 1)).flatMap enc)).setCells g ((l.length - 1) * k) zs) base E k enc (.slice (some ⟨g, 0, none⟩) (l.length - 1) cap) (l.eraseIdx i) := by
  obtain ⟨h1, h2⟩ := h
  rcases h2 with ⟨h2, _⟩ | ⟨g', cap', cur, hv, hg, hh, hn, hm, hs, ht⟩
  · cases h2
  simp only [Value.slice.injEq, Option.some.injEq, Addr.mk.injEq, and_true, true_and] at hv
  obtain ⟨rfl, rfl⟩ := hv
  have hlen : (l.eraseIdx i).length = l.length - 1 := by rw [List.length_eraseIdx]; simp [hi]
  have hd : ((l.drop (i + 1)).flatMap enc).length = (l.length - 1 - i) * k := by rw [flatMap_len hk]; congr 1; simp; omega
  have hmul : i * k + (l.length - 1 - i) * k = (l.length - 1) * k := by rw [← Nat.add_mul]; congr 1; omega
  have hle1 : (l.length - 1) * k + k = l.length * k := by rw [← Nat.succ_mul]; congr 1; omega
  have hle2 : l.length * k ≤ cap * k := Nat.mul_le_mul_right k hn
  obtain ⟨c1, hc1, e1⟩ := setCells_block (g := g) ((l.drop (i + 1)).flatMap enc) (i * k) w cur hh (by rw [hd]; omega)
  have hsz1 : c1.size = cur.size := by
    have : c1.toList.length = cur.toList.length := by rw [e1]; simp only [List.length_append, List.length_take, List.length_drop, hd, Array.length_toList]; omega
    simpa using this
  obtain ⟨c2, hc2, e2⟩ := setCells_block (g := g) zs ((l.length - 1) * k) _ c1 hc1 (by rw [hz]; omega)
  have hsz2 : c2.size = c1.size := by
    have : c2.toList.length = c1.toList.length := by rw [e2]; simp only [List.length_append, List.length_take, List.length_drop, hz, Array.length_toList]; omega
    simpa using this
  refine ⟨by rw [flatMap_len hk], .inr ⟨g, cap, c2, by rw [hlen], hg, hc2, by rw [hlen]; omega, hm, by rw [hsz2, hsz1, hs], ?_⟩⟩
  rw [hlen, e2, List.append_assoc, List.take_append_of_le_length (by simp only [List.length_take, Array.length_toList]; omega), List.take_take, Nat.min_self, e1, ← hmul, ← hd,
    List.take_append_of_le_length (by simp only [List.length_append, List.length_take, Array.length_toList]; omega)]
  have hti : (cur.toList.take (i * k)).length = i * k := by simp only [List.length_take, Array.length_toList]; omega
  rw [List.take_of_length_le (by rw [List.length_append, hti]; exact Nat.le_refl _), List.eraseIdx_eq_take_drop_succ, List.flatMap_append, ← take_flat hk l i, ← ht, List.take_take]
  congr 2
  omega

/-- 'clear(s)', s one element of k cells. -/
theorem run_clear_one {P : Program} (w : World) (t e ty : TypeId) (z : Value) (zs : List Value) (ht : P.underlying t = some (.slice e)) (hv : ∀ w, (zeroValue e).run P w = .ok z w) (hz : z.cells = zs.toArray) (h1 : ∀ v, v ∈ zs → v.oneCell' = true) (b o c : Nat)
    (hc : ∀ j, j < zs.length → (w.cell? ⟨b, o + j, none⟩).isSome = true) (hf : ∀ j, j < zs.length → w.frozen? ⟨b, o + j, none⟩ = false) :
    (Builtin.clear_ #[t] ty #[.slice (some ⟨b, o, none⟩) 1 c]).run P w = .ok (.tuple #[]) (w.setCells b o zs) := by
  have hzc : (Builtin.zeroCells z.cells 1).toList = zs := by
    rw [hz]
    apply List.ext_getElem
    · simp [Builtin.zeroCells]
    · intro i h1 h2
      simp [Builtin.zeroCells, Nat.mod_eq_of_lt h2, List.getElem?_eq_getElem h2]
  have hst := run_storeCells_cells (P := P) b o zs 0 w (by simpa using hc) (by simpa using hf) h1
  simp only [Nat.add_zero] at hst
  simp [Builtin.clear_, run_underlying ht, hv, hzc, hst]
end Go.Proofs.YtmgbmoiefgfemaaDoor

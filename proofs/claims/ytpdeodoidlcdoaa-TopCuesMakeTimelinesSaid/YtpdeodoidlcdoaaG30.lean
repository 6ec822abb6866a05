/- The bits of the reference, and its bytes. -/
import Derived.Test.YtpdeodoidlcdoaaG04
import Derived.Test.YtpdeodoidlcdoaaG29
import Derived.Test.YtpdeodoidlcdoaaG26
namespace Go.Proofs.Ytpdeodoidlcdoaa
open Go.RowKit

def encT (t : Bool) : List Value := [.int .i64 (b01 t : Nat)]
theorem encT_len (t : Bool) : (encT t).length = 1 := rfl
abbrev BitsRet (w : World) (L : List Bool) : Ending → World → Prop := OwnRet w 3 1 encT L

theorem Own.fresh {α : Type} {enc : α → List Value} {k : Nat} (hk : ∀ x, (enc x).length = k) (w : World) {base : Nat} (hb : base ≤ w.heap.size) (E : TypeId) (l : List α) (hm : l.length ≤ maxLen) {C : List Value} (hC : l.flatMap enc = C) {n : Nat} (hn : l.length = n) :
    Own (w.alloc (.cells C.toArray E)) base E k enc (.slice (some ⟨w.heap.size, 0, none⟩) n n) l := by
  subst hC hn
  exact ⟨flatMap_len hk l, .inr ⟨w.heap.size, l.length, _, rfl, hb, heap_alloc_new w _, Nat.le_refl _, hm, by simp only [List.size_toArray]; exact flatMap_len hk l, by simp only; rw [← flatMap_len hk l]; exact List.take_length⟩⟩
end Go.Proofs.Ytpdeodoidlcdoaa

/- fields of the reference. -/
namespace Go.Proofs.Ytpdeodoidlcdoaa
open Go.RowKit
theorem bitsN_sm {n k : Nat} (h : k ≤ 60) : (bitsN n k).length ≤ 60 := by rw [bitsN_len]; exact h

theorem Own.low {α : Type} {w : World} {base base' : Nat} {E : TypeId} {k : Nat} {enc : α → List Value} {v : Value} {l : List α} (h : Own w base' E k enc v l) (hb : base ≤ base') : Own w base E k enc v l := by
  obtain ⟨h1, h2⟩ := h
  refine ⟨h1, ?_⟩
  rcases h2 with h2 | ⟨g, cap, cur, hv, hg, hr⟩
  · exact .inl h2
  · exact .inr ⟨g, cap, cur, hv, Nat.le_trans hb hg, hr⟩
/-- What stands in a step of fields. -/
def StF (w : World) (b : Obj) (L : List Bool) (s : Value) (wr : World) : Prop := Own wr (w.heap.size + 1) 3 1 encT s L ∧ wr.heap[w.heap.size]? = some b ∧ Below w.heap.size w wr
theorem StF.thru {w w1 w2 : World} {b : Obj} {L : List Bool} {s : Value} (h : StF w b L s w1) (hb : Below w1.heap.size w1 w2) : StF w b L s w2 :=
  ⟨h.1.below hb (Nat.le_refl _), (hb.block _ (lt_of_block h.2.1)).trans h.2.1, h.2.2.thru hb⟩
theorem StF.ext {w w1 w2 : World} {b : Obj} {L M : List Bool} {s s2 : Value} (h : StF w b L s w1) (ho : Own w2 (w.heap.size + 1) 3 1 encT s2 M) (hb : Below (w.heap.size + 1) w1 w2) : StF w b M s2 w2 :=
  ⟨ho, (hb.block _ (Nat.lt_succ_self _)).trans h.2.1, h.2.2.trans (hb.mono (Nat.le_succ _))⟩
theorem len_ok {L M : List Bool} (h1 : L.length ≤ 1000) (h2 : M.length ≤ 1000) : (L.length + M.length) * 8 ≤ 140737488355328 := by omega

end Go.Proofs.Ytpdeodoidlcdoaa

/- packed of the reference. -/
namespace Go.Proofs.Ytpdeodoidlcdoaa
open Go.RowKit

/-- j bits of byte i, as a number; what lacks is 1. -/
def accB (L : List Bool) (i : Nat) : Nat → Nat
  | 0 => 0
  | j + 1 => accB L i j * 2 + b01 (L.getD (8 * i + j) true)
theorem accB_lt (L : List Bool) (i : Nat) : ∀ j, accB L i j < 2 ^ j
  | 0 => by simp [accB]
  | j + 1 => by
    have h := accB_lt L i j
    have h2 := b01_lt (L.getD (8 * i + j) true)
    simp only [accB, Nat.pow_succ]
    omega
theorem accB_le (L : List Bool) (i j : Nat) (hj : j ≤ 8) : accB L i j < 256 :=
  Nat.lt_of_lt_of_le (accB_lt L i j) (by have := Nat.pow_le_pow_right (n := 2) (by omega) hj; simpa using this)
theorem accB_8 (L : List Bool) (i : Nat) : accB L i 8 = byD true L i := by
  simp only [accB, byD, Nat.add_zero]
  omega
theorem pkD_take {d : Bool} {L : List Bool} {i : Nat} (h : i < (L.length + 7) / 8) : (pkD d L).take (i + 1) = (pkD d L).take i ++ [UInt8.ofNat (byD d L i)] := take_next (pkD_get h)

end Go.Proofs.Ytpdeodoidlcdoaa

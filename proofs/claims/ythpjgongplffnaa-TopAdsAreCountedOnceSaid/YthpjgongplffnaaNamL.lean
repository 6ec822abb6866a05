/- The names of a timeline's advertisements, as the reference finds them: plain. -/
import Derived.Sort.Walk0
import Derived.Test.YthpjgongplffnaaCntL
namespace Go.Proofs.Ythpjgongplffnaa
open Go.RowKit

abbrev encN (s : ByteArray) : List Value := [.string s]
theorem encN_len (s : ByteArray) : (encN s).length = 1 := rfl
/-- Is a before b? -/
def ltB (a b : ByteArray) : Bool := Op.bytesLess a.toList b.toList
def downK (L : List ByteArray) (a : ByteArray) : Nat → Nat
  | 0 => 0
  | k + 1 => if ltB a (L.getD k ByteArray.empty) = true then downK L a k else k + 1
/-- Stands a before place k? -/
def hasB (L : List ByteArray) (a : ByteArray) (k : Nat) : Bool := decide (0 < k) && ((L.getD (k - 1) ByteArray.empty).toList == a.toList)
def insN (L : List ByteArray) (a : ByteArray) : List ByteArray :=
  if hasB L a (downK L a L.length) = true then L else L.take (downK L a L.length) ++ [a] ++ L.drop (downK L a L.length)
def nmN (l : List Prt) : Nat → List ByteArray
  | 0 => []
  | n + 1 => if noAd (l.getD n default) = true then nmN l n else insN (nmN l n) (l.getD n default).ad
theorem nmN_next {l : List Prt} {n : Nat} {p : Prt} (hx : l[n]? = some p) : nmN l (n + 1) = if noAd p = true then nmN l n else insN (nmN l n) p.ad := by
  have e : l.getD n default = p := by rw [List.getD_eq_getElem?_getD, hx]; rfl
  show (if noAd (l.getD n default) = true then nmN l n else insN (nmN l n) (l.getD n default).ad) = _
  rw [e]
theorem downK_le (L : List ByteArray) (a : ByteArray) : ∀ k, downK L a k ≤ k
  | 0 => Nat.le_refl _
  | k + 1 => by
    unfold downK
    split
    · exact Nat.le_succ_of_le (downK_le L a k)
    · exact Nat.le_refl _
theorem insN_len (L : List ByteArray) (a : ByteArray) : (insN L a).length ≤ L.length + 1 := by
  unfold insN
  split
  · omega
  · have := downK_le L a L.length
    simp
    omega
theorem nmN_len (l : List Prt) : ∀ n, (nmN l n).length ≤ n
  | 0 => Nat.le_refl _
  | n + 1 => by
    have ih := nmN_len l n
    show (if noAd (l.getD n default) = true then nmN l n else insN (nmN l n) (l.getD n default).ad).length ≤ n + 1
    split
    · omega
    · have := insN_len (nmN l n) (l.getD n default).ad
      omega
theorem downK_lt {L : List ByteArray} {a b : ByteArray} {k : Nat} (hb : L[k]? = some b) (h : ltB a b = true) : downK L a (k + 1) = downK L a k := by
  have e : L.getD k ByteArray.empty = b := by rw [List.getD_eq_getElem?_getD, hb]; rfl
  show (if ltB a (L.getD k ByteArray.empty) = true then downK L a k else k + 1) = _
  rw [e, if_pos h]
theorem downK_ge {L : List ByteArray} {a b : ByteArray} {k : Nat} (hb : L[k]? = some b) (h : ltB a b = false) : downK L a (k + 1) = k + 1 := by
  have e : L.getD k ByteArray.empty = b := by rw [List.getD_eq_getElem?_getD, hb]; rfl
  show (if ltB a (L.getD k ByteArray.empty) = true then downK L a k else k + 1) = _
  rw [e, if_neg (by rw [h]; simp)]
theorem ltB_eq (a b : ByteArray) : ltB a b = decide (a.data.toList < b.data.toList) := by
  unfold ltB
  rw [ByteArray.toList_eq, ByteArray.toList_eq]
  exact Go.Proofs.bytesLess_eq _ _
theorem ltB_gtr (a q : ByteArray) : (!(Op.bytesLess q.toList a.toList) && !(q.toList == a.toList)) = ltB a q := by
  show (!(ltB q a) && !(q.toList == a.toList)) = ltB a q
  rw [ltB_eq, ltB_eq, ByteArray.toList_eq, ByteArray.toList_eq]
  generalize q.data.toList = x
  generalize a.data.toList = y
  rw [Bool.eq_iff_iff]
  simp only [Bool.and_eq_true, Bool.not_eq_true', decide_eq_false_iff_not, beq_eq_false_iff_ne, decide_eq_true_eq]
  constructor
  · rintro ⟨h1, h2⟩
    rcases Decidable.em (y < x) with h | h
    · exact h
    · exact absurd (List.le_antisymm h h1) h2
  · intro h
    exact ⟨fun h2 => List.lt_irrefl _ (List.lt_trans h h2), fun e => by subst e; exact List.lt_irrefl _ h⟩
theorem Sl.dropA {α : Type} {w : World} {k : Nat} {enc : α → List Value} {l : List α} {b off cap : Nat} (h : Sl w k enc (.slice (some ⟨b, off, none⟩) l.length cap) l) (i : Nat) (hi : i ≤ l.length) :
    ∃ A : Addr, (if cap = i then (some ⟨b, off, none⟩ : Option Addr) else some ⟨b, off + i * k, none⟩) = some A ∧ Sl w k enc (.slice (some A) (l.length - i) (cap - i)) (l.drop i) := by
  obtain ⟨ao, cap', he, h2, h3, h4, hel⟩ := h
  simp only [Value.slice.injEq, true_and] at he
  obtain ⟨rfl, rfl⟩ := he
  by_cases e : cap = i
  · refine ⟨⟨b, off, none⟩, by rw [if_pos e], some ⟨b, off, none⟩, cap - i, by rw [List.length_drop], by rw [List.length_drop]; omega, by omega, fun h => by simp at h, fun j x hx => ?_⟩
    have : (l.drop i)[j]? = none := by rw [List.getElem?_eq_none]; rw [List.length_drop]; omega
    rw [this] at hx; cases hx
  · refine ⟨⟨b, off + i * k, none⟩, by rw [if_neg e], some ⟨b, off + i * k, none⟩, cap - i, by rw [List.length_drop], by rw [List.length_drop]; omega, by omega, fun h => by simp at h, fun j x hx => ⟨b, off + i * k, rfl, fun t u hu => ?_⟩⟩
    rw [List.getElem?_drop] at hx
    obtain ⟨b', off', hb, hc⟩ := hel _ x hx
    simp only [Option.some.injEq, Addr.mk.injEq, and_true] at hb
    obtain ⟨rfl, rfl⟩ := hb
    have := hc t u hu
    rw [← this, Nat.add_mul, ← Nat.add_assoc]

theorem Own.rebase {α : Type} {w : World} {base b2 : Nat} {E : TypeId} {k : Nat} {enc : α → List Value} {v : Value} {l : List α} (h : Own w base E k enc v l) (hb : b2 ≤ base) : Own w b2 E k enc v l := by
  obtain ⟨q1, q2⟩ := h
  refine ⟨q1, ?_⟩
  rcases q2 with q2 | ⟨g, cap, cur, e1, e2, r⟩
  · exact Or.inl q2
  · exact Or.inr ⟨g, cap, cur, e1, Nat.le_trans hb e2, r⟩
theorem Own.slw {α : Type} {w : World} {base : Nat} {E : TypeId} {k : Nat} {enc : α → List Value} {v : Value} {l : List α} (h : Own w base E k enc v l) : (v = .slice none 0 0 ∧ l = []) ∨ ∃ g cap, v = .slice (some ⟨g, 0, none⟩) l.length cap := by
  obtain ⟨q1, q2⟩ := h
  rcases q2 with ⟨q2, q3⟩ | ⟨g, cap, cur, e1, r⟩
  · exact Or.inl ⟨q2, List.length_eq_zero_iff.1 q3⟩
  · exact Or.inr ⟨g, cap, e1⟩
end Go.Proofs.Ythpjgongplffnaa

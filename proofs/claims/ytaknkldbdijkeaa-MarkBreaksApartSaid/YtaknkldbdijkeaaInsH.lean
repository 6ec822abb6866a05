/- slices.Insert of one cue that is heard, into what the call has built. -/
import Derived.Test.YtaknkldbdijkeaaCloneH
import Derived.Test.YtaknkldbdijkeaaDel
import Derived.Shelf.Spec.SlicesInsert
import Derived.Lib.AppendZerosOnto
import Derived.Laws.NewBlocks
import Derived.Deep.RegionLaw
namespace Go.Proofs.Ytaknkldbdijkeaa
open Go.RowKit Go.Lib

theorem run_copy_k {P : Program} (w : World) (dT sT ty elem : TypeId) (k b o dLen dCap : Nat) (a : Addr) (sLen sCap n : Nat) (cs : List Value)
    (hu : P.underlying dT = some (.slice elem)) (hs : (P.info? elem).map (·.size) = some k) (hn : n = Nat.min sLen dLen) (hcs : cs.length = n * k)
    (hsrc : ∀ j v, cs[j]? = some v → w.cell? (a.add j) = some v) (hc : ∀ j, j < cs.length → (w.cell? ⟨b, o + j, none⟩).isSome = true) (hf : ∀ j, j < cs.length → w.frozen? ⟨b, o + j, none⟩ = false) (h1 : ∀ v ∈ cs, v.oneCell' = true) :
    (Builtin.copy_ #[dT, sT] ty #[.slice (some ⟨b, o, none⟩) dLen dCap, .slice (some a) sLen sCap]).run P w = .ok (goInt n) (w.setCells b o cs) := by
  have hl := run_loadCells_list (P := P) w a cs hsrc
  have hst := run_storeCells_cells (P := P) b o cs 0 w (by simpa using hc) (by simpa using hf) h1
  cases hq : P.info? elem with
  | none => simp [hq] at hs
  | some i =>
    have hi : i.size = k := by simpa [hq] using hs
    simp [Builtin.copy_, run_underlying hu, Builtin.lenOf, Builtin.firstCells, sizeOf, typeInfo, hq, hi, ← hn, ← hcs, hl, hst]
theorem Own.of_row {α : Type} {w : World} {base : Nat} {E : TypeId} {k : Nat} {enc : α → List Value} {m : List α} {g cap : Nat} {cur : Array Value} (hk : ∀ x, (enc x).length = k) (hg : base ≤ g) (hh : w.heap[g]? = some (.cells cur E (0, 0))) (hs : cur.size = cap * k) (hn : m.length ≤ cap) (hm : cap ≤ maxLen) (ht : cur.toList.take (m.length * k) = m.flatMap enc) :
    Own w base E k enc (.slice (some ⟨g, 0, none⟩) m.length cap) m := ⟨by rw [flatMap_len hk], .inr ⟨g, cap, cur, rfl, hg, hh, hn, hm, hs, ht⟩⟩
theorem ins_len (l : List Hrd) (x : Hrd) (i : Nat) (hi : i ≤ l.length) : (l.take i ++ x :: l.drop i).length = l.length + 1 := by simp; omega
/-- What stands in the row behind both copies. -/
theorem ins_row {l : List Hrd} {x : Hrd} {i : Nat} (hi : i ≤ l.length) {A B : List Value} (hA : A.take (i * 7) = (l.take i).flatMap encH) (hB : B = A.take (i * 7) ++ encH x ++ (l.drop i).flatMap encH ++ B.drop ((l.length + 1) * 7)) : B.take ((l.length + 1) * 7) = (l.take i ++ x :: l.drop i).flatMap encH := by
  have e : (l.take i ++ x :: l.drop i).flatMap encH = (l.take i).flatMap encH ++ encH x ++ (l.drop i).flatMap encH := by simp
  have hl : ((l.take i).flatMap encH ++ encH x ++ (l.drop i).flatMap encH).length = (l.length + 1) * 7 := by
    rw [← e, flatMap_len encH_len, ins_len l x i hi]
  rw [hB, hA, List.take_append_of_le_length (by rw [hl]; exact Nat.le_refl _), List.take_of_length_le (by rw [hl]; exact Nat.le_refl _), e]
end Go.Proofs.Ytaknkldbdijkeaa

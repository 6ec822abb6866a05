/- slices.SortFunc of counts that are nought. -/
import Derived.Lib.OwnBridge
import Derived.Test.YthpjgongplffnaaLibK
import Derived.Test.YthpjgongplffnaaZerK
import Derived.Test.YthpjgongplffnaaCloK
namespace Go.Proofs.Ythpjgongplffnaa
open Go.RowKit Go.Lib Go.Sort Go.Shelf

section
variable {α : Type} [Inhabited α] {w : World} {base g cap k : Nat} {E : TypeId} {enc : α → List Value} {l ys : List α}
theorem flatK_eq (hk : ∀ x, (enc x).length = k) (l : List α) : flatK enc k l.toArray = (l.flatMap enc).toArray := by
  have hlen := flatMap_len hk l
  refine ext_get! (by simp [hlen]) fun t ht => ?_
  have ht' : t < l.length * k := by simpa using ht
  rw [get_flatK _ _ _ t (by simpa using ht')]
  have k0 : 0 < k := by rcases Nat.eq_zero_or_pos k with h | h; · subst h; simp at ht'
                        · exact h
  have hq : t / k < l.length := Nat.div_lt_of_lt_mul (by rwa [Nat.mul_comm] at ht')
  have h1 := flatMap_get hk l (t / k) (t % k) l[t / k] (List.getElem?_eq_getElem hq) (Nat.mod_lt _ k0)
  rw [Nat.mul_comm, Nat.div_add_mod] at h1
  have e1 : (l.toArray[t / k]! : α) = l[t / k] := by simp [hq]
  have h2 : t < (l.flatMap enc).length := by omega
  have h3 : t % k < (enc l[t / k]).length := by rw [hk]; exact Nat.mod_lt _ k0
  rw [e1, getElem!_pos (enc l[t / k]) (t % k) h3, getElem!_pos (l.flatMap enc).toArray t (by simpa using h2)]
  rw [List.getElem?_eq_getElem h2, List.getElem?_eq_getElem h3] at h1
  simpa using h1.symm
theorem holdsK_own (hk : ∀ x, (enc x).length = k) (h : Own w base E k enc (.slice (some ⟨g, 0, none⟩) l.length cap) l) : HoldsK enc k w g 0 l.toArray := by
  unfold HoldsK
  rw [flatK_eq hk]
  obtain ⟨h1, h2⟩ := h
  rcases h2 with ⟨e0, _⟩ | ⟨g', cap', cur, e0, hb, hg, hn, hm, hs, ht⟩
  · cases e0
  · simp only [Value.slice.injEq, Option.some.injEq, Addr.mk.injEq, and_true] at e0
    obtain ⟨rfl, _, rfl⟩ := e0
    intro j hj
    have hj' : j < (l.flatMap enc).length := by simpa using hj
    refine ⟨?_, by simp [World.frozen?, hg]⟩
    have e1 : (cur.toList.take (l.length * k))[j]? = (l.flatMap enc)[j]? := by rw [ht]
    rw [List.getElem?_take, if_pos (by omega), Array.getElem?_toList] at e1
    simp only [World.cell?, hg, Nat.zero_add]
    simp only [Option.isSome_none, Bool.false_eq_true, if_false]
    rw [e1, List.getElem?_eq_getElem hj', getElem!_pos (l.flatMap enc).toArray j hj]
    simp
theorem heap_grow (W : World) (os : Array Obj) {i : Nat} (h : i < W.heap.size) : (grow W os).heap[i]? = W.heap[i]? := by
  show (W.heap ++ os)[i]? = _
  rw [Array.getElem?_append_left h]
theorem own_sortK (hk : ∀ x, (enc x).length = k) (h : Own w base E k enc (.slice (some ⟨g, 0, none⟩) l.length cap) l) (hy : ys.length = l.length) (q : Nat) (os : Array Obj) :
    Own (sortWorldK enc k w g 0 q ys.toArray os) base E k enc (.slice (some ⟨g, 0, none⟩) l.length cap) ys := by
  have hlen := flatMap_len hk ys
  obtain ⟨h1, h2⟩ := h
  rcases h2 with ⟨e0, _⟩ | ⟨g', cap', cur, e0, hb, hg, hn, hm, hs, ht⟩
  · cases e0
  · simp only [Value.slice.injEq, Option.some.injEq, Addr.mk.injEq, and_true] at e0
    obtain ⟨rfl, _, rfl⟩ := e0
    have hlt : g < w.heap.size := lt_of_block hg
    have hmul : l.length * k ≤ cap * k := Nat.mul_le_mul_right k hn
    unfold Own
    rw [hy]
    refine ⟨by rw [hlen, hy], .inr ⟨g, cap, putCells id 0 (ys.flatMap enc).toArray cur, rfl, hb, ?_, hn, hm, by simpa [putCells] using hs, ?_⟩⟩
    · unfold sortWorldK
      rw [heap_grow _ _ (by simpa [putRowK, putRow, mapBlock, Sort.ahead] using hlt)]
      unfold putRowK
      rw [flatK_eq hk]
      simp [putRow, mapBlock, Sort.ahead, Array.getElem?_modify, hg, onCells]
    · apply List.ext_getElem?
      intro j
      rw [List.getElem?_take, Array.getElem?_toList]
      by_cases hj : j < l.length * k
      · have hjc : j < cur.size := by omega
        have hjy : j < (ys.flatMap enc).length := by rw [hlen, hy]; exact hj
        simp only [if_pos hj, putCells, Array.getElem?_mapIdx, Array.getElem?_eq_getElem hjc, Option.map_some]
        rw [if_pos (show 0 ≤ j ∧ j < 0 + (ys.flatMap enc).toArray.size from ⟨Nat.zero_le _, by rw [Nat.zero_add]; exact hjy⟩), List.getElem?_eq_getElem hjy]
        simp only [Nat.sub_zero, id]
        rw [getElem!_pos (ys.flatMap enc).toArray j (by simpa using hjy)]
        simp
      · rw [if_neg hj, List.getElem?_eq_none (by rw [hlen, hy]; omega)]
theorem below_sortK {w0 : World} (h : Below base w0 w) (hg : base ≤ g) (hb : base ≤ w0.heap.size) (q : Nat) (os : Array Obj) (ys : Array α) : Below base w0 (sortWorldK enc k w g 0 q ys os) := by
  have h1 : Below base w0 (putRowK enc k (Sort.ahead w q) g 0 ys) := below_putRow h hg
  unfold sortWorldK
  exact ⟨h1.os, h1.tape, h1.output, Nat.le_trans h1.size (by simp [grow]), fun i hi => by
    have hs := h1.size
    rw [heap_grow _ _ (by omega)]
    exact h1.block i hi⟩
end

theorem clo2_lays (a b : ByteArray) (w : World) : Calls Try.prog 22 #[.agg (encZ a).toArray, .agg (encZ b).toArray] w fun e w' => e = .returned (.int .i64 (cmpZ a b)) ∧ ∃ q os', w' = grow (w.drewN q) os' := by
  cases hlt : Op.bytesLess a.toList b.toList with
  | true =>
    have hv : Hid (-1 = cmpZ a b) := Lib.hid (by rw [cmpZ, ltB, hlt, if_pos rfl])
    go_enter Try.func22, Try.ntmps22
    go_wp2
    go_ret
    exact ⟨ret_int hv.out, 0, _, by rw [alloc_eq_grow, alloc_eq_grow, grow_grow]; rfl⟩
  | false =>
    have hv : Hid (1 = cmpZ a b) := Lib.hid (by rw [cmpZ, ltB, hlt, if_neg Bool.false_ne_true])
    go_enter Try.func22, Try.ntmps22
    go_wp2
    go_ret
    exact ⟨ret_int hv.out, 0, _, by rw [alloc_eq_grow, alloc_eq_grow, grow_grow]; rfl⟩

/-- slices.SortFunc of what the call owns. -/
theorem sortC_any (w : World) (base g cap : Nat) (L : List ByteArray) (h : Own w base 41 6 encZ (.slice (some ⟨g, 0, none⟩) L.length cap) L) (hb : base ≤ w.heap.size) (hn : L.length ≤ 1000) :
    Calls Try.prog 21 #[.slice (some ⟨g, 0, none⟩) L.length cap, .func (.func 22) #[] #[]] w fun e w' =>
      e = .returned (.tuple #[]) ∧ Own w' base 41 6 encZ (.slice (some ⟨g, 0, none⟩) L.length cap) (sortN L) ∧ Below base w w' := by
  have hlt := World.ownsRow.lt h g rfl
  have eg : ∀ args w, (callFunc 22 args).run Try.prog w = .ok (.enter 22 args) w := enters_of Try.func22 (by kernel_rfl) rfl
  have hcon := AnyQ.slices_SortFunc_total Try.sortK 6 Try.isAgg41 Try.sizeOf41 encZ (fun _ => rfl) (fun x v hv => by simp at hv; rcases hv with rfl | rfl <;> rfl) cmpZ swoZ 22 #[] g 0 cap L.toArray w eg (fun _ _ _ _ x y => clo2_lays x y _) (holdsK_own encZ_len h) hlt.2 (by simp; omega) totZ
  have hcon2 : Calls Try.prog 21 #[.slice (some ⟨g, 0, none⟩) L.length cap, .func (.func 22) #[] #[]] w fun e w' =>
      e = .returned (.tuple #[]) ∧ ∃ n os, w' = sortWorldK encZ 6 w g 0 n (sortN L).toArray os := by
    rw [List.size_toArray] at hcon
    exact hcon
  refine hcon2.mono ?_
  rintro e w' ⟨rfl, nn, os, rfl⟩
  exact ⟨rfl, own_sortK encZ_len h (sortN_len L) nn os, below_sortK (Below.refl _ _) hlt.1 hb nn os _⟩
theorem sortC_own (w : World) (base : Nat) (L : List ByteArray) (v : Value) (h : Own w base 41 6 encZ v L) (hb : base ≤ w.heap.size) (hn : L.length ≤ 1000) :
    Calls Try.prog 21 #[v, .func (.func 22) #[] #[]] w fun e w' =>
      e = .returned (.tuple #[]) ∧ Own w' base 41 6 encZ v (sortN L) ∧ Below base w w' := by
  rcases h.slw with ⟨rfl, rfl⟩ | ⟨g, cap, rfl⟩
  · have hcon : Calls Try.prog 21 #[.slice none 0 0, .func (.func 22) #[] #[]] w fun e w' => e = .returned (.tuple #[]) ∧ w' = w := AnyF.slices_SortFunc_none Try.sortK none 0 _ w
    refine hcon.mono ?_
    rintro e w' ⟨rfl, rfl⟩
    exact ⟨rfl, by rw [show sortN [] = [] from by simp [sortN]]; exact Own.nil, Below.refl _ _⟩
  · exact sortC_any w base g cap L h hb hn
end Go.Proofs.Ythpjgongplffnaa

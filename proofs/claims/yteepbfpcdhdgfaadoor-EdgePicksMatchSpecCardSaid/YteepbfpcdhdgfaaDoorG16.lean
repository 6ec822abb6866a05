/- One element taken out of a slice that the call has built: plain, over cells. -/
import Derived.Test.YteepbfpcdhdgfaaDoorG03
import Derived.Laws.IdiomCopy
import Derived.Deep.Upon
import Derived.Test.YteepbfpcdhdgfaaDoorG15
import Derived.Test.YteepbfpcdhdgfaaDoorG05
import Derived.Test.YteepbfpcdhdgfaaDoorG14
import Derived.Test.YteepbfpcdhdgfaaDoorG07
namespace Go.Proofs.YteepbfpcdhdgfaaDoor
open Go.RowKit

theorem setCells_block {g : Nat} {t : TypeId} : ∀ (vs : List Value) (o : Nat) (w : World) (cur : Array Value), w.heap[g]? = some (.cells cur t (0, 0)) → o + vs.length ≤ cur.size →
    ∃ cur' : Array Value, (w.setCells g o vs).heap[g]? = some (.cells cur' t (0, 0)) ∧ cur'.toList = cur.toList.take o ++ vs ++ cur.toList.drop (o + vs.length)
  | [], o, w, cur, h, _ => ⟨cur, h, by simp⟩
  | v :: r, o, w, cur, h, hl => by
    obtain ⟨c', h1, h2⟩ := setCells_block r (o + 1) (w.setCell ⟨g, o, none⟩ v) (cur.setIfInBounds o v) (heap_setCell_same w g o cur t v h) (by simp at hl ⊢; omega)
    refine ⟨c', h1, ?_⟩
    rw [h2, Array.toList_setIfInBounds]
    have e := list_seg_step cur.toList o v r (by simp at hl ⊢; omega)
    simpa using e

theorem below_setCellsD {B g : Nat} {a : World} (hg : B ≤ g) : ∀ (vs : List Value) (o : Nat) (w : World), Below B a w → Below B a (w.setCells g o vs)
  | [], _, _, h => h
  | v :: r, o, _, h => below_setCellsD (a := a) hg r (o + 1) _ (h.setCell hg v)

theorem take_flat {α : Type} {enc : α → List Value} {k : Nat} (hk : ∀ x, (enc x).length = k) : ∀ (l : List α) (i : Nat), (l.flatMap enc).take (i * k) = (l.take i).flatMap enc
  | [], i => by simp
  | x :: r, 0 => by simp
  | x :: r, i + 1 => by
    rw [List.flatMap_cons, List.take_succ_cons, List.flatMap_cons, Nat.succ_mul, Nat.add_comm, ← hk x, List.take_length_add_append, hk x, take_flat hk r i]

theorem Own.erase {α : Type} {w : World} {base : Nat} {E : TypeId} {k : Nat} {enc : α → List Value} {l : List α} {g cap : Nat} (hk : ∀ x, (enc x).length = k) (h : Own w base E k enc (.slice (some ⟨g, 0, none⟩) l.length cap) l) {i : Nat} (hi : i < l.length) (zs : List Value) (hz : zs.length = k) :
    Own ((w.setCells g (i * k) ((l.drop (i + 1)).flatMap enc)).setCells g ((l.length - 1) * k) zs) base E k enc (.slice (some ⟨g, 0, none⟩) (l.length - 1) cap) (l.eraseIdx i) := by
  obtain ⟨h1, h2⟩ := h
  rcases h2 with ⟨h2, _⟩ | ⟨g', cap', cur, hv, hg, hh, hn, hm, hs, ht⟩
  · cases h2
  simp only [Value.slice.injEq, Option.some.injEq, Addr.mk.injEq, and_true, true_and] at hv
  obtain ⟨rfl, rfl⟩ := hv
  have hlen : (l.eraseIdx i).length = l.length - 1 := by rw [List.length_eraseIdx]; simp [hi]
  have hd : ((l.drop (i + 1)).flatMap enc).length = (l.length - 1 - i) * k := by rw [flatMap_len hk]; congr 1; simp; omega
  have hmul : i * k + (l.length - 1 - i) * k = (l.length - 1) * k := by rw [← Nat.add_mul]; congr 1; omega
  have hle1 : (l.length - 1) * k + k = l.length * k := by rw [← Nat.succ_mul]; congr 1; omega
  have hle2 : l.length * k ≤ cap * k := Nat.mul_le_mul_right k hn
  obtain ⟨c1, hc1, e1⟩ := setCells_block (g := g) ((l.drop (i + 1)).flatMap enc) (i * k) w cur hh (by rw [hd]; omega)
  have hsz1 : c1.size = cur.size := by
    have : c1.toList.length = cur.toList.length := by rw [e1]; simp only [List.length_append, List.length_take, List.length_drop, hd, Array.length_toList]; omega
    simpa using this
  obtain ⟨c2, hc2, e2⟩ := setCells_block (g := g) zs ((l.length - 1) * k) _ c1 hc1 (by rw [hz]; omega)
  have hsz2 : c2.size = c1.size := by
    have : c2.toList.length = c1.toList.length := by rw [e2]; simp only [List.length_append, List.length_take, List.length_drop, hz, Array.length_toList]; omega
    simpa using this
  refine ⟨by rw [flatMap_len hk], .inr ⟨g, cap, c2, by rw [hlen], hg, hc2, by rw [hlen]; omega, hm, by rw [hsz2, hsz1, hs], ?_⟩⟩
  rw [hlen, e2, List.append_assoc, List.take_append_of_le_length (by simp only [List.length_take, Array.length_toList]; omega), List.take_take, Nat.min_self, e1, ← hmul, ← hd,
    List.take_append_of_le_length (by simp only [List.length_append, List.length_take, Array.length_toList]; omega)]
  have hti : (cur.toList.take (i * k)).length = i * k := by simp only [List.length_take, Array.length_toList]; omega
  rw [List.take_of_length_le (by rw [List.length_append, hti]; exact Nat.le_refl _), List.eraseIdx_eq_take_drop_succ, List.flatMap_append, ← take_flat hk l i, ← ht, List.take_take]
  congr 2
  omega

/-- 'clear(s)', s one element of k cells. -/
theorem run_clear_one {P : Program} (w : World) (t e ty : TypeId) (z : Value) (zs : List Value) (ht : P.underlying t = some (.slice e)) (hv : ∀ w, (zeroValue e).run P w = .ok z w) (hz : z.cells = zs.toArray) (h1 : ∀ v, v ∈ zs → v.oneCell' = true) (b o c : Nat)
    (hc : ∀ j, j < zs.length → (w.cell? ⟨b, o + j, none⟩).isSome = true) (hf : ∀ j, j < zs.length → w.frozen? ⟨b, o + j, none⟩ = false) :
    (Builtin.clear_ #[t] ty #[.slice (some ⟨b, o, none⟩) 1 c]).run P w = .ok (.tuple #[]) (w.setCells b o zs) := by
  have hzc : (Builtin.zeroCells z.cells 1).toList = zs := by
    rw [hz]
    apply List.ext_getElem
    · simp [Builtin.zeroCells]
    · intro i h1 h2
      simp [Builtin.zeroCells, Nat.mod_eq_of_lt h2, List.getElem?_eq_getElem h2]
  have hst := run_storeCells_cells (P := P) b o zs 0 w (by simpa using hc) (by simpa using hf) h1
  simp only [Nat.add_zero] at hst
  simp [Builtin.clear_, run_underlying ht, hv, hzc, hst]
end Go.Proofs.YteepbfpcdhdgfaaDoor

/- slices.Index and slices.Insert at []string. -/
namespace Go.Proofs.YteepbfpcdhdgfaaDoor
open Go.RowKit

theorem index_any (D : List ByteArray) (x : ByteArray) (v : Value) (w : World) (h : Sl w 1 encS v D) :
    Calls Tryd.prog 50 #[v, .string x] w fun e w' => e = .returned (.int .i64 (Lib.idxOfS D x)) ∧ w' = w := by
  obtain ⟨ao, cap, rfl, hcap, hmax, hnil, hel⟩ := h
  unfold maxLen at hmax
  by_cases he : D = []
  · subst he
    exact Any.slices_Index_string_empty Tryd.lays109 ao cap x w
  · have h0 : 0 < D.length := List.length_pos_iff.2 he
    obtain ⟨b, off, rfl, _⟩ := hel 0 D[0] (by simp)
    have h2 := Any.slices_Index_string Tryd.lays109 b off D.length cap D x w (Nat.le_refl _) (by omega) (fun j hj => by
      obtain ⟨b', off', e, hc⟩ := hel j D[j] (by simp)
      simp only [Option.some.injEq, Addr.mk.injEq, and_true] at e
      obtain ⟨rfl, rfl⟩ := e
      have := hc 0 _ rfl
      simp only [Nat.mul_one, Nat.add_zero] at this
      rw [this]
      simp [List.getD_eq_getElem?_getD, hj])
    rw [List.take_length] at h2
    exact h2
def strV (l : List ByteArray) : List Value := l.map Value.string
theorem flat_str (l : List ByteArray) : l.flatMap encS = strV l := by
  induction l with
  | nil => rfl
  | cons a r ih => rw [List.flatMap_cons, ih]; rfl
theorem Own.of_rowS {w : World} {base : Nat} {m : List ByteArray} {g cap : Nat} {cur : Array Value} (hg : base ≤ g) (hh : w.heap[g]? = some (.cells cur 9 (0, 0))) (hs : cur.size = cap) (hn : m.length ≤ cap) (hm : cap ≤ maxLen) (ht : cur.toList.take m.length = strV m) :
    Own w base 9 1 encS (.slice (some ⟨g, 0, none⟩) m.length cap) m := ⟨flatMap_len encS_len m, .inr ⟨g, cap, cur, rfl, hg, hh, hn, hm, by rw [hs, Nat.mul_one], by rw [Nat.mul_one, flat_str]; exact ht⟩⟩
def InsPS (base : Nat) (w : World) (m : List ByteArray) : Ending → World → Prop := fun e w' => ∃ v', e = .returned v' ∧ Own w' base 9 1 encS v' m ∧ Below base w w'
theorem ins_lenS (l : List ByteArray) (x : ByteArray) (i : Nat) (hi : i ≤ l.length) : (l.take i ++ x :: l.drop i).length = l.length + 1 := by simp; omega
theorem ins_strV (l : List ByteArray) (x : ByteArray) (i : Nat) : strV (l.take i ++ x :: l.drop i) = (strV l).take i ++ [Value.string x] ++ (strV l).drop i := by
  unfold strV
  simp [List.map_take, List.map_drop]
theorem zeroCellsS (n : Nat) : (Builtin.zeroCells (Value.string ⟨#[]⟩).cells n).size = n := by simp [Builtin.zeroCells, Value.cells]
set_option maxHeartbeats 1000000 in
/-- A string is put in. -/
theorem insS_any (w : World) (base vb i : Nat) (l : List ByteArray) (x : ByteArray) (v : Value) (hown : Own w base 9 1 encS v l) (hbase : base ≤ w.heap.size) (hlen : l.length ≤ 1000000) (hi : i ≤ l.length) (hvb : w.heap[vb]? = some (.cells #[.string x] 9 (0, 0))) (hoff : offB vb v) :
    Calls Tryd.prog 43 #[v, .int .i64 i, .slice (some ⟨vb, 0, none⟩) 1 1] w (InsPS base w (l.take i ++ x :: l.drop i)) := by
  have hvs : ∀ j u, ([Value.string x] : List Value)[j]? = some u → w.cell? ⟨vb, 0 + j, none⟩ = some u := fun j u hu => by
    rw [Nat.zero_add, cell_of_block hvb]
    simpa using hu
  have h1v : ∀ u ∈ ([Value.string x] : List Value), u.oneCell' = true := fun u hu => by simp at hu; subst hu; rfl
  have hml := ins_lenS l x i hi
  have hsl : (strV l).length = l.length := by simp [strV]
  have h1c : ∀ u ∈ strV l, u.oneCell' = true := fun u hu => by
    unfold strV at hu
    rw [List.mem_map] at hu
    obtain ⟨y, _, rfl⟩ := hu
    rfl
  have hlt := World.ownsRow.lt hown
  obtain ⟨q1, q2⟩ := hown
  have hgc : ∀ c, l.length + 1 ≤ grownCap w (l.length + 1) c 9 := fun c => grownCap_ge w _ _ _
  have hgm : ∀ c, grownCap w (l.length + 1) c 9 ≤ maxLen := fun c => grownCap_le_maxLen w (l.length + 1) c 9 (by unfold maxLen; omega)
  rcases q2 with ⟨rfl, q2⟩ | ⟨g, cap, cur, rfl, hg, hh, hn, hm, hs, ht⟩
  · obtain rfl : l = [] := List.length_eq_zero_iff.1 q2
    obtain rfl : i = 0 := by simpa using hi
    have h := Any2.slices_Insert_string_end_grow Tryd.lays22 none 0 0 vb 0 1 1 [] [Value.string x] w (by omega) (Nat.le_refl _) (by omega) (by omega) rfl rfl (fun _ => rfl) (fun a ha => by cases ha) hvs h1v
    refine h.mono ?_
    rintro e w' ⟨rfl, rfl⟩
    refine ⟨_, rfl, ?_, (Below.refl base w).drew.alloc hbase _⟩
    have h0 : 0 + 1 ≤ grownCap w (0 + 1) 0 9 := grownCap_ge w _ _ _
    have h1 : grownCap w (0 + 1) 0 9 ≤ maxLen := grownCap_le_maxLen w (0 + 1) 0 9 (by unfold maxLen; omega)
    exact Own.of_rowS (m := [x]) hbase (block_new w.drew _) (by
      rw [Array.size_append, zeroCellsS]
      show 1 + (grownCap w (0 + 1) 0 9 - (0 + 1)) = grownCap w (0 + 1) 0 9
      omega) h0 h1 (by simp [strV])
  · rw [Nat.mul_one] at hs
    rw [Nat.mul_one, flat_str] at ht
    have hgl := (hlt g rfl).2
    have hcl : ∀ j u, (strV l)[j]? = some u → w.cell? ⟨g, 0 + j, none⟩ = some u := fun j u hu => by
      rw [Nat.zero_add, cell_of_block hh]
      rw [← ht, List.getElem?_take] at hu
      split at hu
      · simpa using hu
      · cases hu
    have hvg : vb ≠ g := fun e => hoff _ _ _ rfl e.symm
    unfold maxLen at hm
    by_cases hroom : l.length + 1 ≤ cap
    · have hsp : ∀ j, j < cap → (w.cell? ⟨g, j, none⟩).isSome = true := fun j hj => by
        rw [cell_of_block hh, Array.getElem?_eq_getElem (by rw [hs]; exact hj)]; rfl
      have hfz : ∀ j, w.frozen? ⟨g, j, none⟩ = false := fun j => by simp [World.frozen?, hh]
      have hcs : cur.toList.length = cap := by simpa using hs
      by_cases he : i = l.length
      · subst he
        have h := Any2.slices_Insert_string_end_room Tryd.lays22 g 0 l.length cap vb 0 1 1 [Value.string x] w (by omega) hroom hm rfl (fun j hj => hsp _ (by omega)) (fun j hj => hfz _) hvs h1v
        refine h.mono ?_
        rintro e w' ⟨rfl, rfl⟩
        obtain ⟨cur1, hc1, hl1⟩ := setCells_block (g := g) [Value.string x] (0 + l.length) w cur hh (by simp [hs]; omega)
        refine ⟨_, rfl, ?_, below_setCellsD hg _ _ _ (Below.refl base w)⟩
        rw [← hml]
        refine Own.of_rowS hg hc1 (by
          have : cur1.toList.length = cap := by
            rw [hl1]
            simp only [List.length_append, List.length_take, List.length_drop, hcs, List.length_cons, List.length_nil]
            omega
          simpa using this) (by rw [hml]; exact hroom) (by unfold maxLen; omega) ?_
        rw [hml, ins_strV, hl1, Nat.zero_add, ht, List.take_of_length_le (show (strV l).length ≤ l.length by omega), List.drop_of_length_le (show (strV l).length ≤ l.length by omega), List.append_nil]
        exact List.take_left' (by simp [hsl])
      · have h := Any2.slices_Insert_string_shift Tryd.lays22 g 0 l.length cap i vb 0 1 1 (strV l) [Value.string x] w (by omega) (by omega) hroom hm hvg hsl rfl hcl (fun j hj => by rw [Nat.zero_add]; exact hsp _ (by omega)) (fun j hj => hfz _) hvs h1c h1v 9 9 1 cap (by simp [World.shape?, hvb]) (by simp [World.shape?, hh, hs]) (by omega) (by simp [World.frozen?, hvb]) (by simp [World.frozen?, hvb])
        refine h.mono ?_
        rintro e w' ⟨rfl, rfl⟩
        have hdl : ((strV l).drop i).length = l.length - i := by rw [List.length_drop, hsl]
        obtain ⟨cur1, hc1, hl1⟩ := setCells_block (g := g) ((strV l).drop i) (0 + (i + 1)) w.drew cur hh (by rw [hdl, hs]; omega)
        have hs1 : cur1.toList.length = cap := by
          rw [hl1]
          simp only [List.length_append, List.length_take, List.length_drop, hcs, hsl]
          omega
        obtain ⟨cur2, hc2, hl2⟩ := setCells_block (g := g) [Value.string x] (0 + i) (w.drew.setCells g (0 + (i + 1)) ((strV l).drop i)) cur1 hc1 (by
          have h3 : cur1.size = cap := by simpa using hs1
          simp only [List.length_cons, List.length_nil]
          omega)
        have hs2 : cur2.toList.length = cap := by
          rw [hl2]
          simp only [List.length_append, List.length_take, List.length_drop, hs1, List.length_cons, List.length_nil]
          omega
        refine ⟨_, rfl, ?_, below_setCellsD hg _ _ _ (below_setCellsD hg _ _ _ (Below.refl base w).drew)⟩
        rw [← hml]
        refine Own.of_rowS hg hc2 (by simpa using hs2) (by rw [hml]; exact hroom) (by unfold maxLen; omega) ?_
        have a1 : cur1.toList.take i = (strV l).take i := by
          rw [hl1, Nat.zero_add, List.append_assoc, List.take_append_of_le_length (by rw [List.length_take, hcs]; omega), List.take_take, Nat.min_eq_left (by omega), ← ht, List.take_take, Nat.min_eq_left (by omega)]
        have a2 : cur1.toList.drop (i + 1) = (strV l).drop i ++ cur.toList.drop (i + 1 + (l.length - i)) := by
          rw [hl1, Nat.zero_add, hdl, List.append_assoc, List.drop_append_of_le_length (by rw [List.length_take, hcs]; omega), List.drop_of_length_le (by rw [List.length_take]; omega), List.nil_append]
        rw [hml, ins_strV, hl2, Nat.zero_add]
        simp only [List.length_cons, List.length_nil, Nat.zero_add]
        rw [a1, a2, ← List.append_assoc]
        exact List.take_left' (by simp [hsl]; omega)
    · have hcap : cap = l.length := by omega
      by_cases he : i = l.length
      · have h := Any2.slices_Insert_string_end_grow Tryd.lays22 (some ⟨g, 0, none⟩) l.length cap vb 0 1 1 (strV l) [Value.string x] w (by omega) hn (by omega) (by omega) hsl rfl (fun h => by cases h) (fun a ha j u hu => by
          simp only [Option.some.injEq] at ha
          subst ha
          rw [Addr.add_lit]
          exact hcl j u hu) hvs h1v
        subst he
        refine h.mono ?_
        rintro e w' ⟨rfl, rfl⟩
        refine ⟨_, rfl, ?_, (Below.refl base w).drew.alloc hbase _⟩
        have hX : Own (w.drew.alloc (.cells ((strV l ++ [Value.string x]).toArray ++ Builtin.zeroCells (Value.string ⟨#[]⟩).cells (grownCap w (l.length + 1) cap 9 - (l.length + 1))) 9)) base 9 1 encS (.slice (some ⟨w.drew.heap.size, 0, none⟩) (l.take l.length ++ x :: l.drop l.length).length (grownCap w (l.length + 1) cap 9)) (l.take l.length ++ x :: l.drop l.length) := by
          refine Own.of_rowS hbase (block_new w.drew _) ?_ (by rw [hml]; exact hgc cap) (hgm cap) ?_
          · have := hgc cap
            rw [Array.size_append, zeroCellsS, List.size_toArray, List.length_append, hsl]
            simp only [List.length_cons, List.length_nil]
            omega
          · rw [hml, ins_strV, List.take_of_length_le (show (strV l).length ≤ l.length by omega), List.drop_of_length_le (show (strV l).length ≤ l.length by omega), List.append_nil, Array.toList_append]
            exact List.take_left' (by simp [hsl])
        rw [hml] at hX
        exact hX
      · have h := Any2.slices_Insert_string_grow Tryd.lays22 g 0 l.length cap i vb 0 1 1 (strV l) [Value.string x] w (by omega) (by omega) hn (by omega) (by omega) hsl rfl hcl hvs h1c h1v
        refine h.mono ?_
        rintro e w' ⟨rfl, rfl⟩
        obtain ⟨GC, hGC⟩ : ∃ GC, GC = grownCap w (l.length + 1) cap 9 := ⟨_, rfl⟩
        have hg1 := hgc cap
        have hg2 := hgm cap
        rw [← hGC] at hg1 hg2
        obtain ⟨ROW, hROW⟩ : ∃ ROW : Array Value, ROW = ((strV l).take i).toArray ++ Builtin.zeroCells (Value.string ⟨#[]⟩).cells (l.length + 1 - i) ++ Builtin.zeroCells (Value.string ⟨#[]⟩).cells (GC - (l.length + 1)) := ⟨_, rfl⟩
        have hRs : ROW.size = GC := by
          rw [hROW, Array.size_append, Array.size_append, zeroCellsS, zeroCellsS, List.size_toArray, List.length_take, hsl]
          omega
        have hb0 : (w.alloc (.cells ROW 9)).drew.heap[w.heap.size]? = some (.cells ROW 9 (0, 0)) := block_new w _
        have hdl : ((strV l).drop i).length = l.length - i := by rw [List.length_drop, hsl]
        have hRl : ROW.toList.length = GC := by simpa using hRs
        obtain ⟨cur1, hc1, hl1⟩ := setCells_block (g := w.heap.size) [Value.string x] i (w.alloc (.cells ROW 9)).drew ROW hb0 (by rw [hRs]; simp only [List.length_cons, List.length_nil]; omega)
        have hs1 : cur1.toList.length = GC := by
          rw [hl1]
          simp only [List.length_append, List.length_take, List.length_drop, hRl, List.length_cons, List.length_nil]
          omega
        obtain ⟨cur2, hc2, hl2⟩ := setCells_block (g := w.heap.size) ((strV l).drop i) (i + 1) (((w.alloc (.cells ROW 9)).drew.setCells w.heap.size i [Value.string x]).drew) cur1 hc1 (by
          have : cur1.size = GC := by simpa using hs1
          rw [hdl]
          omega)
        have hs2 : cur2.toList.length = GC := by
          rw [hl2]
          simp only [List.length_append, List.length_take, List.length_drop, hs1, hsl]
          omega
        have hbl : Below base w ((((w.alloc (.cells ROW 9)).drew.setCells w.heap.size i [Value.string x]).drew).setCells w.heap.size (i + 1) ((strV l).drop i)) := below_setCellsD hbase _ _ _ (below_setCellsD hbase _ _ _ ((Below.refl base w).alloc hbase _).drew).drew
        have hE : (.slice (some ⟨w.heap.size, 0, none⟩) (l.length + 1) (grownCap w (l.length + 1) cap 9) : Value) = .slice (some ⟨w.heap.size, 0, none⟩) (l.take i ++ x :: l.drop i).length GC := by rw [hml, hGC]
        have hW : ((((w.alloc (.cells (((strV l).take i).toArray ++ Builtin.zeroCells (Value.string ⟨#[]⟩).cells (l.length + 1 - i) ++ Builtin.zeroCells (Value.string ⟨#[]⟩).cells (grownCap w (l.length + 1) cap 9 - (l.length + 1))) 9)).drew.setCells w.heap.size i [Value.string x]).drew).setCells w.heap.size (i + 1) ((strV l).drop i)) = ((((w.alloc (.cells ROW 9)).drew.setCells w.heap.size i [Value.string x]).drew).setCells w.heap.size (i + 1) ((strV l).drop i)) := by rw [hROW, hGC]
        refine ⟨_, rfl, ?_, ?_⟩
        · show Own ((((w.alloc (.cells (((strV l).take i).toArray ++ Builtin.zeroCells (Value.string ⟨#[]⟩).cells (l.length + 1 - i) ++ Builtin.zeroCells (Value.string ⟨#[]⟩).cells (grownCap w (l.length + 1) cap 9 - (l.length + 1))) 9)).drew.setCells w.heap.size i [Value.string x]).drew).setCells w.heap.size (i + 1) ((strV l).drop i)) base 9 1 encS (.slice (some ⟨w.heap.size, 0, none⟩) (l.length + 1) (grownCap w (l.length + 1) cap 9)) _
          rw [hW, hE]
          refine Own.of_rowS hbase hc2 (by simpa using hs2) (by rw [hml]; exact hg1) hg2 ?_
          have a1 : cur1.toList.take (i + 1) = (strV l).take i ++ [Value.string x] := by
            have hRt : ROW.toList.take i = (strV l).take i := by
              rw [hROW, Array.toList_append, Array.toList_append, List.append_assoc, List.take_append_of_le_length (by simp [hsl]; omega), List.take_of_length_le (by
                have h7 : ((strV l).take i).length ≤ i := by rw [List.length_take]; omega
                simpa using h7)]
            rw [hl1, hRt]
            exact List.take_left' (by simp [hsl]; omega)
          rw [hml, ins_strV, hl2, a1]
          exact List.take_left' (by simp [hsl]; omega)
        · show Below base w ((((w.alloc (.cells (((strV l).take i).toArray ++ Builtin.zeroCells (Value.string ⟨#[]⟩).cells (l.length + 1 - i) ++ Builtin.zeroCells (Value.string ⟨#[]⟩).cells (grownCap w (l.length + 1) cap 9 - (l.length + 1))) 9)).drew.setCells w.heap.size i [Value.string x]).drew).setCells w.heap.size (i + 1) ((strV l).drop i))
          rw [hW]
          exact hbl
end Go.Proofs.YteepbfpcdhdgfaaDoor

/- slices.Delete at []string: one string is taken out. -/
namespace Go.Proofs.YteepbfpcdhdgfaaDoor
open Go.RowKit

theorem strs_map (l : List ByteArray) : (Lib.strsOf (fun j => l.getD j ByteArray.empty) l.length) = l.map fun b => b.data.toList := by
  unfold Lib.strsOf
  apply List.ext_getElem
  · simp
  · intro i h1 h2
    simp only [List.length_map] at h2
    simp [List.getD_eq_getElem?_getD, h2]
theorem enc_map (L : List ByteArray) : (L.map fun b => b.data.toList).map encStr = strV L := by
  unfold strV
  rw [List.map_map]
  exact List.map_congr_left fun b _ => rfl
theorem delS_any (w : World) (base i : Nat) (l : List ByteArray) (v : Value) (hown : Own w base 9 1 encS v l) (hi : i < l.length) :
    Calls Tryd.prog 9 #[v, .int .i64 i, .int .i64 ((i : Int) + 1)] w (InsPS base w (l.eraseIdx i)) := by
  obtain ⟨q1, q2⟩ := hown
  rcases q2 with ⟨rfl, q2⟩ | ⟨g, cap, cur, rfl, hg, hh, hn, hm, hs, ht⟩
  · omega
  rw [Nat.mul_one] at hs
  rw [Nat.mul_one, flat_str] at ht
  have hm' := hm
  unfold maxLen at hm
  have hsl : (strV l).length = l.length := by simp [strV]
  have hcs : cur.toList.length = cap := by simpa using hs
  have h := Any.slices_Delete_string_cells Tryd.lays24 g 0 l.length cap i (i + 1) (fun j => l.getD j ByteArray.empty) w hn hm (by omega) (by omega) (fun j hj => by
    rw [Nat.zero_add, cell_of_block hh]
    have h2 : (strV l)[j]? = some (.string (l.getD j ByteArray.empty)) := by simp [strV, List.getD_eq_getElem?_getD, hj]
    rw [← ht, List.getElem?_take, if_pos hj] at h2
    simpa using h2) (fun j hj => by simp [World.frozen?, hh])
  have e1 : (((i + 1 : Nat) : Int)) = (i : Int) + 1 := by omega
  rw [e1] at h
  refine h.mono ?_
  rintro e w' ⟨rfl, q, rfl⟩
  obtain ⟨VS, hVS⟩ : ∃ VS, VS = ((Lib.strsOf (fun j => l.getD j ByteArray.empty) l.length).take i ++ (Lib.strsOf (fun j => l.getD j ByteArray.empty) l.length).drop (i + 1) ++ List.replicate (i + 1 - i) []).map encStr := ⟨_, rfl⟩
  rw [← hVS]
  have hV2 : VS = strV (l.eraseIdx i) ++ [Value.string ⟨#[]⟩] := by
    rw [hVS, strs_map, ← List.map_take, ← List.map_drop, ← List.map_append, List.map_append, enc_map, show i + 1 - i = 1 by omega, List.eraseIdx_eq_take_drop_succ]
    rfl
  have hel : (l.eraseIdx i).length = l.length - 1 := by rw [List.length_eraseIdx, if_pos hi]
  have hvl : VS.length = l.length := by rw [hV2]; simp [strV, hel]; omega
  obtain ⟨cur1, hc1, hl1⟩ := setCells_block (g := g) VS 0 (w.drewN q) cur hh (by rw [hvl, hs]; omega)
  have hs1 : cur1.toList.length = cap := by
    rw [hl1]
    simp only [List.length_append, List.length_take, List.length_drop, hcs, hvl]
    omega
  refine ⟨_, rfl, ?_, below_setCellsD hg _ _ _ (below_drewN (Below.refl base w) q)⟩
  rw [show l.length - (i + 1 - i) = (l.eraseIdx i).length by rw [hel]; omega]
  refine Own.of_rowS hg hc1 (by simpa using hs1) (by rw [hel]; omega) hm' ?_
  rw [hl1, List.take_zero, List.nil_append, hV2, List.append_assoc]
  exact List.take_left' (by simp [strV])
/-- A string from a literal is put in at the front. -/
theorem insS_lit (w : World) (base : Nat) (l : List ByteArray) (x : ByteArray) (v : Value) (hown : Own w base 9 1 encS v l) (hbase : base ≤ w.heap.size) (hlen : l.length ≤ 1000000) :
    Calls Tryd.prog 43 #[v, .int .i64 0, .slice (some ⟨w.heap.size, 0, none⟩) 1 1] (w.alloc (.cells #[.string x] 9)) (InsPS base (w.alloc (.cells #[.string x] 9)) (x :: l)) := by
  have h := insS_any (w.alloc (.cells #[.string x] 9)) base w.heap.size 0 l x v (hown.al _) (by simp; omega) hlen (Nat.zero_le _) (block_new w _) (fun a n c hv hb => by
    rcases hown.2 with ⟨h, _⟩ | ⟨g, cap', cur, h, _, hh, _⟩
    · rw [h] at hv; simp at hv
    · rw [h] at hv
      simp only [Value.slice.injEq, Option.some.injEq] at hv
      obtain ⟨rfl, _⟩ := hv
      have := (Array.getElem?_eq_some_iff.1 hh).1
      simp at hb
      omega)
  rw [show (((0 : Nat) : Int)) = 0 from rfl, List.take_zero, List.drop_zero, List.nil_append] at h
  exact h
end Go.Proofs.YteepbfpcdhdgfaaDoor

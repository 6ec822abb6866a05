/- slices.Index and slices.Insert at []string. -/
import Derived.Test.YtmgbmoiefgfemaaDoorLibY
import Derived.Test.YtmgbmoiefgfemaaDoorTidy
import Derived.Test.YtmgbmoiefgfemaaDoorDel
import Derived.Test.YtmgbmoiefgfemaaDoorOwnP
import Derived.Test.YtmgbmoiefgfemaaDoorOnl
namespace Go.Proofs.YtmgbmoiefgfemaaDoor
open Go.RowKit

theorem index_any (D : List ByteArray) (x : ByteArray) (v : Value) (w : World) (h : Sl w 1 encS v D) :
    Calls Tryd.prog 65 #[v, .string x] w fun e w' => e = .returned (.int .i64 (Lib.idxOfS D x)) ∧ w' = w := by
  obtain ⟨ao, cap, rfl, hcap, hmax, hnil, hel⟩ := h
  unfold maxLen at hmax
  by_cases he : D = []
  · subst he
    exact Any.slices_Index_string_empty Tryd.lays109 ao cap x w
  · have h0 : 0 < D.length := List.length_pos_iff.2 he
    obtain ⟨b, off, rfl, _⟩ := hel 0 D[0] (by simp)
    have h2 := Any.slices_Index_string Tryd.lays109 b off D.length cap D x w (Nat.le_refl _) (by omega) (fun j hj => by
      obtain ⟨b', off', e, hc⟩ := hel j D[j] (by simp)
      simp only [Option.some.injEq, Addr.mk.injEq, and_true] at e
      obtain ⟨rfl, rfl⟩ := e
      have := hc 0 _ rfl
      simp only [Nat.mul_one, Nat.add_zero] at this
      rw [this]
      simp [List.getD_eq_getElem?_getD, hj])
    rw [List.take_length] at h2
    exact h2
def strV (l : List ByteArray) : List Value := l.map Value.string
theorem flat_str (l : List ByteArray) : l.flatMap encS = strV l := by
  induction l with
  | nil => rfl
  | cons a r ih => rw [List.flatMap_cons, ih]; rfl
theorem Own.of_rowS {w : World} {base : Nat} {m : List ByteArray} {g cap : Nat} {cur : Array Value} (hg : base ≤ g) (hh : w.heap[g]? = some (.cells cur 9 (0, 0))) (hs : cur.size = cap) (hn : m.length ≤ cap) (hm : cap ≤ maxLen) (ht : cur.toList.take m.length = strV m) :
    Own w base 9 1 encS (.slice (some ⟨g, 0, none⟩) m.length cap) m := ⟨flatMap_len encS_len m, .inr ⟨g, cap, cur, rfl, hg, hh, hn, hm, by rw [hs, Nat.mul_one], by rw [Nat.mul_one, flat_str]; exact ht⟩⟩
def InsPS (base : Nat) (w : World) (m : List ByteArray) : Ending → World → Prop := fun e w' => ∃ v', e = .returned v' ∧ Own w' base 9 1 encS v' m ∧ Below base w w'
theorem ins_lenS (l : List ByteArray) (x : ByteArray) (i : Nat) (hi : i ≤ l.length) : (l.take i ++ x :: l.drop i).length = l.length + 1 := by simp; omega
theorem ins_strV (l : List ByteArray) (x : ByteArray) (i : Nat) : strV (l.take i ++ x :: l.drop i) = (strV l).take i ++ [Value.string x] ++ (strV l).drop i := by
  unfold strV
  simp [List.map_take, List.map_drop]
theorem zeroCellsS (n : Nat) : (Builtin.zeroCells (Value.string ⟨#[]⟩).cells n).size = n := by simp [Builtin.zeroCells, Value.cells]
set_option maxHeartbeats 1000000 in
/-- A string is put in. -/
theorem insS_any (w : World) (base vb i : Nat) (l : List ByteArray) (x : ByteArray) (v : Value) (hown : Own w base 9 1 encS v l) (hbase : base ≤ w.heap.size) (hlen : l.length ≤ 1000000) (hi : i ≤ l.length) (hvb : w.heap[vb]? = some (.cells #[.string x] 9 (0, 0))) (hoff : offB vb v) :
    Calls Tryd.prog 67 #[v, .int .i64 i, .slice (some ⟨vb, 0, none⟩) 1 1] w (InsPS base w (l.take i ++ x :: l.drop i)) := by
  have hvs : ∀ j u, ([Value.string x] : List Value)[j]? = some u → w.cell? ⟨vb, 0 + j, none⟩ = some u := fun j u hu => by
    rw [Nat.zero_add, cell_of_block hvb]
    simpa using hu
  have h1v : ∀ u ∈ ([Value.string x] : List Value), u.oneCell' = true := fun u hu => by simp at hu; subst hu; rfl
  have hml := ins_lenS l x i hi
  have hsl : (strV l).length = l.length := by simp [strV]
  have h1c : ∀ u ∈ strV l, u.oneCell' = true := fun u hu => by
    unfold strV at hu
    rw [List.mem_map] at hu
    obtain ⟨y, _, rfl⟩ := hu
    rfl
  have hlt := World.ownsRow.lt hown
  obtain ⟨q1, q2⟩ := hown
  have hgc : ∀ c, l.length + 1 ≤ grownCap w (l.length + 1) c 9 := fun c => grownCap_ge w _ _ _
  have hgm : ∀ c, grownCap w (l.length + 1) c 9 ≤ maxLen := fun c => grownCap_le_maxLen w (l.length + 1) c 9 (by unfold maxLen; omega)
  rcases q2 with ⟨rfl, q2⟩ | ⟨g, cap, cur, rfl, hg, hh, hn, hm, hs, ht⟩
  · obtain rfl : l = [] := List.length_eq_zero_iff.1 q2
    obtain rfl : i = 0 := by simpa using hi
    have h := Any2.slices_Insert_string_end_grow Tryd.lays22 none 0 0 vb 0 1 1 [] [Value.string x] w (by omega) (Nat.le_refl _) (by omega) (by omega) rfl rfl (fun _ => rfl) (fun a ha => by cases ha) hvs h1v
    refine h.mono ?_
    rintro e w' ⟨rfl, rfl⟩
    refine ⟨_, rfl, ?_, (Below.refl base w).drew.alloc hbase _⟩
    have h0 : 0 + 1 ≤ grownCap w (0 + 1) 0 9 := grownCap_ge w _ _ _
    have h1 : grownCap w (0 + 1) 0 9 ≤ maxLen := grownCap_le_maxLen w (0 + 1) 0 9 (by unfold maxLen; omega)
    exact Own.of_rowS (m := [x]) hbase (block_new w.drew _) (by
      rw [Array.size_append, zeroCellsS]
      show 1 + (grownCap w (0 + 1) 0 9 - (0 + 1)) = grownCap w (0 + 1) 0 9
      omega) h0 h1 (by simp [strV])
  · rw [Nat.mul_one] at hs
    rw [Nat.mul_one, flat_str] at ht
    have hgl := (hlt g rfl).2
    have hcl : ∀ j u, (strV l)[j]? = some u → w.cell? ⟨g, 0 + j, none⟩ = some u := fun j u hu => by
      rw [Nat.zero_add, cell_of_block hh]
      rw [← ht, List.getElem?_take] at hu
      split at hu
      · simpa using hu
      · cases hu
    have hvg : vb ≠ g := fun e => hoff _ _ _ rfl e.symm
    unfold maxLen at hm
    by_cases hroom : l.length + 1 ≤ cap
    · have hsp : ∀ j, j < cap → (w.cell? ⟨g, j, none⟩).isSome = true := fun j hj => by
        rw [cell_of_block hh, Array.getElem?_eq_getElem (by rw [hs]; exact hj)]; rfl
      have hfz : ∀ j, w.frozen? ⟨g, j, none⟩ = false := fun j => by simp [World.frozen?, hh]
      have hcs : cur.toList.length = cap := by simpa using hs
      by_cases he : i = l.length
      · subst he
        have h := Any2.slices_Insert_string_end_room Tryd.lays22 g 0 l.length cap vb 0 1 1 [Value.string x] w (by omega) hroom hm rfl (fun j hj => hsp _ (by omega)) (fun j hj => hfz _) hvs h1v
        refine h.mono ?_
        rintro e w' ⟨rfl, rfl⟩
        obtain ⟨cur1, hc1, hl1⟩ := setCells_block (g := g) [Value.string x] (0 + l.length) w cur hh (by simp [hs]; omega)
        refine ⟨_, rfl, ?_, below_setCellsD hg _ _ _ (Below.refl base w)⟩
        rw [← hml]
        refine Own.of_rowS hg hc1 (by
          have : cur1.toList.length = cap := by
            rw [hl1]
            simp only [List.length_append, List.length_take, List.length_drop, hcs, List.length_cons, List.length_nil]
            omega
          simpa using this) (by rw [hml]; exact hroom) (by unfold maxLen; omega) ?_
        rw [hml, ins_strV, hl1, Nat.zero_add, ht, List.take_of_length_le (show (strV l).length ≤ l.length by omega), List.drop_of_length_le (show (strV l).length ≤ l.length by omega), List.append_nil]
        exact List.take_left' (by simp [hsl])
      · have h := Any2.slices_Insert_string_shift Tryd.lays22 g 0 l.length cap i vb 0 1 1 (strV l) [Value.string x] w (by omega) (by omega) hroom hm hvg hsl rfl hcl (fun j hj => by rw [Nat.zero_add]; exact hsp _ (by omega)) (fun j hj => hfz _) hvs h1c h1v 9 9 1 cap (by simp [World.shape?, hvb]) (by simp [World.shape?, hh, hs]) (by omega) (by simp [World.frozen?, hvb]) (by simp [World.frozen?, hvb])
        refine h.mono ?_
        rintro e w' ⟨rfl, rfl⟩
        have hdl : ((strV l).drop i).length = l.length - i := by rw [List.length_drop, hsl]
        obtain ⟨cur1, hc1, hl1⟩ := setCells_block (g := g) ((strV l).drop i) (0 + (i + 1)) w.drew cur hh (by rw [hdl, hs]; omega)
        have hs1 : cur1.toList.length = cap := by
          rw [hl1]
          simp only [List.length_append, List.length_take, List.length_drop, hcs, hsl]
          omega
        obtain ⟨cur2, hc2, hl2⟩ := setCells_block (g := g) [Value.string x] (0 + i) (w.drew.setCells g (0 + (i + 1)) ((strV l).drop i)) cur1 hc1 (by
          have h3 : cur1.size = cap := by simpa using hs1
          simp only [List.length_cons, List.length_nil]
          omega)
        have hs2 : cur2.toList.length = cap := by
          rw [hl2]
          simp only [List.length_append, List.length_take, List.length_drop, hs1, List.length_cons, List.length_nil]
          omega
        refine ⟨_, rfl, ?_, below_setCellsD hg _ _ _ (below_setCellsD hg _ _ _ (Below.refl base w).drew)⟩
        rw [← hml]
        refine Own.of_rowS hg hc2 (by simpa using hs2) (by rw [hml]; exact hroom) (by unfold maxLen; omega) ?_
        have a1 : cur1.toList.take i = (strV l).take i := by
          rw [hl1, Nat.zero_add, List.append_assoc, List.take_append_of_le_length (by rw [List.length_take, hcs]; omega), List.take_take, Nat.min_eq_left (by omega), ← ht, List.take_take, Nat.min_eq_left (by omega)]
        have a2 : cur1.toList.drop (i + 1) = (strV l).drop i ++ cur.toList.drop (i + 1 + (l.length - i)) := by
          rw [hl1, Nat.zero_add, hdl, List.append_assoc, List.drop_append_of_le_length (by rw [List.length_take, hcs]; omega), List.drop_of_length_le (by rw [List.length_take]; omega), List.nil_append]
        rw [hml, ins_strV, hl2, Nat.zero_add]
        simp only [List.length_cons, List.length_nil, Nat.zero_add]
        rw [a1, a2, ← List.append_assoc]
        exact List.take_left' (by simp [hsl]; omega)
    · have hcap : cap = l.length := by omega
      by_cases he : i = l.length
      · have h := Any2.slices_Insert_string_end_grow Tryd.lays22 (some ⟨g, 0, none⟩) l.length cap vb 0 1 1 (strV l) [Value.string x] w (by omega) hn (by omega) (by omega) hsl rfl (fun h => by cases h) (fun a ha j u hu => by
          simp only [Option.some.injEq] at ha
          subst ha
          rw [Addr.add_lit]
          exact hcl j u hu) hvs h1v
        subst he
        refine h.mono ?_
        rintro e w' ⟨rfl, rfl⟩
        refine ⟨_, rfl, ?_, (Below.refl base w).drew.alloc hbase _⟩
        have hX : Own (w.drew.alloc (.cells ((strV l ++ [Value.string x]).toArray ++ Builtin.zeroCells (Value.string ⟨#[]⟩).cells (grownCap w (l.length + 1) cap 9 - (l.length + 1))) 9)) base 9 1 encS (.slice (some ⟨w.drew.heap.size, 0, none⟩) (l.take l.length ++ x :: l.drop l.length).length (grownCap w (l.length + 1) cap 9)) (l.take l.length ++ x :: l.drop l.length) := by
          refine Own.of_rowS hbase (block_new w.drew _) ?_ (by rw [hml]; exact hgc cap) (hgm cap) ?_
          · have := hgc cap
            rw [Array.size_append, zeroCellsS, List.size_toArray, List.length_append, hsl]
            simp only [List.length_cons, List.length_nil]
            omega
          · rw [hml, ins_strV, List.take_of_length_le (show (strV l).length ≤ l.length by omega), List.drop_of_length_le (show (strV l).length ≤ l.length by omega), List.append_nil, Array.toList_append]
            exact List.take_left' (by simp [hsl])
        rw [hml] at hX
        exact hX
      · have h := Any2.slices_Insert_string_grow Tryd.lays22 g 0 l.length cap i vb 0 1 1 (strV l) [Value.string x] w (by omega) (by omega) hn (by omega) (by omega) hsl rfl hcl hvs h1c h1v
        refine h.mono ?_
        rintro e w' ⟨rfl, rfl⟩
        obtain ⟨GC, hGC⟩ : ∃ GC, GC = grownCap w (l.length + 1) cap 9 := ⟨_, rfl⟩
        have hg1 := hgc cap
        have hg2 := hgm cap
        rw [← hGC] at hg1 hg2
        obtain ⟨ROW, hROW⟩ : ∃ ROW : Array Value, ROW = ((strV l).take i).toArray ++ Builtin.zeroCells (Value.string ⟨#[]⟩).cells (l.length + 1 - i) ++ Builtin.zeroCells (Value.string ⟨#[]⟩).cells (GC - (l.length + 1)) := ⟨_, rfl⟩
        have hRs : ROW.size = GC := by
          rw [hROW, Array.size_append, Array.size_append, zeroCellsS, zeroCellsS, List.size_toArray, List.length_take, hsl]
          omega
        have hb0 : (w.alloc (.cells ROW 9)).drew.heap[w.heap.size]? = some (.cells ROW 9 (0, 0)) := block_new w _
        have hdl : ((strV l).drop i).length = l.length - i := by rw [List.length_drop, hsl]
        have hRl : ROW.toList.length = GC := by simpa using hRs
        obtain ⟨cur1, hc1, hl1⟩ := setCells_block (g := w.heap.size) [Value.string x] i (w.alloc (.cells ROW 9)).drew ROW hb0 (by rw [hRs]; simp only [List.length_cons, List.length_nil]; omega)
        have hs1 : cur1.toList.length = GC := by
          rw [hl1]
          simp only [List.length_append, List.length_take, List.length_drop, hRl, List.length_cons, List.length_nil]
          omega
        obtain ⟨cur2, hc2, hl2⟩ := setCells_block (g := w.heap.size) ((strV l).drop i) (i + 1) (((w.alloc (.cells ROW 9)).drew.setCells w.heap.size i [Value.string x]).drew) cur1 hc1 (by
          have : cur1.size = GC := by simpa using hs1
          rw [hdl]
          omega)
        have hs2 : cur2.toList.length = GC := by
          rw [hl2]
          simp only [List.length_append, List.length_take, List.length_drop, hs1, hsl]
          omega
        have hbl : Below base w ((((w.alloc (.cells ROW 9)).drew.setCells w.heap.size i [Value.string x]).drew).setCells w.heap.size (i + 1) ((strV l).drop i)) := below_setCellsD hbase _ _ _ (below_setCellsD hbase _ _ _ ((Below.refl base w).alloc hbase _).drew).drew
        have hE : (.slice (some ⟨w.heap.size, 0, none⟩) (l.length + 1) (grownCap w (l.length + 1) cap 9) : Value) = .slice (some ⟨w.heap.size, 0, none⟩) (l.take i ++ x :: l.drop i).length GC := by rw [hml, hGC]
        have hW : ((((w.alloc (.cells (((strV l).take i).toArray ++ Builtin.zeroCells (Value.string ⟨#[]⟩).cells (l.length + 1 - i) ++ Builtin.zeroCells (Value.string ⟨#[]⟩).cells (grownCap w (l.length + 1) cap 9 - (l.length + 1))) 9)).drew.setCells w.heap.size i [Value.string x]).drew).setCells w.heap.size (i + 1) ((strV l).drop i)) = ((((w.alloc (.cells ROW 9)).drew.setCells w.heap.size i [Value.string x]).drew).setCells w.heap.size (i + 1) ((strV l).drop i)) := by rw [hROW, hGC]
        refine ⟨_, rfl, ?_, ?_⟩
        · show Own ((((w.alloc (.cells (((strV l).take i).toArray ++ Builtin.zeroCells (Value.string ⟨#[]⟩).cells (l.length + 1 - i) ++ Builtin.zeroCells (Value.string ⟨#[]⟩).cells (grownCap w (l.length + 1) cap 9 - (l.length + 1))) 9)).drew.setCells w.heap.size i [Value.string x]).drew).setCells w.heap.size (i + 1) ((strV l).drop i)) base 9 1 encS (.slice (some ⟨w.heap.size, 0, none⟩) (l.length + 1) (grownCap w (l.length + 1) cap 9)) _
          rw [hW, hE]
          refine Own.of_rowS hbase hc2 (by simpa using hs2) (by rw [hml]; exact hg1) hg2 ?_
          have a1 : cur1.toList.take (i + 1) = (strV l).take i ++ [Value.string x] := by
            have hRt : ROW.toList.take i = (strV l).take i := by
              rw [hROW, Array.toList_append, Array.toList_append, List.append_assoc, List.take_append_of_le_length (by simp [hsl]; omega), List.take_of_length_le (by
                have h7 : ((strV l).take i).length ≤ i := by rw [List.length_take]; omega
                simpa using h7)]
            rw [hl1, hRt]
            exact List.take_left' (by simp [hsl]; omega)
          rw [hml, ins_strV, hl2, a1]
          exact List.take_left' (by simp [hsl]; omega)
        · show Below base w ((((w.alloc (.cells (((strV l).take i).toArray ++ Builtin.zeroCells (Value.string ⟨#[]⟩).cells (l.length + 1 - i) ++ Builtin.zeroCells (Value.string ⟨#[]⟩).cells (grownCap w (l.length + 1) cap 9 - (l.length + 1))) 9)).drew.setCells w.heap.size i [Value.string x]).drew).setCells w.heap.size (i + 1) ((strV l).drop i))
          rw [hW]
          exact hbl
end Go.Proofs.YtmgbmoiefgfemaaDoor

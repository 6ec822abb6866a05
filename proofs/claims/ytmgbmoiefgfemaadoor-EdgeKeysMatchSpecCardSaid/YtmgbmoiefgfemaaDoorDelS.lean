/- slices.Delete at []string: one string is taken out. -/
import Derived.Test.YtmgbmoiefgfemaaDoorInsS
namespace Go.Proofs.YtmgbmoiefgfemaaDoor
open Go.RowKit

theorem strs_map (l : List ByteArray) : (Lib.strsOf (fun j => l.getD j ByteArray.empty) l.length) = l.map fun b => b.data.toList := by
  unfold Lib.strsOf
  apply List.ext_getElem
  · simp
  · intro i h1 h2
    simp only [List.length_map] at h2
    simp [List.getD_eq_getElem?_getD, h2]
theorem enc_map (L : List ByteArray) : (L.map fun b => b.data.toList).map encStr = strV L := by
  unfold strV
  rw [List.map_map]
  exact List.map_congr_left fun b _ => rfl
theorem delS_any (w : World) (base i : Nat) (l : List ByteArray) (v : Value) (hown : Own w base 9 1 encS v l) (hi : i < l.length) :
    Calls Tryd.prog 66 #[v, .int .i64 i, .int .i64 ((i : Int) + 1)] w (InsPS base w (l.eraseIdx i)) := by
  obtain ⟨q1, q2⟩ := hown
  rcases q2 with ⟨rfl, q2⟩ | ⟨g, cap, cur, rfl, hg, hh, hn, hm, hs, ht⟩
  · omega
  rw [Nat.mul_one] at hs
  rw [Nat.mul_one, flat_str] at ht
  have hm' := hm
  unfold maxLen at hm
  have hsl : (strV l).length = l.length := by simp [strV]
  have hcs : cur.toList.length = cap := by simpa using hs
  have h := Any.slices_Delete_string_cells Tryd.lays24 g 0 l.length cap i (i + 1) (fun j => l.getD j ByteArray.empty) w hn hm (by omega) (by omega) (fun j hj => by
    rw [Nat.zero_add, cell_of_block hh]
    have h2 : (strV l)[j]? = some (.string (l.getD j ByteArray.empty)) := by simp [strV, List.getD_eq_getElem?_getD, hj]
    rw [← ht, List.getElem?_take, if_pos hj] at h2
    simpa using h2) (fun j hj => by simp [World.frozen?, hh])
  have e1 : (((i + 1 : Nat) : Int)) = (i : Int) + 1 := by omega
  rw [e1] at h
  refine h.mono ?_
  rintro e w' ⟨rfl, q, rfl⟩
  obtain ⟨VS, hVS⟩ : ∃ VS, VS = ((Lib.strsOf (fun j => l.getD j ByteArray.empty) l.length).take i ++ (Lib.strsOf (fun j => l.getD j ByteArray.empty) l.length).drop (i + 1) ++ List.replicate (i + 1 - i) []).map encStr := ⟨_, rfl⟩
  rw [← hVS]
  have hV2 : VS = strV (l.eraseIdx i) ++ [Value.string ⟨#[]⟩] := by
    rw [hVS, strs_map, ← List.map_take, ← List.map_drop, ← List.map_append, List.map_append, enc_map, show i + 1 - i = 1 by omega, List.eraseIdx_eq_take_drop_succ]
    rfl
  have hel : (l.eraseIdx i).length = l.length - 1 := by rw [List.length_eraseIdx, if_pos hi]
  have hvl : VS.length = l.length := by rw [hV2]; simp [strV, hel]; omega
  obtain ⟨cur1, hc1, hl1⟩ := setCells_block (g := g) VS 0 (w.drewN q) cur hh (by rw [hvl, hs]; omega)
  have hs1 : cur1.toList.length = cap := by
    rw [hl1]
    simp only [List.length_append, List.length_take, List.length_drop, hcs, hvl]
    omega
  refine ⟨_, rfl, ?_, below_setCellsD hg _ _ _ (below_drewN (Below.refl base w) q)⟩
  rw [show l.length - (i + 1 - i) = (l.eraseIdx i).length by rw [hel]; omega]
  refine Own.of_rowS hg hc1 (by simpa using hs1) (by rw [hel]; omega) hm' ?_
  rw [hl1, List.take_zero, List.nil_append, hV2, List.append_assoc]
  exact List.take_left' (by simp [strV])
/-- A string from a literal is put in at the front. -/
theorem insS_lit (w : World) (base : Nat) (l : List ByteArray) (x : ByteArray) (v : Value) (hown : Own w base 9 1 encS v l) (hbase : base ≤ w.heap.size) (hlen : l.length ≤ 1000000) :
    Calls Tryd.prog 67 #[v, .int .i64 0, .slice (some ⟨w.heap.size, 0, none⟩) 1 1] (w.alloc (.cells #[.string x] 9)) (InsPS base (w.alloc (.cells #[.string x] 9)) (x :: l)) := by
  have h := insS_any (w.alloc (.cells #[.string x] 9)) base w.heap.size 0 l x v (hown.al _) (by simp; omega) hlen (Nat.zero_le _) (block_new w _) (fun a n c hv hb => by
    rcases hown.2 with ⟨h, _⟩ | ⟨g, cap', cur, h, _, hh, _⟩
    · rw [h] at hv; simp at hv
    · rw [h] at hv
      simp only [Value.slice.injEq, Option.some.injEq] at hv
      obtain ⟨rfl, _⟩ := hv
      have := (Array.getElem?_eq_some_iff.1 hh).1
      simp at hb
      omega)
  rw [show (((0 : Nat) : Int)) = 0 from rfl, List.take_zero, List.drop_zero, List.nil_append] at h
  exact h
end Go.Proofs.YtmgbmoiefgfemaaDoor

/- The cipher of the program: xor. -/
import Derived.Test.YteepbfpcdhdgfaaDoorDgV
import Derived.Laws.Tables
namespace Go.Proofs.YteepbfpcdhdgfaaDoor
open Go.RowKit

def cellsU (l : List UInt8) : Array Value := (l.map fun x => Value.int .u8 x.toNat).toArray
/-- A block of bytes. -/
def BlkT (w : World) (b : Nat) (T : TypeId) (l : List UInt8) : Prop := w.heap[b]? = some (.cells (cellsU l) T (0, 0))
theorem BlkT.lt {w : World} {b : Nat} {T : TypeId} {l : List UInt8} (h : BlkT w b T l) : b < w.heap.size := (Array.getElem?_eq_some_iff.1 h).1
theorem BlkT.below {w W : World} {b : Nat} {T : TypeId} {l : List UInt8} (h : BlkT w b T l) (hb : Below w.heap.size w W) : BlkT W b T l := (hb.block _ h.lt).trans h
theorem BlkT.other {w W : World} {b : Nat} {T : TypeId} {l : List UInt8} (h : BlkT w b T l) (hb : W.heap[b]? = w.heap[b]?) : BlkT W b T l := hb.trans h
theorem BlkT.bytes {w : World} {b : Nat} {T : TypeId} {l : List UInt8} (h : BlkT w b T l) : BytesAt w b 0 l := fun i x hx => by
  rw [Nat.zero_add, cell_of_block h]
  unfold cellsU
  rw [List.getElem?_toArray, List.getElem?_map, hx]
  rfl
theorem BlkT.frz {w : World} {b : Nat} {T : TypeId} {l : List UInt8} (h : BlkT w b T l) (i : Nat) : w.frozen? ⟨b, i, none⟩ = false := frz_of h
theorem BlkT.set {w : World} {b : Nat} {T : TypeId} {l : List UInt8} (h : BlkT w b T l) (i : Nat) (x : UInt8) : BlkT (w.setCell ⟨b, i, none⟩ (.int .u8 x.toNat)) b T (l.set i x) := by
  have e : cellsU (l.set i x) = (cellsU l).setIfInBounds i (.int .u8 x.toNat) := by
    unfold cellsU
    rw [List.map_set]
    simp
  unfold BlkT
  rw [setCell_eq_setRow w b i _ T (0, 0) _ h, e]
  exact setRow_heap w b _ _ T (0, 0) h
theorem BlkT.new (w : World) (T : TypeId) (l : List UInt8) : BlkT (w.alloc (.cells (cellsU l) T)) w.heap.size T l := block_new w _
/-- A row of eight while it is filled. -/
def fillX (z : List UInt8) (i : Nat) : List UInt8 := z.take i ++ List.replicate (8 - i) 0
theorem fillX_next {z : List UInt8} {i : Nat} {x : UInt8} (hz : z.length = 8) (hi : z[i]? = some x) : (fillX z i).set i x = fillX z (i + 1) := by
  have hlt : i < 8 := by rw [← hz]; exact (List.getElem?_eq_some_iff.1 hi).1
  unfold fillX
  rw [List.set_append_right _ _ (by rw [List.length_take]; omega), take_next hi, List.length_take, Nat.min_eq_left (by omega), Nat.sub_self, show 8 - i = (8 - (i + 1)) + 1 by omega, List.replicate_succ, List.set_cons_zero]
  simp
theorem fillX_all {z : List UInt8} (hz : z.length = 8) : fillX z 8 = z := by
  unfold fillX
  rw [List.take_of_length_le (by omega)]
  simp
theorem xorB_len {a b : List UInt8} (ha : a.length = 8) (hb : b.length = 8) : (xorB a b).length = 8 := by unfold xorB; rw [List.length_zipWith]; omega
theorem xorB_at {a b : List UInt8} {i : Nat} {x y : UInt8} (hx : a[i]? = some x) (hy : b[i]? = some y) : (xorB a b)[i]? = some (x ^^^ y) := by
  unfold xorB
  rw [List.getElem?_zipWith, hx, hy]

set_option maxRecDepth 100000 in
set_option maxHeartbeats 4000000 in
theorem xor_any (w : World) (b o cap c p cap2 : Nat) (l m : List UInt8) (h : BytesAt w b o l) (hl : l.length = 8) (hb : BytesAt w c p m) (hm : m.length = 8) :
    Calls Tryd.prog 72 #[.slice (some ⟨b, o, none⟩) 8 cap, .slice (some ⟨c, p, none⟩) 8 cap2] w fun e w' => e = .returned (arr8 (xorB l m)) ∧ Below w.heap.size w w' := by
  obtain ⟨z, hz⟩ : ∃ z, z = xorB l m := ⟨_, rfl⟩
  have hzl : z.length = 8 := by rw [hz]; exact xorB_len hl hm
  rw [← hz]
  have HZ := Lib.hid hz
  have HL := Lib.hid h
  have HM := Lib.hid hb
  have HZL := Lib.hid hzl
  have HLL := Lib.hid (And.intro hl hm)
  clear h hb hz hzl hl hm
  obtain ⟨w1, hw1⟩ : ∃ w1, w1 = (w.alloc (.cells (cellsU (List.replicate 8 0)) 80)).alloc (.cells (cellsU (List.replicate 8 0)) 80) := ⟨_, rfl⟩
  have HB1 : Hid (Below w.heap.size w w1) := Lib.hid (by rw [hw1]; exact ((Below.refl _ w).alloc (Nat.le_refl _) _).alloc (by simp) _)
  have HK1 : Hid (BlkT w1 w.heap.size 80 (List.replicate 8 0)) := Lib.hid (by
    have h0 := BlkT.new w 80 (List.replicate 8 0)
    rw [hw1]
    exact h0.other (Below.heap_alloc _ _ _ h0.lt))
  have HK2 : Hid (BlkT w1 (w.heap.size + 1) 80 (fillX z 0)) := Lib.hid (by
    have h0 := BlkT.new (w.alloc (.cells (cellsU (List.replicate 8 0)) 80)) 80 (List.replicate 8 0)
    rw [hw1]
    simpa [fillX] using h0)
  have HW1 : Hid (w1 = (w.alloc (.cells #[.int .u8 0, .int .u8 0, .int .u8 0, .int .u8 0, .int .u8 0, .int .u8 0, .int .u8 0, .int .u8 0] 80)).alloc (.cells #[.int .u8 0, .int .u8 0, .int .u8 0, .int .u8 0, .int .u8 0, .int .u8 0, .int .u8 0, .int .u8 0] 80)) := Lib.hid hw1
  clear hw1
  go_enter Tryd.func72, Tryd.ntmps72
  go_wp2_with fail
  obtain ⟨N1, hN1⟩ : ∃ N1, N1 = w.heap.size + 1 := ⟨_, rfl⟩
  have HN1 := Lib.hid hN1
  rw [← hN1]
  rw [← hN1] at HK2
  clear hN1
  go_loopg [7] 8 (fun gg s7 wr => ∃ i : Nat, i ≤ 8 ∧ 8 - i ≤ gg ∧ s7 = .int .i64 i ∧ Aside (Below w.heap.size w wr) ∧ Aside (BlkT wr w.heap.size 80 (List.replicate 8 0)) ∧ Aside (BlkT wr N1 80 (fillX z i)))
  case atStart => exact ⟨0, by omega, by omega, rfl, (show Aside _ from by rw [← HW1.out]; exact HB1.out), (show Aside _ from by rw [← HW1.out]; exact HK1.out), (show Aside _ from by rw [← HW1.out]; exact HK2.out)⟩
  case round =>
    obtain ⟨wq, rfl⟩ : ∃ wq : World, wq = wr := ⟨_, rfl⟩
    obtain ⟨i, hi, hgi, rfl, BW, K1, K2⟩ := hrel
    by_cases hil : i < 8
    · have hiz : (i : Int) < 8 := by omega
      obtain ⟨x, hx⟩ : ∃ x, l[i]? = some x := ⟨l[i]'(by have := HLL.out.1; omega), by simp⟩
      obtain ⟨y, hy⟩ : ∃ y, m[i]? = some y := ⟨m[i]'(by have := HLL.out.2; omega), by simp⟩
      have hxc := HL.out i x hx
      have hyc := HM.out i y hy
      have cx := (BW.out.cell (p := ⟨b, o + i, none⟩) (World.block_lt_of_cell? w _ hxc)).trans hxc
      have cy := (BW.out.cell (p := ⟨c, p + i, none⟩) (World.block_lt_of_cell? w _ hyc)).trans hyc
      have hzi : z[i]? = some (x ^^^ y) := by rw [HZ.out]; exact xorB_at hx hy
      have HS := Lib.hid (fun v (hv : v = Value.int .u8 (x ^^^ y).toNat) => by
        have := K2.out.set i (x ^^^ y)
        rw [fillX_next HZL.out hzi, ← hv] at this
        exact this)
      have hex : bits .xor .u8 (x.toNat : Int) (y.toNat : Int) = (((x ^^^ y).toNat : Nat) : Int) := by rw [bits_xor_u8 _ _ x.toNat_lt y.toNat_lt, UInt8.toNat_xor]
      obtain ⟨X, hX⟩ : ∃ X, X = x.toNat := ⟨_, rfl⟩
      obtain ⟨Y, hY⟩ : ∃ Y, Y = y.toNat := ⟨_, rfl⟩
      obtain ⟨Z, hZ⟩ : ∃ Z, Z = (x ^^^ y).toNat := ⟨_, rfl⟩
      rw [← hX] at cx hex
      rw [← hY] at cy hex
      rw [← hZ] at hex
      have HZ2 := Lib.hid hZ
      have hq : (wq.cell? ⟨N1, i, none⟩).isSome = true := by
        have := K2.out.bytes i ((fillX z i).getD i 0) (getD_some (by unfold fillX; rw [List.length_append, List.length_take, List.length_replicate]; have := HZL.out; omega))
        rw [Nat.zero_add] at this
        rw [this]
        rfl
      obtain ⟨u, hu⟩ := Option.isSome_iff_exists.1 hq
      have hf := K2.out.frz i
      have HN := Lib.hid K1.out
      clear hx hy hxc hyc hzi hX hY hZ hq K1 K2
      go_upto_region 5 with (fail)
      go_big_region
      all_goals go_wp2
      all_goals
        go_roundg (8 - (i + 1))
        case measure => omega
        case rel => exact ⟨i + 1, by omega, by omega, by go_num, (show Aside _ from (BW.out.setCell (by have := HN1.out; show w.heap.size ≤ N1; omega) _).drew), (show Aside _ from HN.out.other (Below.heap_setCell wq ⟨N1, i, none⟩ _ w.heap.size (by have := HN1.out; show w.heap.size ≠ N1; omega))), (show Aside _ from by
          have := HS.out (.int .u8 Z) (by rw [HZ2.out])
          exact this)⟩
    · obtain rfl : i = 8 := by omega
      rw [fillX_all HZL.out] at K2
      have hz8 := HZL.out
      obtain ⟨z0, z1, z2, z3, z4, z5, z6, z7, rfl⟩ : ∃ z0 z1 z2 z3 z4 z5 z6 z7, z = [z0, z1, z2, z3, z4, z5, z6, z7] := by
        match z, hz8 with
        | [z0, z1, z2, z3, z4, z5, z6, z7], _ => exact ⟨_, _, _, _, _, _, _, _, rfl⟩
      have K2h : wq.heap[N1]? = some (.cells #[.int .u8 z0.toNat, .int .u8 z1.toNat, .int .u8 z2.toNat, .int .u8 z3.toNat, .int .u8 z4.toNat, .int .u8 z5.toNat, .int .u8 z6.toNat, .int .u8 z7.toNat] 80 (0, 0)) := K2.out
      have K1h : wq.heap[w.heap.size]? = some (.cells #[.int .u8 0, .int .u8 0, .int .u8 0, .int .u8 0, .int .u8 0, .int .u8 0, .int .u8 0, .int .u8 0] 80 (0, 0)) := K1.out
      obtain ⟨⟨a0, a1, a2, a3, a4, a5, a6, a7⟩, _⟩ := box8_facts K2h
      obtain ⟨⟨d0, d1, d2, d3, d4, d5, d6, d7⟩, hf⟩ := box8_facts K1h
      have f0 := hf 0
      have f1 := hf 1
      have f2 := hf 2
      have f3 := hf 3
      have f4 := hf 4
      have f5 := hf 5
      have f6 := hf 6
      have f7 := hf 7
      have hlt := (Array.getElem?_eq_some_iff.1 K1h).1
      have HB := Lib.hid BW.out
      clear K1h K2h hf K1 K2 BW hz8 HZ HK1 HK2 HZL
      go_wp2
      refine bodyPost_ret (v := .agg #[.int .u8 z0.toNat, .int .u8 z1.toNat, .int .u8 z2.toNat, .int .u8 z3.toNat, .int .u8 z4.toNat, .int .u8 z5.toNat, .int .u8 z6.toNat, .int .u8 z7.toNat])
        (by simp [results, Tryd.results72, go_sem, d0, d1, d2, d3, d4, d5, d6, d7]) rfl ⟨rfl, (((((((HB.out.setCell (Nat.le_refl _) _).setCell (Nat.le_refl _) _).setCell (Nat.le_refl _) _).setCell (Nat.le_refl _) _).setCell (Nat.le_refl _) _).setCell (Nat.le_refl _) _).setCell (Nat.le_refl _) _).setCell (Nat.le_refl _) _⟩
end Go.Proofs.YteepbfpcdhdgfaaDoor

/- What the program's Counts calls, as contracts over slices that it owns. -/
import Derived.Test.YthpjgongplffnaaCntP
import Derived.Test.YthpjgongplffnaaMapE
import Derived.Test.YthpjgongplffnaaCpK
import Derived.Test.YthpjgongplffnaaCloK
namespace Go.Proofs.Ythpjgongplffnaa
open Go.RowKit Go.Sort

theorem flat_zero : ∀ L : List ByteArray, (L.map zeroK).flatMap encK = L.flatMap encZ
  | [] => rfl
  | a :: r => by rw [List.map_cons, List.flatMap_cons, List.flatMap_cons, flat_zero r]
theorem Own.zeroK {w : World} {base : Nat} {E : TypeId} {v : Value} {L : List ByteArray} (h : Own w base E 6 encZ v L) : Own w base E 6 encK v (L.map zeroK) := by
  unfold Own at *
  rw [flat_zero, List.length_map]
  exact h
theorem Own.grownBy {α : Type} {w w' : World} {base : Nat} {E : TypeId} {k : Nat} {enc : α → List Value} {v : Value} {l : List α} (h : Own w base E k enc v l) {row : Option Nat} (hg : w.grownBy w' row) (hr : ∀ i, row = some i → i < base) : Own w' base E k enc v l := by
  obtain ⟨q1, q2⟩ := h
  refine ⟨q1, ?_⟩
  rcases q2 with q2 | ⟨g, cap, cur, e1, e2, e3, r⟩
  · exact Or.inl q2
  · have hlt : g < w.heap.size := lt_of_block e3
    exact Or.inr ⟨g, cap, cur, e1, e2, (hg.block g hlt (fun e => by have := hr g e.symm; omega)).trans e3, r⟩
theorem Own.grownOff {α : Type} {w w' : World} {base : Nat} {E : TypeId} {k : Nat} {enc : α → List Value} {v : Value} {l : List α} (h : Own w base E k enc v l) {row : Option Nat} (hg : w.grownBy w' row) (hr : ∀ g n c, v = .slice (some ⟨g, 0, none⟩) n c → some g ≠ row) : Own w' base E k enc v l := by
  obtain ⟨q1, q2⟩ := h
  refine ⟨q1, ?_⟩
  rcases q2 with q2 | ⟨g, cap, cur, e1, e2, e3, r⟩
  · exact Or.inl q2
  · have hlt : g < w.heap.size := lt_of_block e3
    exact Or.inr ⟨g, cap, cur, e1, e2, (hg.block g hlt (hr g _ _ e1)).trans e3, r⟩
theorem grown_of_below {w w' : World} (h : Below w.heap.size w w') : w.grownBy w' none := ⟨h.os, h.tape, h.output, h.size, fun k hk _ => h.block k hk⟩
theorem grownBy_set (w : World) (g i : Nat) (v : Value) : w.grownBy (w.setCell ⟨g, i, none⟩ v).drew (some g) :=
  have h : Below g w (w.setCell ⟨g, i, none⟩ v) := (Below.refl g w).setCell (Nat.le_refl _) _
  ⟨h.os, h.tape, h.output, h.size, fun k hk hne => Below.heap_setCell w ⟨g, i, none⟩ v k (fun e => hne (by rw [e]))⟩
theorem grownBy_alloc (w : World) (o : Obj) : w.grownBy (w.alloc o) none :=
  ⟨rfl, rfl, rfl, by simp, fun k hk _ => Below.heap_alloc w o k hk⟩
/-- A key of good events stands at a part. -/
theorem key_in {l : List Prt} {G : List Ev} (hG : GoodG l G) {v : Vk} (hv : v ∈ keysG G) : 0 ≤ v.pl ∧ v.pl < (l.length : Int) := by
  obtain ⟨e, he, rfl⟩ := (mem_keysG G v).1 hv
  have hc := hG.1 e he
  unfold conc at hc
  simp only [Bool.and_eq_true, decide_eq_true_eq] at hc
  exact ⟨hc.1.1.1, hc.1.1.2⟩
theorem clo3_any (c : Cnt) (B V : Nat) (l : List Prt) (pl : Int) (ao : Option Addr) (cap : Nat) (w : World) (hB : w.cell? ⟨B, 0, none⟩ = some (.slice ao l.length cap)) (hV : w.cell? ⟨V, 1, none⟩ = some (.int .i64 pl)) (hl : Sl w 3 encP (.slice ao l.length cap) l) (h0 : 0 ≤ pl) (h1 : pl < l.length) :
    Calls Try.prog 24 #[.agg #[.string c.ad, .int .i64 c.k0, .int .i64 c.k1, .int .i64 c.k2, .int .i64 c.k3, .int .i64 c.k4], .pointer (some ⟨B, 0, none⟩), .pointer (some ⟨V, 0, none⟩)] w fun e w' => e = .returned (.bool (c.ad.toList == (ptAt l pl).ad.toList)) ∧ Below w.heap.size w w' := by
  obtain ⟨m, rfl⟩ : ∃ m : Nat, pl = m := ⟨pl.toNat, by omega⟩
  obtain ⟨p, hp⟩ : ∃ p, l[m]? = some p := ⟨l[m]'(by omega), by simp⟩
  have hpt : ptAt l (m : Int) = p := by unfold ptAt; rw [Int.toNat_natCast, List.getD_eq_getElem?_getD, hp]; rfl
  rw [hpt]
  obtain ⟨ao', cap', he, hcap, hmax, hnil, hel⟩ := hl
  simp only [Value.slice.injEq, true_and] at he
  obtain ⟨rfl, rfl⟩ := he
  obtain ⟨pb, po, rfl, hpc⟩ := hel m p hp
  have q0 : w.cell? ⟨pb, po + m * 3, none⟩ = some (.string p.ad) := by have h := hpc 0 _ rfl; simpa using h
  obtain ⟨wx, hwx⟩ : ∃ wx, wx = w.alloc (.cells #[.string c.ad, .int .i64 c.k0, .int .i64 c.k1, .int .i64 c.k2, .int .i64 c.k3, .int .i64 c.k4] 41) := ⟨_, rfl⟩
  have HB : Hid (Below w.heap.size w wx) := Lib.hid (by rw [hwx]; exact (Below.refl _ _).alloc (Nat.le_refl _) _)
  have hmz : (m : Int) < (l.length : Int) := by omega
  have hml : m < l.length := by omega
  have x0 : wx.cell? ⟨w.heap.size, 0, none⟩ = some (.string c.ad) := by rw [hwx]; exact (cell_of_block (block_new w _)).trans rfl
  have x1 : wx.cell? ⟨B, 0, none⟩ = some (.slice (some ⟨pb, po, none⟩) l.length cap) := (HB.out.cell (p := ⟨B, 0, none⟩) (World.block_lt_of_cell? w _ hB)).trans hB
  have x2 : wx.cell? ⟨V, 1, none⟩ = some (.int .i64 m) := (HB.out.cell (p := ⟨V, 1, none⟩) (World.block_lt_of_cell? w _ hV)).trans hV
  have x3 : wx.cell? ⟨pb, po + m * 3, none⟩ = some (.string p.ad) := (HB.out.cell (p := ⟨pb, po + m * 3, none⟩) (World.block_lt_of_cell? w _ q0)).trans q0
  have hxl := World.block_lt_of_cell? wx _ x0
  have hbl := World.block_lt_of_cell? wx _ x1
  have hvl := World.block_lt_of_cell? wx _ x2
  have hpl := World.block_lt_of_cell? wx _ x3
  clear q0 hpc hel hp hB hV hpt
  go_enter Try.func24, Try.ntmps24
  go_upto_region 1 with (fail)
  rw [← hwx]
  clear hwx
  obtain ⟨X, hX⟩ : ∃ X, X = w.heap.size := ⟨_, rfl⟩
  rw [← hX] at x0 hxl ⊢
  clear hX
  go_quiet (fail)
  go_wp2
  go_ret
  exact ⟨by simp, below_drewN HB.out _⟩
end Go.Proofs.Ythpjgongplffnaa

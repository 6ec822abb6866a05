/- CheckCaches of the program. -/
import Derived.Test.YtmgbmoiefgfemaaDoorIdxC
namespace Go.Proofs.YtmgbmoiefgfemaaDoor
open Go.RowKit

theorem sameCache (n : ByteArray) (y : Cch) (B : Nat) (W : World) (hc : W.cell? ⟨B, 0, none⟩ = some (.string n)) :
    Calls Tryd.prog 46 #[.agg #[.string y.na, .string y.pa, .int .i64 y.de, .int .i64 y.ro], .pointer (some ⟨B, 0, none⟩)] W fun e w' => e = .returned (.bool (isC y n)) ∧ Below W.heap.size W w' := by
  have hlt := World.block_lt_of_cell? W _ hc
  have hv : Hid ((y.na.toList == n.toList) = isC y n) := Lib.hid rfl
  go_enter Tryd.func46, Tryd.ntmps46
  go_wp2
  go_ret
  exact ⟨ret_bool hv.out, (Below.refl _ _).alloc (Nat.le_refl _) _⟩

set_option maxRecDepth 100000 in
theorem named_any (w : World) (l : List Cch) (v : Value) (kk : Nat) (n : ByteArray) (b1 b2 : Nat) (hl : Sl w 4 encC v l) (hk : kk ≤ l.length) (h1 : w.cell? ⟨b1, 0, none⟩ = some v) (h2 : w.cell? ⟨b2, 0, none⟩ = some (.int .i64 kk)) :
    Calls Tryd.prog 44 #[.string n, .pointer (some ⟨b1, 0, none⟩), .pointer (some ⟨b2, 0, none⟩)] w fun e w' => e = .returned (.bool (hasC (l.take kk) n)) ∧ Below w.heap.size w w' := by
  obtain ⟨T, hT⟩ : ∃ T, T = hasC (l.take kk) n := ⟨_, rfl⟩
  have hl0 := hl
  obtain ⟨ao, cap, rfl, hcap, hmax, hnil, hel⟩ := hl
  unfold maxLen at hmax
  have hany : Hid (Calls Tryd.prog 45 #[.slice ao kk cap, .func (.func 46) #[] #[.pointer (some ⟨w.heap.size, 0, none⟩)]] (w.alloc (.cells #[.string n] 9)) fun e w' => e = .returned (.bool T) ∧ Below (w.alloc (.cells #[.string n] 9)).heap.size (w.alloc (.cells #[.string n] 9)) w') := Lib.hid (by
    rw [hT]
    refine anyC 46 _ (fun o => isC o n) (w.alloc (.cells #[.string n] 9)) (l.take kk) _ ((hl0.take rfl kk hk).below (B := w.heap.size) ((Below.refl _ _).alloc (Nat.le_refl _) _) (Nat.le_refl _)) (enters_of Tryd.func46 (by kernel_rfl) rfl) (fun W' y _ hb => ?_)
    refine sameCache n y w.heap.size W' ?_
    rw [hb.cell (p := ⟨w.heap.size, 0, none⟩) (by show w.heap.size < (w.alloc _).heap.size; simp), cell_of_block (block_new w _)]
    rfl)
  rw [← hT]
  have hlt1 := World.block_lt_of_cell? w _ h1
  have hlt2 := World.block_lt_of_cell? w _ h2
  have hkz : (kk : Int) ≤ (l.length : Int) := by omega
  have hkc : (kk : Int) ≤ (cap : Int) := by omega
  have hwa : w.heap.size < (w.alloc (.cells #[.string n] 9)).heap.size := by simp
  clear hel hT hl0 hnil
  go_enter Tryd.func44, Tryd.ntmps44
  go_wp2_with fail
  refine hany.out.mono ?_
  rintro e w1 ⟨rfl, hb1⟩
  have HB1 := Lib.hid (((Below.refl w.heap.size w).alloc (Nat.le_refl _) (.cells #[.string n] 9)).trans (hb1.mono (Nat.le_of_lt hwa)))
  clear hb1
  go_wp2
  go_ret
  exact ⟨rfl, HB1.out⟩
end Go.Proofs.YtmgbmoiefgfemaaDoor

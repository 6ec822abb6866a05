/- slices.Clone at []int. -/
import Derived.Test.YtfkmdojnkdoffaaLib
import Derived.Test.YtfkmdojnkdoffaaExtG
namespace Go.Proofs.Ytfkmdojnkdoffaa
open Go.RowKit

theorem cloneI_any (w : World) (l : List Int) (v : Value) (hl : Sl w 1 encI v l) (hb : l.length * 8 ≤ 140737488355328) :
    Calls Try.prog 30 #[v] w (OwnRet w 3 1 encI l) := by
  have hl0 := Lib.hid hl
  obtain ⟨ao, cap, rfl, hcap, hmax, hnil, hel⟩ := hl
  unfold maxLen at hmax
  have hn := fun w => Lib.run_eql_slice_nil (P := Try.prog) w 24 3 ao l.length cap 0 0 Try.underlying24
  cases ao with
  | none =>
    obtain rfl : cap = 0 := hnil rfl
    obtain rfl : l = [] := List.length_eq_zero_iff.1 (by omega)
    clear hel hnil hn
    have hn := fun w => Lib.run_eql_slice_nil (P := Try.prog) w 24 3 none 0 0 0 0 Try.underlying24
    go_enter Try.func30, Try.ntmps30
    go_wp2
    go_ret
    exact OwnRet.mk Own.nil (Below.refl _ _)
  | some ad =>
    clear hel hnil
    have ho := Lib.hid (show Own (w.alloc (.cells #[] 3)) w.heap.size 3 1 encI (.slice (some ⟨w.heap.size, 0, none⟩) 0 0) [] from World.ownsRow_lit w #[] 0 (Nat.le_refl _) (by simp [maxLen]) rfl)
    go_enter Try.func30, Try.ntmps30
    go_wp2_with (at_builtin; refine wpList_extendG rfl _ _ 24 rfl slI encI_len (fun _ => rfl) rfl rfl ho.out (hl0.out.below ((Below.refl _ _).alloc (Nat.le_refl _) _) (Nat.le_refl _)) (by simpa using hb) (by simp) ?_; intro v' w1 ho1 hb1; have HO := Lib.hid ho1; have HB := Lib.hid hb1; clear ho1 hb1)
    go_ret
    exact OwnRet.mk (by simpa using HO.out) (((Below.refl _ _).alloc (Nat.le_refl _) _).trans HB.out)
end Go.Proofs.Ytfkmdojnkdoffaa

/- slices.Clone at []api.Rung. -/
import Derived.Test.YtipconoogenfeaaLib
import Derived.Test.YtipconoogenfeaaRenD
import Derived.Test.YtipconoogenfeaaExtG
namespace Go.Proofs.Ytipconoogenfeaa
open Go.RowKit

theorem infoR : (Try.prog.info? 37).map (fun i => (i.zero, i.size, i.bytes)) = some (some (.agg #[.string ⟨#[]⟩, .int .i64 0, .int .i64 0, .int .i64 0]), 4, 40) := by kernel_rfl
theorem slR : SlT Try.prog 22 37 4 40 := by
  obtain ⟨i0, hi, hz0, hz1, hz2⟩ := info_parts infoR
  exact ⟨i0, _, Try.underlying22, hi, hz0, hz1, hz2, rfl, by decide, by decide⟩

theorem cloneR_any (w : World) (l : List Rng) (v : Value) (hl : Sl w 4 encR v l) (hb : l.length * 40 ≤ 140737488355328) :
    Calls Try.prog 14 #[v] w (OwnRet w 37 4 encR l) := by
  have hl0 := Lib.hid hl
  obtain ⟨ao, cap, rfl, hcap, hmax, hnil, hel⟩ := hl
  unfold maxLen at hmax
  have hn := fun w => Lib.run_eql_slice_nil (P := Try.prog) w 22 37 ao l.length cap 0 0 Try.underlying22
  cases ao with
  | none =>
    obtain rfl : cap = 0 := hnil rfl
    obtain rfl : l = [] := List.length_eq_zero_iff.1 (by omega)
    clear hel hnil hn
    have hn := fun w => Lib.run_eql_slice_nil (P := Try.prog) w 22 37 none 0 0 0 0 Try.underlying22
    go_enter Try.func14, Try.ntmps14
    go_wp2
    go_ret
    exact OwnRet.mk Own.nil (Below.refl _ _)
  | some ad =>
    clear hel hnil
    have ho := Lib.hid (show Own (w.alloc (.cells #[] 37)) w.heap.size 37 4 encR (.slice (some ⟨w.heap.size, 0, none⟩) 0 0) [] from World.ownsRow_lit w #[] 0 (Nat.le_refl _) (by simp [maxLen]) rfl)
    go_enter Try.func14, Try.ntmps14
    go_wp2_with (at_builtin; refine wpList_extendG rfl _ _ 22 rfl slR encR_len (fun _ => rfl) rfl rfl ho.out (hl0.out.below ((Below.refl _ _).alloc (Nat.le_refl _) _) (Nat.le_refl _)) (by simpa using hb) (by simp) ?_; intro v' w1 ho1 hb1; have HO := Lib.hid ho1; have HB := Lib.hid hb1; clear ho1 hb1)
    go_ret
    exact OwnRet.mk (by simpa using HO.out) (((Below.refl _ _).alloc (Nat.le_refl _) _).trans HB.out)
end Go.Proofs.Ytipconoogenfeaa

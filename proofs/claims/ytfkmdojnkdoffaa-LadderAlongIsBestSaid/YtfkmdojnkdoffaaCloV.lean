/- slices.Clone at []api.Viewer. -/
import Derived.Test.YtfkmdojnkdoffaaLib
import Derived.Test.YtfkmdojnkdoffaaExtG
import Derived.Test.YtfkmdojnkdoffaaCrowd
namespace Go.Proofs.Ytfkmdojnkdoffaa
open Go.RowKit

theorem infoV : (Try.prog.info? 63).map (fun i => (i.zero, i.size, i.bytes)) = some (some (.agg #[.int .i64 0, .int .i64 0, .int .i64 0]), 3, 24) := by kernel_rfl
theorem slV : SlT Try.prog 23 63 3 24 := by
  obtain ⟨i0, hi, hz0, hz1, hz2⟩ := info_parts infoV
  exact ⟨i0, _, Try.underlying23, hi, hz0, hz1, hz2, rfl, by decide, by decide⟩

theorem cloneV_any (w : World) (l : List Vw) (v : Value) (hl : Sl w 3 encV v l) (hb : l.length * 24 ≤ 140737488355328) :
    Calls Try.prog 34 #[v] w (OwnRet w 63 3 encV l) := by
  have hl0 := Lib.hid hl
  obtain ⟨ao, cap, rfl, hcap, hmax, hnil, hel⟩ := hl
  unfold maxLen at hmax
  have hn := fun w => Lib.run_eql_slice_nil (P := Try.prog) w 23 63 ao l.length cap 0 0 Try.underlying23
  cases ao with
  | none =>
    obtain rfl : cap = 0 := hnil rfl
    obtain rfl : l = [] := List.length_eq_zero_iff.1 (by omega)
    clear hel hnil hn
    have hn := fun w => Lib.run_eql_slice_nil (P := Try.prog) w 23 63 none 0 0 0 0 Try.underlying23
    go_enter Try.func34, Try.ntmps34
    go_wp2
    go_ret
    exact OwnRet.mk Own.nil (Below.refl _ _)
  | some ad =>
    clear hel hnil
    have ho := Lib.hid (show Own (w.alloc (.cells #[] 63)) w.heap.size 63 3 encV (.slice (some ⟨w.heap.size, 0, none⟩) 0 0) [] from World.ownsRow_lit w #[] 0 (Nat.le_refl _) (by simp [maxLen]) rfl)
    go_enter Try.func34, Try.ntmps34
    go_wp2_with (at_builtin; refine wpList_extendG rfl _ _ 23 rfl slV encV_len (fun _ => rfl) rfl rfl ho.out (hl0.out.below ((Below.refl _ _).alloc (Nat.le_refl _) _) (Nat.le_refl _)) (by simpa using hb) (by simp) ?_; intro v' w1 ho1 hb1; have HO := Lib.hid ho1; have HB := Lib.hid hb1; clear ho1 hb1)
    go_ret
    exact OwnRet.mk (by simpa using HO.out) (((Below.refl _ _).alloc (Nat.le_refl _) _).trans HB.out)
end Go.Proofs.Ytfkmdojnkdoffaa

/- slices.Clone at []api.Heard. -/
import Derived.Test.YtaknkldbdijkeaaLib
import Derived.Test.YtaknkldbdijkeaaExtG
import Derived.Test.YtaknkldbdijkeaaBrkV
namespace Go.Proofs.Ytaknkldbdijkeaa
open Go.RowKit

theorem infoH : (Try.prog.info? 42).map (fun i => (i.zero, i.size, i.bytes)) = some (some (.agg #[.int .i64 0, .int .i64 0, .int .i64 0, .bool false, .int .i64 0, .int .i64 0, .bool false]), 7, 56) := by kernel_rfl
theorem slH : SlT Try.prog 32 42 7 56 := by
  obtain ⟨i0, hi, hz0, hz1, hz2⟩ := info_parts infoH
  exact ⟨i0, _, Try.underlying32, hi, hz0, hz1, hz2, rfl, by decide, by decide⟩

theorem cloneH_any (w : World) (l : List Hrd) (v : Value) (hl : Sl w 7 encH v l) (hb : l.length * 56 ≤ 140737488355328) :
    Calls Try.prog 16 #[v] w (OwnRet w 42 7 encH l) := by
  have hl0 := Lib.hid hl
  obtain ⟨ao, cap, rfl, hcap, hmax, hnil, hel⟩ := hl
  unfold maxLen at hmax
  have hn := fun w => Lib.run_eql_slice_nil (P := Try.prog) w 32 42 ao l.length cap 0 0 Try.underlying32
  cases ao with
  | none =>
    obtain rfl : cap = 0 := hnil rfl
    obtain rfl : l = [] := List.length_eq_zero_iff.1 (by omega)
    clear hel hnil hn
    have hn := fun w => Lib.run_eql_slice_nil (P := Try.prog) w 32 42 none 0 0 0 0 Try.underlying32
    go_enter Try.func16, Try.ntmps16
    go_wp2
    go_ret
    exact OwnRet.mk Own.nil (Below.refl _ _)
  | some ad =>
    clear hel hnil
    have ho := Lib.hid (show Own (w.alloc (.cells #[] 42)) w.heap.size 42 7 encH (.slice (some ⟨w.heap.size, 0, none⟩) 0 0) [] from World.ownsRow_lit w #[] 0 (Nat.le_refl _) (by simp [maxLen]) rfl)
    go_enter Try.func16, Try.ntmps16
    go_wp2_with (at_builtin; refine wpList_extendG rfl _ _ 32 rfl slH encH_len (fun _ => rfl) rfl rfl ho.out (hl0.out.below ((Below.refl _ _).alloc (Nat.le_refl _) _) (Nat.le_refl _)) (by simpa using hb) (by simp) ?_; intro v' w1 ho1 hb1; have HO := Lib.hid ho1; have HB := Lib.hid hb1; clear ho1 hb1)
    go_ret
    exact OwnRet.mk (by simpa using HO.out) (((Below.refl _ _).alloc (Nat.le_refl _) _).trans HB.out)
end Go.Proofs.Ytaknkldbdijkeaa

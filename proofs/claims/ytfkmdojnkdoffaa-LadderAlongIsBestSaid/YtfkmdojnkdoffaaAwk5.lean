/- awake, of chapter 5. -/
import Derived.Test.YtfkmdojnkdoffaaMean2
namespace Go.Proofs.Ytfkmdojnkdoffaa
open Go.RowKit

theorem mean_test : mN [3] [2] 1 = 12 ∧ mD [3] [2] 1 = 1 ∧ mF [3] [2] 1 = 0 := by decide +kernel

set_option maxRecDepth 100000 in
theorem awake5_any (w : World) : Calls Try.prog 9 #[] w fun e w' => e = .returned (.bool true) ∧ Below w.heap.size w w' := by
  have h1 : Sl (w.alloc (.cells #[.int .i64 3] 3)) 1 encI (.slice (some ⟨w.heap.size, 0, none⟩) 1 1) [3] := Sl.fresh encI_len w 3 (0, 0) [3] (by simp [maxLen])
  have h2 : Sl ((w.alloc (.cells #[.int .i64 3] 3)).alloc (.cells #[.int .i64 2] 3)) 1 encI (.slice (some ⟨(w.alloc (.cells #[.int .i64 3] 3)).heap.size, 0, none⟩) 1 1) [2] := Sl.fresh encI_len _ 3 (0, 0) [2] (by simp [maxLen])
  have hsz : (w.alloc (.cells #[.int .i64 3] 3)).heap.size = w.heap.size + 1 := by simp
  rw [hsz] at h2
  have h3 := mean_any _ [3] [2] _ _ 1 (h1.below ((Below.refl _ _).alloc (Nat.le_refl _) (.cells #[.int .i64 2] 3)) (Nat.le_refl _)) h2
  unfold RtP at h3
  rw [mean_test.1, mean_test.2.1, mean_test.2.2] at h3
  clear h1 h2
  go_enter Try.func9, Try.ntmps9
  go_wp2_with (go_at_call 31; refine h3.mono ?_; rintro e w1 ⟨rfl, hb1⟩)
  go_ret
  exact ⟨rfl, ((((Below.refl _ _).alloc (Nat.le_refl _) _).alloc (by simp) _).trans (hb1.mono (by simp; omega))).alloc (by have := hb1.size; simp at this; omega) _⟩
end Go.Proofs.Ytfkmdojnkdoffaa

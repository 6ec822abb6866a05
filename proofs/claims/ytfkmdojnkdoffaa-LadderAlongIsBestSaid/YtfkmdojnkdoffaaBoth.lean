/- The faults of a ladder and its viewers. -/
import Derived.Test.YtfkmdojnkdoffaaWorth
namespace Go.Proofs.Ytfkmdojnkdoffaa
open Go.RowKit

/-- The fault of renditions and viewers. -/
def checkRV (l : List Rng) (c : List Vw) : Int := if checkR l ≠ 0 then checkR l else checkV c
theorem checkRV_zero {l : List Rng} {c : List Vw} (h : checkRV l c = 0) : checkR l = 0 ∧ checkV c = 0 := by
  unfold checkRV at h
  split at h
  · contradiction
  · rename_i h0; exact ⟨by omega, h⟩
theorem firstF_two (l : List Rng) (c : List Vw) : firstF [checkR l, checkV c] = checkRV l c := by
  unfold checkRV
  by_cases h : checkR l = 0
  · by_cases h2 : checkV c = 0 <;> simp [firstF, h, h2]
  · simp [firstF, h]

set_option maxHeartbeats 1000000 in
theorem both_any (w : World) (l : List Rng) (u : Value) (c : List Vw) (v : Value) (hl : Sl w 4 encR u l) (hw : ∀ x, x ∈ l → WfR x) (hc : Sl w 3 encV v c) :
    Calls Try.prog 24 #[u, v] w fun e w' => e = .returned (.int .i64 (checkRV l c)) ∧ Below w.heap.size w w' := by
  have HR := Lib.hid (checkRenR_any w l u hl hw)
  have HC := fun (W : World) (hb : Below w.heap.size w W) => checkCrowdR_any W c v (hc.below hb (Nat.le_refl _))
  have HV : Hid (checkRV l c = if checkR l ≠ 0 then checkR l else checkV c) := Lib.hid rfl
  generalize checkRV l c = R at HV ⊢
  generalize checkR l = r at HR HV
  generalize checkV c = s at HC HV
  clear hl hw hc
  go_enter Try.func24, Try.ntmps24
  go_upto_region 2 with (go_at_call 43; refine HR.out.mono ?_; rintro e w2 ⟨rfl, hb⟩; have HB := Lib.hid hb; have HC2 := Lib.hid (HC w2 hb); clear hb)
  cases e1 : (r != 0)
  case true =>
    have hv : Hid (r = R) := Lib.hid (by rw [HV.out, if_pos (by simpa using e1)])
    go_wp2
    go_ret
    exact ⟨ret_int hv.out, HB.out⟩
  case false =>
    have hv : Hid (s = R) := Lib.hid (by rw [HV.out, if_neg (by simpa using e1)])
    go_wp2_with (go_at_call 44; refine HC2.out.mono ?_; rintro e w3 ⟨rfl, hb3⟩; have HB3 := Lib.hid (HB.out.thru hb3); clear hb3)
    go_ret
    exact ⟨ret_int hv.out, HB3.out⟩
end Go.Proofs.Ytfkmdojnkdoffaa

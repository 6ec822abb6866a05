/- How pick compares two caches. -/
import Derived.Test.YteepbfpcdhdgfaaDoorWgtK
import Derived.Test.YteepbfpcdhdgfaaDoorLibC
import Derived.Test.YteepbfpcdhdgfaaDoorShfE
import Derived.Deep.RegionHeld3
namespace Go.Proofs.YteepbfpcdhdgfaaDoor
open Go.RowKit

theorem strCmp (a b : ByteArray) (w : World) : Calls Tryd.prog 36 #[.string a, .string b] w fun e w' => e = .returned (.int .i64 (Lib.compareBytes a.data.toList b.data.toList)) ∧ w' = w := Any.strings_Compare Tryd.lays106 a b w
def cmpK (k a b : ByteArray) : Int := if wgtK b k < wgtK a k then -1 else if wgtK a k < wgtK b k then 1 else Lib.compareBytes a.data.toList b.data.toList
set_option maxRecDepth 100000 in
set_option maxHeartbeats 4000000 in
theorem pickCmp_any (w : World) (B : Nat) (k a b : ByteArray) (hk : k.size ≤ 300) (ha : a.size ≤ 40) (hb : b.size ≤ 40) (hc : w.cell? ⟨B, 0, none⟩ = some (.string k)) :
    Calls Tryd.prog 39 #[.string a, .string b, .pointer (some ⟨B, 0, none⟩)] w fun e w' => e = .returned (.int .i64 (cmpK k a b)) ∧ Below w.heap.size w w' := by
  have HA := Lib.hid (fun W => weight_any W a k ha hk)
  have HB := Lib.hid (fun W => weight_any W b k hb hk)
  have HC := Lib.hid (fun W => strCmp a b W)
  have HV : Hid (cmpK k a b = if wgtK b k < wgtK a k then -1 else if wgtK a k < wgtK b k then 1 else Lib.compareBytes a.data.toList b.data.toList) := Lib.hid rfl
  have hbl := World.block_lt_of_cell? w _ hc
  generalize wgtK a k = x at HA HV
  generalize wgtK b k = y at HB HV
  generalize cmpK k a b = z at HV ⊢
  go_enter Tryd.func39, Tryd.ntmps39
  have HQ : Below w.heap.size w w.drew := (Below.refl _ w).drew
  go_upto_region 1 with (fail)
  go_cut [6, 7] (fun s6 s7 wc => s6 = .int .u64 x ∧ s7 = .int .u64 y ∧ Aside (Below w.heap.size w wc))
  case first =>
    go_region_held3 (fun W' => W'.cell? ⟨B, 0, none⟩ = some (.string k))
      (first | exact (HQ.cell (p := ⟨B, 0, none⟩) hbl).trans hc | fail)
      (first | (go_at_call 40; (with_reducible refine (HA.out _).mono ?_); rintro e w' ⟨rfl, hb⟩; have HQ := HQ.trans (hb.mono HQ.size)) | (go_at_call 40; (with_reducible refine (HB.out _).mono ?_); rintro e w' ⟨rfl, hb⟩; have HQ := HQ.trans (hb.mono HQ.size)) | fail)
    go_wp2
    go_meet
    exact ⟨rfl, rfl, HQ⟩
  obtain ⟨rfl, rfl, HQC⟩ := hcut
  by_cases h1 : y < x
  · have h1z : (y : Int) < (x : Int) := by omega
    have hz : Hid (z = -1) := Lib.hid (by rw [HV.out, if_pos h1])
    go_wp2
    go_ret
    exact ⟨by rw [hz.out]; rfl, HQC.out⟩
  have h1z : ¬ (y : Int) < (x : Int) := by omega
  by_cases h2 : x < y
  · have h2z : (x : Int) < (y : Int) := by omega
    have hz : Hid (z = 1) := Lib.hid (by rw [HV.out, if_neg h1, if_pos h2])
    go_wp2
    go_ret
    exact ⟨by rw [hz.out]; rfl, HQC.out⟩
  have h2z : ¬ (x : Int) < (y : Int) := by omega
  have hz : Hid (z = Lib.compareBytes a.data.toList b.data.toList) := Lib.hid (by rw [HV.out, if_neg h1, if_neg h2])
  go_wp2_with (go_at_call 36; refine (HC.out _).mono ?_; rintro e w' ⟨rfl, hw'⟩; subst hw')
  go_ret
  exact ⟨by rw [hz.out]; rfl, HQC.out⟩
end Go.Proofs.YteepbfpcdhdgfaaDoor

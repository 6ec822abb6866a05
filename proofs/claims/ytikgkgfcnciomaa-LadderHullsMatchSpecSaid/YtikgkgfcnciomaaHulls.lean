/- LadderHullsMatchSpec: the walk of the law. -/
import Derived.Test.YtikgkgfcnciomaaHulQ
import Derived.Test.YtikgkgfcnciomaaEqIL
import Derived.Test.YtikgkgfcnciomaaAwk5
namespace Go.Proofs.Ytikgkgfcnciomaa
open Go.RowKit

set_option maxHeartbeats 1000000 in
theorem hulls_any (w : World) (l : List Rng) (u : Value) (hl : Sl w 4 encR u l) (hw : ∀ x, x ∈ l → WfR x) :
    Calls Try.prog 3 #[u] w fun e w' => e = .returned (.bool true) ∧ Below w.heap.size w w' := by
  have h1 := Lib.hid (fun (W : World) (hb : Below w.heap.size w W) => Sensible_any W l u (hl.below hb (Nat.le_refl _)) hw)
  have h2 := Lib.hid (fun (W : World) (hb : Below w.heap.size w W) => SensibleR_any W l u (hl.below hb (Nat.le_refl _)) hw)
  have h3 := Lib.hid (fun (W : World) (hb : Below w.heap.size w W) => checkRen_any W l u (hl.below hb (Nat.le_refl _)) hw)
  have h4 := Lib.hid (fun (W : World) (hb : Below w.heap.size w W) => checkRenR_any W l u (hl.below hb (Nat.le_refl _)) hw)
  have h5 := Lib.hid (fun (W : World) (hb : Below w.heap.size w W) => Hull_any W l u (hl.below hb (Nat.le_refl _)) hw)
  have h6 := Lib.hid (fun (W : World) (hb : Below w.heap.size w W) => HullR_any W l u (hl.below hb (Nat.le_refl _)) hw)
  clear hl hw
  generalize senR l = n1 at h1 h2
  generalize hulR l = n2 at h5 h6
  generalize checkR l = n3 at h1 h2 h3 h4 h5 h6
  go_enter Try.func3, Try.ntmps3
  go_wp2_with fail
  refine (h1.out _ (Below.refl _ _)).mono ?_
  rintro e w1 ⟨v1, rfl, hs, hb⟩
  have HS1 := Lib.hid hs
  have HB1 := Lib.hid hb
  clear hs hb
  go_wp2_with fail
  refine (h2.out _ HB1.out).mono ?_
  rintro e w2 ⟨v2, rfl, hs, hb⟩
  have HS2 := Lib.hid hs
  have HB2 := Lib.hid (HB1.out.thru hb)
  have HT1 := Lib.hid (HS1.out.below hb (Nat.le_refl _))
  clear hs hb
  go_wp2_with fail
  refine (h3.out _ HB2.out).mono ?_
  rintro e w3 ⟨rfl, hb⟩
  have HB3 := Lib.hid (HB2.out.thru hb)
  have HT2 := Lib.hid (HS2.out.below hb (Nat.le_refl _))
  have HT3 := Lib.hid (HT1.out.below hb (Nat.le_refl _))
  clear hb
  go_wp2_with fail
  refine (h4.out _ HB3.out).mono ?_
  rintro e w4 ⟨rfl, hb⟩
  have HB4 := Lib.hid (HB3.out.thru hb)
  have HE := Lib.hid (equalSameI w4 n1 v1 v2 (HT3.out.below hb (Nat.le_refl _)) (HT2.out.below hb (Nat.le_refl _)))
  clear hb
  go_wp2_with fail
  refine HE.out.mono ?_
  rintro e w5 ⟨rfl, hb⟩
  have HB5 := Lib.hid (HB4.out.thru hb)
  clear hb
  go_wp2_with fail
  refine (h5.out _ HB5.out).mono ?_
  rintro e w6 ⟨v3, rfl, hs, hb⟩
  have HS3 := Lib.hid hs
  have HB6 := Lib.hid (HB5.out.thru hb)
  clear hs hb
  go_wp2_with fail
  refine (h6.out _ HB6.out).mono ?_
  rintro e w7 ⟨v4, rfl, hs, hb⟩
  have HB7 := Lib.hid (HB6.out.thru hb)
  have HE2 := Lib.hid (equalSameI w7 n2 v3 v4 (HS3.out.below hb (Nat.le_refl _)) hs)
  clear hs hb
  go_wp2_with fail
  refine HE2.out.mono ?_
  rintro e w8 ⟨rfl, hb⟩
  have HB8 := Lib.hid (HB7.out.thru hb)
  clear hb
  go_wp2_with fail
  refine (awake5_any _).mono ?_
  rintro e w9 ⟨rfl, hb⟩
  go_wp2
  go_ret
  exact ⟨rfl, HB8.out.thru hb⟩
end Go.Proofs.Ytikgkgfcnciomaa

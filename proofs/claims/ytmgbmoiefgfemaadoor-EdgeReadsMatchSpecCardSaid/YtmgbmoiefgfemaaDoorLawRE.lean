/- The law of reads. -/
import Derived.Test.YtmgbmoiefgfemaaDoorRdER
import Derived.Test.YtmgbmoiefgfemaaDoorEqG
import Derived.Test.YtmgbmoiefgfemaaDoorNor1
namespace Go.Proofs.YtmgbmoiefgfemaaDoor
open Go.RowKit Go.Lib

set_option maxRecDepth 100000 in
set_option maxHeartbeats 4000000 in
theorem readsE_any (w : World) (t : ByteArray) (m : Int) (ht : t.size ≤ maxLen) (hm : w.cell? ⟨0, 0, none⟩ = some (.int .i64 m)) (htab : TabIs Tryd.prog w "internal/strconv.uint64pow10" .u64 pow10Tab) :
    Calls Tryd.prog 7 #[.string t] w fun e w' => e = .returned (.bool true) ∧ Below w.heap.size w w' := by
  unfold maxLen at ht
  have h0 := World.block_lt_of_cell? w _ hm
  have HA := Lib.hid (readE_any t w m (by omega) hm)
  have HB := Lib.hid (fun (W : World) (h : Below w.heap.size w W) => readER_any t W m (by omega) ((h.cell (p := ⟨0, 0, none⟩) h0).trans hm) (tab_below htab h))
  obtain ⟨R, hR⟩ : ∃ R, R = readT t := ⟨_, rfl⟩
  rw [← hR] at HA HB
  obtain ⟨l, n, f⟩ := R
  have HM := Lib.hid hm
  clear hR hm htab
  go_enter Tryd.func7, Tryd.ntmps7
  go_wp2_with fail
  refine HA.out.mono ?_
  rintro e w1 ⟨v1, rfl, hs1, hb1⟩
  simp only at hs1
  have HB1 := Lib.hid hb1
  go_wp2_with fail
  refine (HB.out _ HB1.out).mono ?_
  rintro e w2 ⟨v2, rfl, hs2, hb2⟩
  simp only at hs2
  have HB2 := Lib.hid (hb1.trans (hb2.mono hb1.size))
  have HE := Lib.hid (equalSameG w2 l v1 v2 (hs1.below hb2 (Nat.le_refl _)) hs2)
  clear hs1 hs2 hb1 hb2
  go_wp2_with fail
  refine HE.out.mono ?_
  rintro e w3 ⟨rfl, hb3⟩
  have HB3 := Lib.hid (HB2.out.trans (hb3.mono HB2.out.size))
  have HAW := Lib.hid (awakeE_any w3 m ((HB3.out.cell (p := ⟨0, 0, none⟩) h0).trans HM.out))
  clear hb3
  go_wp2_with fail
  refine HAW.out.mono ?_
  rintro e w4 ⟨rfl, hb4⟩
  have HB4 := Lib.hid (HB3.out.trans (hb4.mono HB3.out.size))
  clear hb4
  go_wp2
  go_ret
  exact ⟨rfl, HB4.out⟩
end Go.Proofs.YtmgbmoiefgfemaaDoor

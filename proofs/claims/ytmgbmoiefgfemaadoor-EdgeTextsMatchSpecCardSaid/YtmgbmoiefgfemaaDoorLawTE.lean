/- The law of texts. -/
import Derived.Test.YtmgbmoiefgfemaaDoorRdE
import Derived.Test.YtmgbmoiefgfemaaDoorTxE
import Derived.Test.YtmgbmoiefgfemaaDoorEqG
import Derived.Test.YtmgbmoiefgfemaaDoorNor1
namespace Go.Proofs.YtmgbmoiefgfemaaDoor
open Go.RowKit Go.Lib

set_option maxRecDepth 100000 in
set_option maxHeartbeats 4000000 in
theorem textsE_any (w : World) (l : List Gt) (v : Value) (m : Int) (hl : Sl w 3 encT v l) (hw : ∀ x, x ∈ l → WfT x) (hm : w.cell? ⟨0, 0, none⟩ = some (.int .i64 m)) (ht : TabIs Tryd.prog w "internal/strconv.uint64pow10" .u64 pow10Tab) :
    Calls Tryd.prog 8 #[v] w fun e w' => e = .returned (.bool true) ∧ Below w.heap.size w w' := by
  have h0 := World.block_lt_of_cell? w _ hm
  have HL := Lib.hid hl
  have HM := Lib.hid hm
  have HA := Lib.hid (textE_any w l v hl hw ht)
  have HB := Lib.hid (fun (W : World) (h : Below w.heap.size w W) => textRE_any W l v (hl.below h (Nat.le_refl _)) hw (tab_below ht h))
  by_cases hck : checkT l = 0
  case neg =>
    have ht2 : txtR l = ⟨#[]⟩ := by simp [txtR, hck]
    rw [ht2] at HA HB
    generalize checkT l = C at HA HB hck
    clear hl hw hm ht ht2
    obtain ⟨ao, cap, rfl, _⟩ := HL.out
    go_enter Tryd.func8, Tryd.ntmps8
    go_wp2_with fail
    refine HA.out.mono ?_
    rintro e w1 ⟨rfl, hb1⟩
    have HB1 := Lib.hid hb1
    clear hb1
    go_wp2_with fail
    refine (HB.out _ HB1.out).mono ?_
    rintro e w2 ⟨rfl, hb2⟩
    have HB2 := Lib.hid (HB1.out.trans (hb2.mono HB1.out.size))
    have HAW := Lib.hid (awakeE_any w2 m ((HB2.out.cell (p := ⟨0, 0, none⟩) h0).trans HM.out))
    clear hb2
    go_wp2_with fail
    refine HAW.out.mono ?_
    rintro e w3 ⟨rfl, hb3⟩
    have HB3 := Lib.hid (HB2.out.trans (hb3.mono HB2.out.size))
    clear hb3
    go_wp2
    go_ret
    exact ⟨rfl, HB3.out⟩
  have ht2 : txtR l = txtB l l.length := by simp [txtR, hck]
  rw [ht2, hck] at HA HB
  have e1 : txtB l l.length = ⟨(textG l).toArray⟩ := by unfold txtB; rw [List.take_length]
  have hrd := read_text hck
  obtain ⟨h1000, hgood⟩ := checkT_zero hck
  have hsz : (txtB l l.length).size ≤ 9223372036854775807 := by
    have h1 := (text_len l hgood).1
    rw [e1, mk_size]
    omega
  rw [← e1] at hrd
  have HR := Lib.hid (fun (W : World) (h : Below w.heap.size w W) => readE_any (txtB l l.length) W m hsz ((h.cell (p := ⟨0, 0, none⟩) h0).trans HM.out))
  rw [hrd] at HR
  generalize txtB l l.length = X at HA HB HR
  clear hl hw hm ht hck hgood hsz hrd e1 ht2 h1000
  obtain ⟨ao, cap, rfl, _⟩ := HL.out
  go_enter Tryd.func8, Tryd.ntmps8
  go_wp2_with fail
  refine HA.out.mono ?_
  rintro e w1 ⟨rfl, hb1⟩
  have HB1 := Lib.hid hb1
  clear hb1
  go_wp2_with fail
  refine (HB.out _ HB1.out).mono ?_
  rintro e w2 ⟨rfl, hb2⟩
  have HB2 := Lib.hid (HB1.out.trans (hb2.mono HB1.out.size))
  have HAW := Lib.hid (awakeE_any w2 m ((HB2.out.cell (p := ⟨0, 0, none⟩) h0).trans HM.out))
  clear hb2
  go_wp2_with fail
  refine HAW.out.mono ?_
  rintro e w3 ⟨rfl, hb3⟩
  have HB3 := Lib.hid (HB2.out.trans (hb3.mono HB2.out.size))
  clear hb3
  go_wp2_with fail
  refine (HR.out _ HB3.out).mono ?_
  rintro e w4 ⟨v4, rfl, hs4, hb4⟩
  simp only at hs4
  have HB4 := Lib.hid (HB3.out.trans (hb4.mono HB3.out.size))
  have HE := Lib.hid (equalSameG w4 l _ v4 (HL.out.below HB4.out (Nat.le_refl _)) hs4)
  clear hb4 hs4
  go_wp2_with fail
  refine HE.out.mono ?_
  rintro e w5 ⟨rfl, hb5⟩
  have HB5 := Lib.hid (HB4.out.trans (hb5.mono HB4.out.size))
  clear hb5
  go_wp2
  go_ret
  exact ⟨rfl, HB5.out⟩
end Go.Proofs.YtmgbmoiefgfemaaDoor

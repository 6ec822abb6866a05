/- MarkFillsMatchSpec: the walk of the law. -/
import Derived.Test.YtaajjngfmaiicaaFillR
import Derived.Test.YtaajjngfmaiicaaEqIL
import Derived.Test.YtaajjngfmaiicaaSum
namespace Go.Proofs.Ytaajjngfmaiicaa
open Go.RowKit

theorem FlP.isBad {w w' : World} {l : List Adv} {m : Int} {e : Ending} (h : FlP w l m e w') (h0 : fillF l m ≠ 0) : e = .returned (.tuple #[.slice none 0 0, .int .i64 0, .int .i64 (fillF l m)]) ∧ Below w.heap.size w w' := by
  obtain ⟨hb, h | h⟩ := h
  · exact ⟨h.2, hb⟩
  · exact absurd h.1 h0
theorem FlP.isGood {w w' : World} {l : List Adv} {m : Int} {e : Ending} (h : FlP w l m e w') (h0 : fillF l m = 0) : ∃ B v, bestL l m B ∧ Sl w' 1 encI v B ∧ e = .returned (.tuple #[v, .int .i64 (selV l B), .int .i64 0]) ∧ Below w.heap.size w w' := by
  obtain ⟨hb, h | ⟨_, B, v, h1, h2, h3⟩⟩ := h
  · exact absurd h0 h.1
  · exact ⟨B, v, h1, h2, h3, hb⟩
def TrueP (w : World) : Ending → World → Prop := fun e w' => e = .returned (.bool true) ∧ Below w.heap.size w w'

set_option maxHeartbeats 1000000 in
theorem fills_any (w : World) (l : List Adv) (v : Value) (m : Int) (hl : Sl w 4 encA v l) (hw : ∀ x, x ∈ l → WfA x) :
    Calls Try.prog 4 #[v, .int .i64 m] w (TrueP w) := by
  have H1 := Lib.hid (Fill_any w l v m hl hw)
  have H2 := Lib.hid (fun (W : World) (hb : Below w.heap.size w W) => FillR_any W l v m (hl.below hb (Nat.le_refl _)) hw)
  clear hl hw
  by_cases h0 : fillF l m = 0
  · have K1 := Lib.hid (fun (e : Ending) (w' : World) (h : FlP w l m e w') => h.isGood h0)
    have K2 := Lib.hid (fun (W : World) (e : Ending) (w' : World) (h : FlP W l m e w') => h.isGood h0)
    clear h0
    go_enter Try.func4, Try.ntmps4
    go_wp2_with fail
    refine H1.out.mono ?_
    rintro e w1 h
    obtain ⟨B, v1, hB, hs, rfl, hb⟩ := K1.out e w1 h
    have HB := Lib.hid hb
    have HS := Lib.hid hs
    have HBB := Lib.hid hB
    clear h hB hs hb
    go_wp2_with fail
    refine (H2.out _ HB.out).mono ?_
    rintro e w2 h
    obtain ⟨B2, v2, hB2, hs2, rfl, hb2⟩ := K2.out _ e w2 h
    obtain rfl := bestL.one HBB.out hB2
    have HB2 := Lib.hid (HB.out.thru hb2)
    have HEQ := Lib.hid (equalSameI w2 B v1 v2 (HS.out.below hb2 (Nat.le_refl _)) hs2)
    clear h hB2 hs2 hb2
    go_wp2_with (first | (go_at_call 8; refine HEQ.out.mono ?_; rintro e w3 ⟨rfl, hb3⟩; have HB3 := Lib.hid (HB2.out.thru hb3); clear hb3) | (go_at_call 6; refine (awake_any _).mono ?_; rintro e w4 ⟨rfl, hb4⟩))
    go_ret
    exact ⟨rfl, HB3.out.thru hb4⟩
  · have K1 := Lib.hid (fun (W : World) (e : Ending) (w' : World) (h : FlP W l m e w') => h.isBad h0)
    have HEQ := Lib.hid (fun W => equalSameI W [] (.slice none 0 0) (.slice none 0 0) Sl.nil Sl.nil)
    generalize fillF l m = f at K1
    clear h0
    go_enter Try.func4, Try.ntmps4
    go_wp2_with fail
    refine H1.out.mono ?_
    rintro e w1 h
    obtain ⟨rfl, hb⟩ := K1.out _ e w1 h
    have HB := Lib.hid hb
    clear h hb
    go_wp2_with fail
    refine (H2.out _ HB.out).mono ?_
    rintro e w2 h
    obtain ⟨rfl, hb2⟩ := K1.out _ e w2 h
    have HB2 := Lib.hid (HB.out.thru hb2)
    clear h hb2
    go_wp2_with (first | (go_at_call 8; refine (HEQ.out _).mono ?_; rintro e w3 ⟨rfl, hb3⟩; have HB3 := Lib.hid (HB2.out.thru hb3); clear hb3) | (go_at_call 6; refine (awake_any _).mono ?_; rintro e w4 ⟨rfl, hb4⟩))
    go_ret
    exact ⟨rfl, HB3.out.thru hb4⟩
end Go.Proofs.Ytaajjngfmaiicaa

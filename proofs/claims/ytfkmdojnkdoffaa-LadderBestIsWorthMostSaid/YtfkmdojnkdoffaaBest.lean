/- LadderBestMatchesSpec: Best is as specified. -/
import Derived.Test.YtfkmdojnkdoffaaBstR
import Derived.Test.YtfkmdojnkdoffaaEqIL
import Derived.Test.YtfkmdojnkdoffaaAwk5
namespace Go.Proofs.Ytfkmdojnkdoffaa
open Go.RowKit

theorem BsP.same {f : List Int → Int} {n m : Nat} {F z z' : Int} {B B' : List Int} (h0 : F = 0 → bestW f n m B ∧ z = f B) (h1 : F ≠ 0 → B = [] ∧ z = 0) (k0 : F = 0 → bestW f n m B' ∧ z' = f B') (k1 : F ≠ 0 → B' = [] ∧ z' = 0) : B = B' ∧ z = z' := by
  by_cases h : F = 0
  · have e := (h0 h).1.one (k0 h).1
    exact ⟨e, by rw [(h0 h).2, (k0 h).2, e]⟩
  · exact ⟨by rw [(h1 h).1, (k1 h).1], by rw [(h1 h).2, (k1 h).2]⟩

set_option maxRecDepth 100000 in
set_option maxHeartbeats 2000000 in
theorem best_any (w : World) (l : List Rng) (u : Value) (c : List Vw) (v : Value) (m : Int) (hl : Sl w 4 encR u l) (hw : ∀ x, x ∈ l → WfR x) (hc : Sl w 3 encV v c) :
    Calls Try.prog 3 #[u, v, .int .i64 m] w fun e w' => e = .returned (.bool true) ∧ Below w.heap.size w w' := by
  have h1 := Lib.hid (Best_any w l u c v m hl hw hc)
  have h2 := Lib.hid (fun (W : World) (hb : Below w.heap.size w W) => BestR_any W l u c v m (hl.below hb (Nat.le_refl _)) hw (hc.below hb (Nat.le_refl _)))
  clear hl hw hc
  go_enter Try.func3, Try.ntmps3
  go_wp2_with fail
  refine h1.out.mono ?_
  rintro e w1 ⟨x, B, z, rfl, hs, hb, h0, hn⟩
  have HS1 := Lib.hid hs
  have HB1 := Lib.hid hb
  have H0 := Lib.hid h0
  have HN := Lib.hid hn
  clear hs hb h0 hn
  go_wp2_with fail
  refine (h2.out _ HB1.out).mono ?_
  rintro e w2 ⟨y, B', z', rfl, hs, hb, h0, hn⟩
  obtain ⟨rfl, rfl⟩ := BsP.same H0.out HN.out h0 hn
  have HB2 := Lib.hid (HB1.out.thru hb)
  have HE := Lib.hid (equalSameI w2 B x y (HS1.out.below hb (Nat.le_refl _)) hs)
  clear hs hb h0 hn H0 HN HS1 h1 h2
  generalize bestFa l c m = F
  go_wp2_with (first | (go_at_call 8; refine HE.out.mono ?_; rintro e w3 ⟨rfl, hb3⟩; have HB3 := Lib.hid (HB2.out.thru hb3); clear hb3) | (go_at_call 9; refine (awake5_any _).mono ?_; rintro e w4 ⟨rfl, hb4⟩))
  go_ret
  exact ⟨by simp, HB3.out.thru hb4⟩
end Go.Proofs.Ytfkmdojnkdoffaa

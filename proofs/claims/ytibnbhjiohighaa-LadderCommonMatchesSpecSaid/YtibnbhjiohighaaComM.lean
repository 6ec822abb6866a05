/- LadderCommonMatchesSpec: Common is as specified. -/
import Derived.Test.YtibnbhjiohighaaComR
import Derived.Test.YtibnbhjiohighaaEqIL
import Derived.Test.YtibnbhjiohighaaAwk5
namespace Go.Proofs.Ytibnbhjiohighaa
open Go.RowKit

theorem CoP.same {f : List Int → Int} {R : List Int} {n m : Nat} {F z z' : Int} {O O' B B' : List Int} (h0 : F = 0 → bestW f n m B ∧ O = ratesAt R B ∧ z = f B) (h1 : F ≠ 0 → O = [] ∧ z = 0) (k0 : F = 0 → bestW f n m B' ∧ O' = ratesAt R B' ∧ z' = f B') (k1 : F ≠ 0 → O' = [] ∧ z' = 0) : O = O' ∧ z = z' := by
  by_cases h : F = 0
  · have e := (h0 h).1.one (k0 h).1
    exact ⟨by rw [(h0 h).2.1, (k0 h).2.1, e], by rw [(h0 h).2.2, (k0 h).2.2, e]⟩
  · exact ⟨by rw [(h1 h).1, (k1 h).1], by rw [(h1 h).2, (k1 h).2]⟩

set_option maxRecDepth 100000 in
set_option maxHeartbeats 2000000 in
theorem com_any (w : World) (F : List Flm) (u : Value) (W : List Int) (v : Value) (m : Int) (hF : Sl w 1 encFl u F) (hFW : ∀ f, f ∈ F → WfF w f) (hW : Sl w 1 encI v W) :
    Calls Try.prog 3 #[u, v, .int .i64 m] w fun e w' => e = .returned (.bool true) ∧ Below w.heap.size w w' := by
  have h1 := Lib.hid (Common_any w F W m u v hF hFW hW)
  have h2 := Lib.hid (fun (X : World) (hb : Below w.heap.size w X) => CommonR_any X F W m u v (hF.below hb (Nat.le_refl _)) (fun f hf => ⟨(hFW f hf).1.below hb (Nat.le_refl _), (hFW f hf).2⟩) (hW.below hb (Nat.le_refl _)))
  clear hF hFW hW
  go_enter Try.func3, Try.ntmps3
  go_wp2_with fail
  refine h1.out.mono ?_
  rintro e w1 ⟨x, O, z, B, rfl, hs, hb, h0, hn⟩
  have HS1 := Lib.hid hs
  have HB1 := Lib.hid hb
  have H0 := Lib.hid h0
  have HN := Lib.hid hn
  clear hs hb h0 hn
  go_wp2_with fail
  refine (h2.out _ HB1.out).mono ?_
  rintro e w2 ⟨y, O', z', B', rfl, hs, hb, h0, hn⟩
  obtain ⟨rfl, rfl⟩ := CoP.same H0.out HN.out h0 hn
  have HB2 := Lib.hid (HB1.out.thru hb)
  have HE := Lib.hid (equalSameI w2 O x y (HS1.out.below hb (Nat.le_refl _)) hs)
  clear hs hb h0 hn H0 HN HS1 h1 h2
  generalize comFa F W m = V
  go_wp2_with (first | (go_at_call 6; refine HE.out.mono ?_; rintro e w3 ⟨rfl, hb3⟩; have HB3 := Lib.hid (HB2.out.thru hb3); clear hb3) | (go_at_call 7; refine (awake5_any _).mono ?_; rintro e w4 ⟨rfl, hb4⟩))
  go_ret
  exact ⟨by simp, HB3.out.thru hb4⟩
end Go.Proofs.Ytibnbhjiohighaa

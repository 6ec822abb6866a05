/- Fill of the program. -/
import Derived.Test.YtaajjngfmaiicaaFrom
import Derived.Test.YtaajjngfmaiicaaAdsF
namespace Go.Proofs.Ytaajjngfmaiicaa
open Go.RowKit

/-- The fault of a break that is filled. -/
def fillF (l : List Adv) (m : Int) : Int := if adsF l ≠ 0 then adsF l else if outB m 0 1000000000000000 = true then 1 else 0
theorem fillF_zero {l : List Adv} {m : Int} (h : fillF l m = 0) : adsF l = 0 ∧ 0 ≤ m ∧ m ≤ 1000000000000000 := by
  unfold fillF at h
  split at h
  · contradiction
  rename_i h0
  split at h
  · simp at h
  rename_i h1
  exact ⟨by omega, outB_no' h1⟩
theorem AdsOk.of {l : List Adv} (h : adsF l = 0) : AdsOk l := ⟨(adsF_zero h).1, fun x hx => ((adsF_zero h).2 x hx).2⟩

/-- What Fill answers. -/
def FlP (w : World) (l : List Adv) (m : Int) : Ending → World → Prop := fun e w' => Below w.heap.size w w' ∧
  ((fillF l m ≠ 0 ∧ e = .returned (.tuple #[.slice none 0 0, .int .i64 0, .int .i64 (fillF l m)])) ∨ (fillF l m = 0 ∧ ∃ B v, bestL l m B ∧ Sl w' 1 encI v B ∧ e = .returned (.tuple #[v, .int .i64 (selV l B), .int .i64 0])))
theorem FlP.bad {w w' : World} {l : List Adv} {m f : Int} (hb : Below w.heap.size w w') (h : f = fillF l m) (h0 : f ≠ 0) : FlP w l m (.returned (.tuple #[.slice none 0 0, .int .i64 0, .int .i64 f])) w' :=
  ⟨hb, .inl ⟨by omega, by rw [h]⟩⟩
theorem FlP.good {w w' : World} {l : List Adv} {m : Int} {v : Value} {B : List Int} (hb : Below w.heap.size w w') (h : fillF l m = 0) (hB : bestL l m B) (hs : Sl w' 1 encI v B) : FlP w l m (.returned (.tuple #[v, .int .i64 (selV l B), .int .i64 0])) w' :=
  ⟨hb, .inr ⟨h, B, v, hB, hs, rfl⟩⟩

set_option maxHeartbeats 2000000 in
theorem Fill_any (w : World) (l : List Adv) (v : Value) (m : Int) (hl : Sl w 4 encA v l) (hw : ∀ x, x ∈ l → WfA x) :
    Calls Try.prog 5 #[v, .int .i64 m] w (FlP w l m) := by
  have HA := Lib.hid (adsFault_any w l v hl hw)
  have HF : Hid (fillF l m = if adsF l ≠ 0 then adsF l else if outB m 0 1000000000000000 = true then 1 else 0) := Lib.hid rfl
  have HOK := Lib.hid (fun (h : adsF l = 0) => AdsOk.of h)
  obtain ⟨f, hf⟩ : ∃ f, f = adsF l := ⟨_, rfl⟩
  rw [← hf] at HA HF HOK
  have HL := Lib.hid hl
  clear hf hl hw
  cases e1 : (f != 0)
  case true =>
    have hv : Hid (f = fillF l m) := Lib.hid (by rw [HF.out, if_pos (by simpa using e1)])
    have hne : f ≠ 0 := by simpa using e1
    have HNE := Lib.hid hne
    clear hne
    go_enter Try.func5, Try.ntmps5
    go_wp2_with (go_at_call 9; refine HA.out.mono ?_; rintro e w2 ⟨rfl, hb⟩)
    go_ret3
    exact FlP.bad hb hv.out HNE.out
  obtain rfl : f = 0 := by simpa using e1
  have HF2 : Hid (fillF l m = if outB m 0 1000000000000000 = true then 1 else 0) := Lib.hid (by rw [HF.out]; rfl)
  clear e1 HF
  cases o1 : outB m 0 1000000000000000
  case true =>
    have hv : Hid (1 = fillF l m) := Lib.hid (by rw [HF2.out, o1]; rfl)
    go_enter Try.func5, Try.ntmps5
    go_wp2_with (first | (go_at_call 9; refine HA.out.mono ?_; rintro e w2 ⟨rfl, hb⟩; have HB := Lib.hid hb; clear hb) | (go_at_call 10; refine (out_any _ _ _ _).mono ?_; rintro e w' ⟨rfl, rfl⟩))
    go_ret3
    exact FlP.bad HB.out hv.out (by decide)
  have hv : Hid (fillF l m = 0) := Lib.hid (by rw [HF2.out, o1]; rfl)
  have hm := outB_no o1
  have ha := Lib.hid (HOK.out rfl)
  clear HF2 HOK
  obtain ⟨ao, L, cap, rfl⟩ : ∃ ao L cap, v = .slice ao L cap := by obtain ⟨ao, cap, rfl, _⟩ := HL.out; exact ⟨_, _, _, rfl⟩
  have HFR : Hid (∀ W, Below w.heap.size w W → Calls Try.prog 11 #[.pointer (some ⟨W.heap.size, 0, none⟩), .int .i64 0, .agg #[.int .i64 0, .int .i64 0, .slice none 0 0]] (W.alloc (.cells #[.slice ao L cap, .int .i64 m, .int .i64 0, .int .i64 0, .slice none 0 0] 39))
      (FromP (W.alloc (.cells #[.slice ao L cap, .int .i64 m, .int .i64 0, .int .i64 0, .slice none 0 0] 39)) W.heap.size (.slice ao L cap) m l [] 0 [])) := Lib.hid (fun W hb => by
    have hb2 := hb.alloc hb.size (.cells #[.slice ao L cap, .int .i64 m, .int .i64 0, .int .i64 0, .slice none 0 0] 39)
    exact from_any l m hm ha.out (l.length + 1) 0 _ W.heap.size _ (.slice none 0 0) [] [] (by omega) (by omega) (HL.out.below hb2 (Nat.le_refl _)) (fun hne => HL.out.offE (fun x => by rw [encA_len]; decide) hb.size hne)
      ⟨_, block_new W _, Sl.nil, .nil _⟩ Sl.nil (.nil _) (okL_nil l hm.1) (fun j hj => by simp at hj) (okL_nil l hm.1))
  go_enter Try.func5, Try.ntmps5
  go_wp2_with (first | (go_at_call 9; refine HA.out.mono ?_; rintro e w2 ⟨rfl, hb⟩; have HB := Lib.hid hb; clear hb) | (go_at_call 10; refine (out_any _ _ _ _).mono ?_; rintro e w' ⟨rfl, rfl⟩) | (go_at_call 11; refine (HFR.out _ HB.out).mono ?_; rintro e w3 ⟨B, rfl, hF, hB, hU, hC, hO⟩))
  obtain ⟨vb, hk, hs, _⟩ := hF
  obtain ⟨bo, bL, bcap, rfl⟩ : ∃ ao L cap, vb = .slice ao L cap := by obtain ⟨ao, cap, rfl, _⟩ := hs; exact ⟨_, _, _, rfl⟩
  have g2 := (cell_of_block (i := 2) hk).trans rfl
  have g4 := (cell_of_block (i := 4) hk).trans rfl
  have hlt := lt_of_blk hk
  have HS := Lib.hid hs
  have HBST := Lib.hid (hC.best hB)
  have HB3 : Hid (Below w.heap.size w w3) := Lib.hid ((HB.out.alloc HB.out.size _).trans (hO.toBelow (by have := HB.out.size; simp; omega) HB.out.size))
  clear hs hk hC hB hU hO
  go_quiet (fail)
  go_wp2
  go_ret3
  exact FlP.good (below_drewN HB3.out _) hv.out HBST.out HS.out
end Go.Proofs.Ytaajjngfmaiicaa

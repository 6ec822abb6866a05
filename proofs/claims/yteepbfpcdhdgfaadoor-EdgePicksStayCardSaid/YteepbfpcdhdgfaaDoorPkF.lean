/- first and Pick of the program. -/
import Derived.Test.YteepbfpcdhdgfaaDoorPikW
import Derived.Test.YteepbfpcdhdgfaaDoorNamF
namespace Go.Proofs.YteepbfpcdhdgfaaDoor
open Go.RowKit

/-- The first cache for a key; empty: there is none. -/
def fstL (k : ByteArray) (L : List ByteArray) : ByteArray := (pickL k L).headD ⟨#[]⟩
theorem fstL_nil (k : ByteArray) : fstL k [] = ⟨#[]⟩ := rfl
set_option maxHeartbeats 1000000 in
theorem firstE_any (w : World) (L : List ByteArray) (v : Value) (k : ByteArray) (hl : Sl w 1 encN v L) (hn : L.length ≤ 30) (hL : ∀ a, a ∈ L → a.size ≤ 40) (hk : k.size ≤ 300) (hpl : (pickL k L).length = L.length) :
    Calls Tryd.prog 18 #[v, .string k] w fun e w' => e = .returned (.string (fstL k L)) ∧ Below w.heap.size w w' := by
  have HP := Lib.hid (pick_any w L v k hl hn hL hk)
  obtain ⟨ao, cap, rfl, -, -, -, -⟩ := hl
  by_cases h0 : L.length = 0
  · have hv : Hid (⟨#[]⟩ = fstL k L) := Lib.hid (by rw [List.length_eq_zero_iff.1 h0]; rfl)
    have e0 : ((L.length : Int) == 0) = true := by simp [h0]
    clear h0
    go_enter Tryd.func18, Tryd.ntmps18
    go_wp2_with fail
    go_ret
    exact ⟨ret_str hv.out, Below.refl _ _⟩
  · have e0 : ((L.length : Int) == 0) = false := by simp [h0]
    have hne : pickL k L ≠ [] := fun h => by rw [h] at hpl; simp at hpl; omega
    have hlz : (0 : Int) < (L.length : Int) := by omega
    obtain ⟨x, hx⟩ : ∃ x, (pickL k L)[0]? = some x := ⟨(pickL k L)[0]'(by omega), by simp⟩
    have hv : Hid (x = fstL k L) := Lib.hid (by unfold fstL; cases hq : pickL k L with
      | nil => exact absurd hq hne
      | cons a r => rw [hq] at hx; simpa using hx.symm)
    clear h0
    unfold PikP at HP
    go_enter Tryd.func18, Tryd.ntmps18
    go_wp2_with fail
    refine HP.out.mono ?_
    rintro e w1 ⟨v1, rfl, ho1, hb1⟩
    obtain ⟨g, cap1, rfl, hg1, hg2, hc1, hc2, hcc, -⟩ := Own.getk encN_len ho1 hne
    have c0 : w1.cell? ⟨g, 0, none⟩ = some (.string x) := hcc 0 x 0 _ hx rfl
    have HB1 := Lib.hid hb1
    rw [hpl]
    clear hcc ho1 hb1 hx
    go_wp2_with fail
    go_ret
    exact ⟨ret_str hv.out, HB1.out⟩

/-- The fault of Pick. -/
def pkF (L : List ByteArray) (k : ByteArray) (m : Int) : Int := if naF L ≠ 0 then naF L else if reqB k = false then 3 else if outB m 0 30 = true then 1 else 0
/-- What Pick returns. -/
def pkL (L : List ByteArray) (k : ByteArray) (m : Int) : List ByteArray := if pkF L k m = 0 then (pickL k L).take m.toNat else []
theorem nameB_40 {s : ByteArray} (h : nameB s = true) : s.size ≤ 40 := by
  unfold nameB at h
  simp only [Bool.and_eq_true, decide_eq_true_eq] at h
  exact h.1.1.2
def PkP (w : World) (L : List ByteArray) (k : ByteArray) (m : Int) : Ending → World → Prop := fun e w' => ∃ v', e = .returned (.tuple #[v', .int .i64 (pkF L k m)]) ∧ Sl w' 1 encN v' (pkL L k m) ∧ Below w.heap.size w w'
set_option maxHeartbeats 1000000 in
theorem pickE_any (w : World) (L : List ByteArray) (v : Value) (k : ByteArray) (m : Int) (hl : Sl w 1 encN v L) (hw : ∀ x, x ∈ L → x.size ≤ 9223372036854775807) (hk : k.size ≤ 9223372036854775807) (hpl : (pickL k L).length = L.length) :
    Calls Tryd.prog 11 #[v, .string k, .int .i64 m] w (PkP w L k m) := by
  have HN := Lib.hid (namesFault_any w L v hl hw)
  have HPW := Lib.hid (fun (w1 : World) (hb : Below w.heap.size w w1) h1 h2 h3 => pick_any w1 L v k (hl.below hb (Nat.le_refl _)) h1 h2 h3)
  obtain ⟨ao, cap, rfl, -, -, -, -⟩ := hl
  go_enter Tryd.func11, Tryd.ntmps11
  go_wp2_with fail
  refine HN.out.mono ?_
  rintro e w1 ⟨rfl, hb1⟩
  have HB1 := Lib.hid hb1
  by_cases h0 : naF L = 0
  · obtain ⟨q1, q2, -⟩ := naF_zero h0
    have e0 : (naF L == 0) = true := by simp [h0]
    have hP0 : Hid (pkF L k m = if reqB k = false then 3 else if outB m 0 30 = true then 1 else 0) := Lib.hid (by unfold pkF; rw [if_neg (by simp [h0])])
    have hreq := Lib.hid (fun W => isReq_any k W hk)
    clear hb1
    rw [h0]
    cases e1 : reqB k
    case false =>
      have hv : Hid (3 = pkF L k m) := Lib.hid (by rw [hP0.out, if_pos e1])
      have hvl : Hid (pkL L k m = []) := Lib.hid (by unfold pkL; rw [if_neg (by rw [← hv.out]; decide)])
      go_wp2_with (go_at_call 21; refine (hreq.out _).mono ?_; rintro e w' ⟨rfl, rfl⟩; rw [e1])
      go_ret2
      exact ⟨_, by rw [← hv.out]; rfl, by rw [hvl.out]; exact Sl.nil, HB1.out⟩
    cases e2 : outB m 0 30
    case true =>
      have hv : Hid (1 = pkF L k m) := Lib.hid (by rw [hP0.out, if_neg (by simp [e1]), if_pos e2])
      have hvl : Hid (pkL L k m = []) := Lib.hid (by unfold pkL; rw [if_neg (by rw [← hv.out]; decide)])
      go_wp2_with (first | (go_at_call 21; refine (hreq.out _).mono ?_; rintro e w' ⟨rfl, rfl⟩; rw [e1]) | (go_at_call 22; refine (out_any _ _ _ _).mono ?_; rintro e w' ⟨rfl, rfl⟩; rw [e2]))
      go_ret2
      exact ⟨_, by rw [← hv.out]; rfl, by rw [hvl.out]; exact Sl.nil, HB1.out⟩
    have hv : Hid (0 = pkF L k m) := Lib.hid (by rw [hP0.out, if_neg (by simp [e1]), if_neg (by simp [e2])])
    have hvl : Hid (pkL L k m = (pickL k L).take m.toNat) := Lib.hid (by unfold pkL; rw [if_pos hv.out.symm])
    have hm0 : 0 ≤ m ∧ m ≤ 30 := by
      unfold outB at e2
      simp only [Bool.or_eq_false_iff, decide_eq_false_iff_not] at e2
      omega
    have HP := Lib.hid (HPW.out w1 HB1.out q1 (fun a ha => nameB_40 (q2 a ha)) (reqB_true e1).2.1)
    clear q2 hk
    go_wp2_with (first | (go_at_call 21; refine (hreq.out _).mono ?_; rintro e w' ⟨rfl, rfl⟩; rw [e1]) | (go_at_call 22; refine (out_any _ _ _ _).mono ?_; rintro e w' ⟨rfl, rfl⟩; rw [e2]))
    unfold PikP at HP
    refine HP.out.mono ?_
    rintro e w2 ⟨v2, rfl, ho2, hb2⟩
    have hsl := ho2.sl encN_len
    obtain ⟨a2, c2, hv2, r2⟩ := hsl
    subst hv2
    have HS := Lib.hid (show Sl w2 1 encN (.slice a2 (pickL k L).length c2) (pickL k L) from ⟨a2, c2, rfl, r2⟩)
    have HB2 := Lib.hid (HB1.out.thru hb2)
    have hc2 : L.length ≤ c2 := by have := r2.1; omega
    have hcm : c2 ≤ 9223372036854775807 := by have := r2.2.1; unfold maxLen at this; omega
    obtain ⟨n, hn⟩ : ∃ n, n = min m (L.length : Int) := ⟨_, rfl⟩
    have hn0 : 0 ≤ n := by omega
    have hnL : n ≤ (L.length : Int) := by omega
    have HNN := Lib.hid hn
    clear r2 ho2 hb2
    rw [hpl]
    go_wp2_with fail
    go_ret2
    refine ⟨_, by rw [← hv.out]; rfl, ?_, HB2.out⟩
    have h1 := HS.out.take rfl (min m (L.length : Int)).toNat (by omega)
    have h2 : (pickL k L).take m.toNat = (pickL k L).take (min m (L.length : Int)).toNat := by
      by_cases hml : m ≤ (L.length : Int)
      · rw [show (min m (L.length : Int)).toNat = m.toNat by omega]
      · rw [List.take_of_length_le (by omega), List.take_of_length_le (by omega)]
    rw [hvl.out, h2]
    exact h1
  · have hv : Hid (naF L = pkF L k m) := Lib.hid (by unfold pkF; rw [if_pos h0])
    have hvl : Hid (pkL L k m = []) := Lib.hid (by unfold pkL; rw [if_neg (by rw [← hv.out]; exact h0)])
    have e0 : (naF L == 0) = false := by simp [h0]
    clear hb1
    go_wp2_with fail
    go_ret2
    exact ⟨_, by rw [← hv.out]; rfl, by rw [hvl.out]; exact Sl.nil, HB1.out⟩
end Go.Proofs.YteepbfpcdhdgfaaDoor

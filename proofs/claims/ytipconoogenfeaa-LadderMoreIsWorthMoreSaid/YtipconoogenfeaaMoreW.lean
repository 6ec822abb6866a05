/- LadderMoreIsWorthMore: the walk of the law. -/
import Derived.Test.YtipconoogenfeaaMoreL
import Derived.Test.YtipconoogenfeaaDelR
import Derived.Test.YtipconoogenfeaaBel5
import Derived.Test.YtipconoogenfeaaAwk5
namespace Go.Proofs.Ytipconoogenfeaa
open Go.RowKit

theorem bytesR : Try.prog.bytesOf 37 = 40 := by kernel_rfl
def TrueP (w : World) : Ending → World → Prop := fun e w' => e = .returned (.bool true) ∧ Below w.heap.size w w'

set_option maxHeartbeats 1000000 in
theorem more_any (w : World) (l : List Rng) (u : Value) (c : List Vw) (v : Value) (p : Int) (hl : Sl w 4 encR u l) (hw : ∀ x, x ∈ l → WfR x) (hc : Sl w 3 encV v c) (hr : l.length * 40 ≤ 140737488355328) (hp : -9223372036854775808 ≤ p ∧ p ≤ 9223372036854775807) :
    Calls Try.prog 4 #[u, v, .int .i64 p] w (TrueP w) := by
  have H1 := Lib.hid (Worth_any w l u c v hl hw hc)
  have H2 := Lib.hid (fun (W : World) (hb : Below w.heap.size w W) => cloneR_any W l u (hl.below hb (Nat.le_refl _)) hr)
  have H3 := Lib.hid (fun (W : World) (hb : Below w.heap.size w W) (v2 : Value) (k : Nat) (ho : Sl W 4 encR v2 (l.eraseIdx k)) => Worth_any W (l.eraseIdx k) v2 c v ho (fun x hx => hw x ((List.eraseIdx_sublist l k).subset hx)) (hc.below hb (Nat.le_refl _)))
  have HL := Lib.hid (fun (k : Nat) (h : checkRV l c = 0) => worthF_erase (c := c) (l := l) k h)
  have HZ : Hid (checkRV l c ≠ 0 → worthF l c = 0) := Lib.hid (fun h => by unfold worthF; rw [if_neg h])
  have HN : Hid (l.length = 0 → worthF l c = 0) := Lib.hid (fun h => by
    unfold worthF
    obtain rfl := List.length_eq_zero_iff.1 h
    split
    · unfold wtR
      generalize c.length = n
      induction n with
      | zero => rfl
      | succ n ih => unfold wtA; rw [ih]; simp [wt1, takesR, tkA]
    · rfl)
  have hlen : l.length ≤ 140737488355328 := by omega
  obtain ⟨ao, cap, rfl, hcap, hmax, hnil, hel⟩ := hl
  unfold maxLen at hmax
  clear hel hnil hc hw
  unfold WPost at H1 H3
  obtain ⟨n, hn⟩ : ∃ n, n = worthF l c := ⟨_, rfl⟩
  obtain ⟨f, hf⟩ : ∃ f, f = checkRV l c := ⟨_, rfl⟩
  rw [← hn, ← hf] at H1 HZ HL
  rw [← hn] at HN
  clear hn hf
  go_enter Try.func4, Try.ntmps4
  go_upto_region 2 with (go_at_call 9; refine H1.out.mono ?_; rintro e w1 ⟨rfl, hb⟩; have HB := Lib.hid hb; clear hb)
  cases e1 : (f != 0)
  case true =>
    have hz : n = 0 := HZ.out (by simpa using e1)
    subst hz
    go_wp2_with (go_at_call 11; refine (awake5_any _).mono ?_; rintro e w7 ⟨rfl, hb7⟩)
    go_ret
    exact ⟨rfl, HB.out.thru hb7⟩
  case false =>
    have hf0 : f = 0 := by simpa using e1
    have HL2 := Lib.hid (fun k => HL.out k hf0)
    clear hf0
    by_cases h0 : l.length = 0
    · have hz : n = 0 := HN.out h0
      subst hz
      have h0' := congrArg (Nat.cast (R := Int)) h0
      clear h0
      go_wp2_with (go_at_call 11; refine (awake5_any _).mono ?_; rintro e w7 ⟨rfl, hb7⟩)
      go_ret
      exact ⟨rfl, HB.out.thru hb7⟩
    · have hp0 : (0 : Int) < l.length := by omega
      have h0' : ¬ (l.length : Int) = 0 := by omega
      clear h0
      go_wp2_with fail
      refine (below_any p l.length _ (by omega) (by omega) hp).mono ?_
      rintro e w2 ⟨⟨z, rfl, hz2, hz3⟩, rfl⟩
      obtain ⟨k, rfl⟩ := Int.eq_ofNat_of_zero_le hz2
      have hk : k < l.length := by omega
      clear hz2 hz3
      go_wp2_with fail
      refine (H2.out _ HB.out).mono ?_
      rintro e w3 ⟨v3, rfl, ho3, hb3⟩
      have HO3 := Lib.hid ho3
      have HB3 := Lib.hid (HB.out.thru hb3)
      clear ho3 hb3
      go_wp2_with fail
      refine (delR_any _ _ l v3 HO3.out k hk).mono ?_
      rintro e w4 ⟨v4, rfl, ho4, hb4⟩
      have HB5 := Lib.hid (HB3.out.trans (hb4.mono HB.out.size))
      have HW := Lib.hid (H3.out w4 HB5.out v4 k (ho4.sl encR_len))
      have HL3 := HL2.out k
      clear ho4 hb4
      generalize worthF (l.eraseIdx k) c = m at HW HL3
      generalize checkRV (l.eraseIdx k) c = f2 at HW HL3
      obtain ⟨rfl, hle⟩ := HL3
      go_wp2_with fail
      refine HW.out.mono ?_
      rintro e w5 ⟨rfl, hb5⟩
      have HB6 := Lib.hid (HB5.out.thru hb5)
      clear hb5
      go_wp2_with (go_at_call 11; refine (awake5_any _).mono ?_; rintro e w7 ⟨rfl, hb7⟩)
      go_ret
      exact ⟨rfl, HB6.out.thru hb7⟩
end Go.Proofs.Ytipconoogenfeaa

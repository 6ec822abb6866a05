/- The small functions under Due: timeFault, begins, ticksOf, needed. -/
import Derived.Test.YteijcombdlgioaaRcp
import Derived.Test.YteijcombdlgioaaStarts
namespace Go.Proofs.Yteijcombdlgioaa
open Go.RowKit

/-- The fault of a timeline with a time. -/
def timeF (l : List Prt) (t : Int) : Int := if checkP l ≠ 0 then checkP l else if outB t 0 1000000000000000 = true then 1 else 0

theorem timeFault_any (w : World) (l : List Prt) (v : Value) (t : Int) (hl : Sl w 3 encP v l) (hw : ∀ p, p ∈ l → WfP p) :
    Calls Try.prog 31 #[v, .int .i64 t] w fun e w' => e = .returned (.int .i64 (timeF l t)) ∧ Below w.heap.size w w' := by
  have h1 := checkParts_any w l v hl hw
  have hT : Hid (timeF l t = if checkP l ≠ 0 then checkP l else if outB t 0 1000000000000000 = true then 1 else 0) := Lib.hid rfl
  clear hl hw
  generalize checkP l = c at h1 hT
  cases hc : (c != 0)
  · have hz : c = 0 := by simpa using hc
    subst hz
    clear hc
    cases ho : outB t 0 1000000000000000
    · have hv : Hid (0 = timeF l t) := Lib.hid (by rw [hT.out, ho]; rfl)
      go_enter Try.func31, Try.ntmps31
      go_wp2_with (first | (go_at_call 20; refine h1.mono ?_; rintro e w' ⟨rfl, hb'⟩) | (go_at_call 32; refine (out_any _ _ _ _).mono ?_; rintro e w' ⟨rfl, rfl⟩))
      go_ret
      exact ⟨ret_int hv.out, hb'⟩
    · have hv : Hid (1 = timeF l t) := Lib.hid (by rw [hT.out, ho]; rfl)
      go_enter Try.func31, Try.ntmps31
      go_wp2_with (first | (go_at_call 20; refine h1.mono ?_; rintro e w' ⟨rfl, hb'⟩) | (go_at_call 32; refine (out_any _ _ _ _).mono ?_; rintro e w' ⟨rfl, rfl⟩))
      go_ret
      exact ⟨ret_int hv.out, hb'⟩
  · have hv : Hid (c = timeF l t) := Lib.hid (by rw [hT.out, if_pos (by simpa using hc)])
    go_enter Try.func31, Try.ntmps31
    go_wp2_with (first | (go_at_call 20; refine h1.mono ?_; rintro e w' ⟨rfl, hb'⟩) | (go_at_call 32; refine (out_any _ _ _ _).mono ?_; rintro e w' ⟨rfl, rfl⟩))
    go_ret
    exact ⟨ret_int hv.out, hb'⟩

theorem begins_any (w : World) (l : List Prt) (v : Value) (i : Nat) (hl : Sl w 3 encP v l) (hlen : l.length ≤ 1000) (hbd : ∀ p, p ∈ l → 1 ≤ p.ln ∧ p.ln ≤ 1000000000000000) (hi : i ≤ l.length) :
    Calls Try.prog 36 #[v, .int .i64 i] w fun e w' => e = .returned (.int .i64 (sumL (l.take i))) ∧ w = w' := by
  obtain ⟨ao, cap, rfl, hcap, hmax, hnil, hel⟩ := hl
  unfold maxLen at hmax
  go_enter Try.func36, Try.ntmps36
  go_wp2
  go_loop [5, 6] (fun s5 s6 => ∃ (kk : Nat) (s : Int), kk ≤ i ∧ s6 = .int .i64 kk ∧ s5 = .int .i64 s ∧ Aside (s = sumL (l.take kk))) (fun _ k => i - (intOf k).toNat)
  case atStart => exact ⟨0, 0, Nat.zero_le _, rfl, rfl, (show Aside _ from rfl)⟩
  case round =>
    obtain ⟨kk, s, hkk, rfl, rfl, A⟩ := hrel
    by_cases hlt : kk < i
    · have hltz : (kk : Int) < (i : Int) := by omega
      have hltl : (kk : Int) < (l.length : Int) := by omega
      obtain ⟨p, hx⟩ : ∃ x, l[kk]? = some x := ⟨l[kk]'(by omega), by simp⟩
      obtain ⟨b, off, rfl, hc⟩ := hel kk p hx
      have c2 := hc 2 _ rfl
      have hp := hbd p (List.mem_of_getElem? hx)
      have hs := sumL_bd (l := l.take kk) (fun q hq => hbd q (List.mem_of_mem_take hq))
      have hs' : ((l.take kk).length : Int) ≤ 1000 := by simp; omega
      rw [← A.out] at hs
      obtain ⟨hp0, hp1⟩ := hp
      obtain ⟨hs0, hs1⟩ := hs
      have hs2 : s ≤ 1000000000000000000 := by omega
      have hn : Hid (s + p.ln = sumL (l.take (kk + 1))) := Lib.hid (by rw [sumL_take hx, ← A.out])
      clear hx hc hel hs1 hs'
      go_wp2
      go_round
      case rel => exact ⟨kk + 1, s + p.ln, by omega, by go_num, rfl, (show Aside _ from hn.out)⟩
      case measure => simp [intOf]; omega
    · obtain rfl : kk = i := by omega
      clear hel
      go_wp2
      go_ret
      exact ⟨ret_int A.out, rfl⟩

/-- How many ticks a Kind needs, of an advertisement of n ticks. -/
def need (n k : Int) : Int := if k = 1 then 1 else if k = 2 then (n + 3) / 4 else if k = 3 then (n + 1) / 2 else if k = 4 then (3 * n + 3) / 4 else n

theorem needed_any (n k : Int) (w : World) (h1 : 1 ≤ n) (h2 : n ≤ 1000000000000000) (hk1 : 1 ≤ k) (hk2 : k ≤ 5) :
    Calls Try.prog 37 #[.int .i64 n, .int .i64 k] w fun e w' => e = .returned (.int .i64 (need n k)) ∧ w = w' := by
  have hn : Hid (need n k = if k = 1 then 1 else if k = 2 then (n + 3) / 4 else if k = 3 then (n + 1) / 2 else if k = 4 then (3 * n + 3) / 4 else n) := Lib.hid rfl
  have hk : k = 1 ∨ k = 2 ∨ k = 3 ∨ k = 4 ∨ k = 5 := by omega
  clear hk1 hk2
  rcases hk with rfl | rfl | rfl | rfl | rfl
  all_goals
    go_enter Try.func37, Try.ntmps37
    go_wp2
    go_ret
    exact ⟨ret_int (by rw [hn.out]; simp), rfl⟩

theorem ticksOf_any (n : Int) (w : World) (h1 : 1 ≤ n) (h2 : n ≤ 1000000000000000) :
    Calls Try.prog 34 #[.int .i64 n] w fun e w' => e = .returned (.agg #[.int .i64 1, .int .i64 ((n + 3) / 4), .int .i64 ((n + 1) / 2), .int .i64 ((3 * n + 3) / 4), .int .i64 n]) ∧ Below w.heap.size w w' := by
  go_enter Try.func34, Try.ntmps34
  go_wp2
  exact bodyPost_ret (v := .agg #[.int .i64 1, .int .i64 ((n + 3) / 4), .int .i64 ((n + 1) / 2), .int .i64 ((3 * n + 3) / 4), .int .i64 n]) (by simp [results, Try.results34, go_sem]) rfl ⟨rfl, (Below.refl _ _).alloc (Nat.le_refl _) _⟩
end Go.Proofs.Yteijcombdlgioaa

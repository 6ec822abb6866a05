/- CheckCue, of the program and of the reference. -/
import Derived.Test.YtaknkldbdijkeaaLib
import Derived.Deep.RegionWith
namespace Go.Proofs.Ytaknkldbdijkeaa
open Go.RowKit

structure Cue where
  ki : Int
  ev : Int
  no : Bool
  ti : Int
  le : Int
  au : Bool
abbrev agC (c : Cue) : Value := .agg #[.int .i64 c.ki, .int .i64 c.ev, .bool c.no, .int .i64 c.ti, .int .i64 c.le, .bool c.au]
abbrev boxC (c : Cue) : Obj := .cells #[.int .i64 c.ki, .int .i64 c.ev, .bool c.no, .int .i64 c.ti, .int .i64 c.le, .bool c.au] 40

/-- Has a cue not its form? -/
def formB (c : Cue) : Bool := ((c.ki == 0) && (c.ev != 0)) || (!((c.ki == 1) || (c.ki == 2)) && (c.no || (c.ti != 0))) || (!(c.ki == 1) && ((c.le != 0) || c.au)) || (c.no && (c.ti != 0))
def rangeB (c : Cue) : Bool := outB c.ev 0 4294967295 || outB c.ti 0 8589934591 || outB c.le 0 8589934591
def checkC (c : Cue) : Int := if outB c.ki 0 3 = true then 4 else if formB c = true then 3 else if rangeB c = true then 1 else if (c.au && (c.le == 0)) = true then 13 else 0
theorem checkC_zero {c : Cue} (h : checkC c = 0) : (0 ≤ c.ki ∧ c.ki ≤ 3) ∧ formB c = false ∧ ((0 ≤ c.ev ∧ c.ev ≤ 4294967295) ∧ (0 ≤ c.ti ∧ c.ti ≤ 8589934591) ∧ (0 ≤ c.le ∧ c.le ≤ 8589934591)) ∧ (c.au && (c.le == 0)) = false := by
  unfold checkC at h
  split at h
  · simp at h
  rename_i h1
  split at h
  · simp at h
  rename_i h2
  split at h
  · simp at h
  rename_i h3
  split at h
  · simp at h
  rename_i h4
  unfold rangeB at h3
  simp only [Bool.or_eq_true, not_or] at h3
  exact ⟨outB_no' h1, by simpa using h2, ⟨outB_no' h3.1.1, outB_no' h3.1.2, outB_no' h3.2⟩, by simpa using h4⟩

set_option maxRecDepth 100000 in
set_option maxHeartbeats 4000000 in
theorem checkCue_any (c : Cue) (w : World) : Calls Try.prog 24 #[agC c] w fun e w' => e = .returned (.int .i64 (checkC c)) ∧ Below w.heap.size w w' := by
  have HB := Lib.hid ((Below.refl w.heap.size w).alloc (Nat.le_refl _) (boxC c))
  have HF : Hid (checkC c = if outB c.ki 0 3 = true then 4 else if formB c = true then 3 else if rangeB c = true then 1 else if (c.au && (c.le == 0)) = true then 13 else 0) := Lib.hid rfl
  have HFB : Hid (formB c = (((c.ki == 0) && (c.ev != 0)) || (!((c.ki == 1) || (c.ki == 2)) && (c.no || (c.ti != 0))) || (!(c.ki == 1) && ((c.le != 0) || c.au)) || (c.no && (c.ti != 0)))) := Lib.hid rfl
  have HRB : Hid (rangeB c = (outB c.ev 0 4294967295 || outB c.ti 0 8589934591 || outB c.le 0 8589934591)) := Lib.hid rfl
  generalize checkC c = F at HF ⊢
  generalize formB c = FB at HF HFB
  generalize rangeB c = RB at HF HRB
  obtain ⟨ki, ev, no, ti, le, au⟩ := c
  simp only at HF HFB HRB HB ⊢
  cases o1 : outB ki 0 3
  case true =>
    have hv : Hid (4 = F) := Lib.hid (by rw [HF.out, o1]; rfl)
    go_enter Try.func24, Try.ntmps24
    go_wp2_with (go_at_call 18; refine (out_any _ _ _ _).mono ?_; rintro e w' ⟨rfl, rfl⟩)
    go_ret
    exact ⟨ret_int hv.out, HB.out⟩
  case false =>
    have hk := outB_no o1
    have HF2 : Hid (F = if FB = true then 3 else if RB = true then 1 else if (au && (le == 0)) = true then 13 else 0) := Lib.hid (by rw [HF.out, o1]; rfl)
    clear HF
    go_enter Try.func24, Try.ntmps24
    go_upto_region 3 with (go_at_call 18; refine (out_any _ _ _ _).mono ?_; rintro e w' ⟨rfl, rfl⟩)
    clear o1
    obtain ⟨w1, hw1⟩ : ∃ w1, w1 = w.alloc (.cells #[.int .i64 ki, .int .i64 ev, .bool no, .int .i64 ti, .int .i64 le, .bool au] 40) := ⟨_, rfl⟩
    go_cut [3] (fun s3 w4 => s3 = .bool ((ki == 1) || (ki == 2)) ∧ w4 = w.alloc (.cells #[.int .i64 ki, .int .i64 ev, .bool no, .int .i64 ti, .int .i64 le, .bool au] 40))
    case first =>
      cases h1 : (ki == 1)
      · go_wp2
        go_meet
        exact ⟨by rw [h1]; rfl, rfl⟩
      · go_wp2
        go_meet
        exact ⟨by rw [h1]; rfl, rfl⟩
    obtain ⟨rfl, rfl⟩ := hcut
    go_upto_region 4 with (fail)
    go_cut [15] (fun s15 w4 => s15 = .bool FB ∧ w4 = w.alloc (.cells #[.int .i64 ki, .int .i64 ev, .bool no, .int .i64 ti, .int .i64 le, .bool au] 40))
    case first =>
      have hki : ki = 0 ∨ ki = 1 ∨ ki = 2 ∨ ki = 3 := by omega
      clear hk hw1
      rcases hki with rfl | rfl | rfl | rfl
      · cases h1 : (ev != 0)
        · cases no
          · cases h2 : (ti != 0)
            · cases h3 : (le != 0)
              · cases au
                · go_wp2
                  go_meet
                  exact ⟨by rw [HFB.out, h1, h2, h3]; rfl, rfl⟩
                · go_wp2
                  go_meet
                  exact ⟨by rw [HFB.out, h1, h2, h3]; rfl, rfl⟩
              · go_wp2
                go_meet
                exact ⟨by rw [HFB.out, h1, h2, h3]; rfl, rfl⟩
            · go_wp2
              go_meet
              exact ⟨by rw [HFB.out, h1, h2]; rfl, rfl⟩
          · go_wp2
            go_meet
            exact ⟨by rw [HFB.out, h1]; rfl, rfl⟩
        · go_wp2
          go_meet
          exact ⟨by rw [HFB.out, h1]; rfl, rfl⟩
      · cases no
        · go_wp2
          go_meet
          exact ⟨by rw [HFB.out]; rfl, rfl⟩
        · cases h2 : (ti != 0)
          · go_wp2
            go_meet
            exact ⟨by rw [HFB.out, h2]; rfl, rfl⟩
          · go_wp2
            go_meet
            exact ⟨by rw [HFB.out, h2]; rfl, rfl⟩
      · cases h3 : (le != 0)
        · cases au
          · cases no
            · go_wp2
              go_meet
              exact ⟨by rw [HFB.out, h3]; rfl, rfl⟩
            · cases h2 : (ti != 0)
              · go_wp2
                go_meet
                exact ⟨by rw [HFB.out, h3, h2]; rfl, rfl⟩
              · go_wp2
                go_meet
                exact ⟨by rw [HFB.out, h3, h2]; rfl, rfl⟩
          · go_wp2
            go_meet
            exact ⟨by rw [HFB.out, h3]; rfl, rfl⟩
        · go_wp2
          go_meet
          exact ⟨by rw [HFB.out, h3]; rfl, rfl⟩
      · cases no
        · cases h2 : (ti != 0)
          · cases h3 : (le != 0)
            · cases au
              · go_wp2
                go_meet
                exact ⟨by rw [HFB.out, h2, h3]; rfl, rfl⟩
              · go_wp2
                go_meet
                exact ⟨by rw [HFB.out, h2, h3]; rfl, rfl⟩
            · go_wp2
              go_meet
              exact ⟨by rw [HFB.out, h2, h3]; rfl, rfl⟩
          · go_wp2
            go_meet
            exact ⟨by rw [HFB.out, h2]; rfl, rfl⟩
        · go_wp2
          go_meet
          exact ⟨by rw [HFB.out]; rfl, rfl⟩
    obtain ⟨rfl, rfl⟩ := hcut
    clear hw1
    cases FB
    case true =>
      have hv : Hid (3 = F) := Lib.hid (by rw [HF2.out]; rfl)
      go_wp2
      go_ret
      exact ⟨ret_int hv.out, HB.out⟩
    case false =>
      go_upto_region 6 with (fail)
      go_cut [60] (fun s60 w4 => s60 = .bool RB ∧ w4 = w.alloc (.cells #[.int .i64 ki, .int .i64 ev, .bool no, .int .i64 ti, .int .i64 le, .bool au] 40))
      case first =>
        cases o1 : outB ev 0 4294967295 <;> cases o2 : outB ti 0 8589934591
        all_goals
          go_wp2_with (go_at_call 18; refine (out_any _ _ _ _).mono ?_; rintro e w' ⟨rfl, rfl⟩)
          go_meet
          exact ⟨by rw [HRB.out, o1, o2]; simp, rfl⟩
      obtain ⟨rfl, rfl⟩ := hcut
      cases RB
      case true =>
        have hv : Hid (1 = F) := Lib.hid (by rw [HF2.out]; rfl)
        go_wp2
        go_ret
        exact ⟨ret_int hv.out, HB.out⟩
      case false =>
        cases au
        case false =>
          have hv : Hid (0 = F) := Lib.hid (by rw [HF2.out]; rfl)
          go_wp2
          go_ret
          exact ⟨ret_int hv.out, HB.out⟩
        case true =>
          cases h3 : (le == 0)
          · have hv : Hid (0 = F) := Lib.hid (by rw [HF2.out, h3]; rfl)
            go_wp2
            go_ret
            exact ⟨ret_int hv.out, HB.out⟩
          · have hv : Hid (13 = F) := Lib.hid (by rw [HF2.out, h3]; rfl)
            go_wp2
            go_ret
            exact ⟨ret_int hv.out, HB.out⟩
end Go.Proofs.Ytaknkldbdijkeaa

/- kit.First. -/
import Derived.Test.YteepbfpcdhdgfaaDoorLib
namespace Go.Proofs.YteepbfpcdhdgfaaDoor
open Go.RowKit

def firstF : List Int → Int
  | [] => 0
  | a :: r => if a ≠ 0 then a else firstF r
theorem firstF_at {l : List Int} : ∀ {k : Nat} {a : Int}, l[k]? = some a → a ≠ 0 → (∀ j x, l[j]? = some x → j < k → x = 0) → firstF l = a := by
  induction l with
  | nil => intro k a h; simp at h
  | cons b r ih =>
    intro k a h ha hz
    cases k with
    | zero => simp at h; subst h; rw [firstF, if_pos ha]
    | succ k =>
      have h0 := hz 0 b rfl (by omega)
      rw [firstF, if_neg (by simp [h0])]
      exact ih (by simpa using h) ha fun j x hx hj => hz (j + 1) x (by simpa using hx) (by omega)
theorem firstF_none {l : List Int} (hz : ∀ (j : Nat) x, l[j]? = some x → x = 0) : firstF l = 0 := by
  induction l with
  | nil => rfl
  | cons b r ih =>
    have h0 := hz 0 b rfl
    rw [firstF, if_neg (by simp [h0])]
    exact ih fun j x hx => hz (j + 1) x (by simpa using hx)

set_option maxHeartbeats 1000000 in
theorem first_any (w : World) (l : List Int) (v : Value) (hl : Sl w 1 encI v l) :
    Calls Tryd.prog 15 #[v] w fun e w' => e = .returned (.int .i64 (firstF l)) ∧ w = w' := by
  obtain ⟨ao, cap, rfl, hcap, hmax, hnil, hel⟩ := hl
  unfold maxLen at hmax
  go_enter Tryd.func15, Tryd.ntmps15
  go_wp2
  go_loop [4, 7] (fun _ s7 => ∃ kk : Nat, kk ≤ l.length ∧ s7 = .int .i64 kk ∧ Aside (∀ j x, l[j]? = some x → j < kk → x = 0)) (fun _ i => l.length - (intOf i).toNat)
  case atStart => exact ⟨0, Nat.zero_le _, rfl, fun j x _ hj => absurd hj (Nat.not_lt_zero _)⟩
  case round =>
    obtain ⟨kk, hkk, rfl, A⟩ := hrel
    by_cases hlt : kk < l.length
    · have hltz : (kk : Int) < (l.length : Int) := by omega
      obtain ⟨x, hx⟩ : ∃ x, l[kk]? = some x := ⟨l[kk], by simp [hlt]⟩
      obtain ⟨b, off, rfl, hc⟩ := hel kk x hx
      have c0 : w.cell? ⟨b, off + kk, none⟩ = some (.int .i64 x) := by simpa using hc 0 _ rfl
      have HX := Lib.hid hx
      clear hx hc hel
      cases e1 : (x != 0)
      case true =>
        have hv : Hid (x = firstF l) := Lib.hid (firstF_at HX.out (by simpa using e1) A.out).symm
        go_wp2
        go_ret
        exact ⟨ret_int hv.out, rfl⟩
      case false =>
        have hz : Hid (x = 0) := Lib.hid (by simpa using e1)
        go_wp2
        go_round
        case rel =>
          refine ⟨kk + 1, by omega, by go_num, (show Aside (∀ j x, l[j]? = some x → j < kk + 1 → x = 0) from fun j y hy hj => ?_)⟩
          by_cases e : j = kk
          · subst e
            have := HX.out.symm.trans hy
            simp only [Option.some.injEq] at this
            rw [← this]; exact hz.out
          · exact A.out j y hy (by omega)
        case measure => simp [intOf]; omega
    · obtain rfl : kk = l.length := by omega
      have hv : Hid (0 = firstF l) := Lib.hid (firstF_none fun j x hx => A.out j x hx (List.getElem?_eq_some_iff.1 hx).1).symm
      clear hel
      go_wp2
      go_ret
      exact ⟨ret_int hv.out, rfl⟩
end Go.Proofs.YteepbfpcdhdgfaaDoor

/- digit, plain and decoded of the reference: the walks. -/
import Derived.Test.YtmgbmoiefgfemaaDoorDecG
namespace Go.Proofs.YtmgbmoiefgfemaaDoor
open Go.RowKit

theorem idxH_any (n : Nat) (w : World) : Calls Tryd.prog 102 #[.string { data := #[48, 49, 50, 51, 52, 53, 54, 55, 56, 57, 65, 66, 67, 68, 69, 70] }, .int .u8 (n : Nat)] w fun e w' => e = .returned (.int .i64 (Lib.indexByte [48, 49, 50, 51, 52, 53, 54, 55, 56, 57, 65, 66, 67, 68, 69, 70] (UInt8.ofNat n))) ∧ w = w' := by
  refine (Any.strings_IndexByte Tryd.lays137 { data := #[48, 49, 50, 51, 52, 53, 54, 55, 56, 57, 65, 66, 67, 68, 69, 70] } (n : Int) w).mono ?_
  rintro e w' ⟨rfl, rfl⟩
  exact ⟨rfl, rfl⟩
theorem hex_idx : ∀ n, n < 256 → hexI (UInt8.ofNat n) = Lib.indexByte [48, 49, 50, 51, 52, 53, 54, 55, 56, 57, 65, 66, 67, 68, 69, 70] (UInt8.ofNat (if 97 ≤ n ∧ n ≤ 102 then n - 32 else n)) := by decide +kernel
set_option maxRecDepth 100000 in
set_option maxHeartbeats 1000000 in
theorem digitR_any (c : UInt8) (w : World) : Calls Tryd.prog 93 #[.int .u8 (c.toNat : Nat)] w fun e w' => e = .returned (.int .i64 (hexI c)) ∧ w = w' := by
  have hlt : c.toNat < 256 := c.toNat_lt
  have hx := hex_idx c.toNat hlt
  rw [UInt8.ofNat_toNat] at hx
  generalize hexI c = R at hx ⊢
  generalize c.toNat = n at hlt hx ⊢
  have hnz : (n : Int) < 256 := by omega
  by_cases h : 97 ≤ n ∧ n ≤ 102
  · rw [if_pos h] at hx
    have HX := Lib.hid (idxH_any (n - 32) w)
    rw [← hx] at HX
    have e1 : (n : Int) - 32 = ((n - 32 : Nat) : Int) := by omega
    obtain ⟨k, hk⟩ : ∃ k, k = n - 32 := ⟨_, rfl⟩
    rw [← hk] at HX e1
    have h1 : (97 : Int) ≤ n := by omega
    have h2 : (n : Int) ≤ 102 := by omega
    clear h hx hk
    go_enter Tryd.func93, Tryd.ntmps93
    go_wp2_with (go_at_call 102; refine HX.out.mono ?_; rintro e w' ⟨rfl, rfl⟩)
    go_ret
    exact ⟨rfl, rfl⟩
  · rw [if_neg h] at hx
    have HX := Lib.hid (idxH_any n w)
    rw [← hx] at HX
    by_cases h1 : 97 ≤ n
    · have h1z : (97 : Int) ≤ n := by omega
      have h2 : ¬ (n : Int) ≤ 102 := by omega
      clear h hx h1
      go_enter Tryd.func93, Tryd.ntmps93
      go_wp2_with (go_at_call 102; refine HX.out.mono ?_; rintro e w' ⟨rfl, rfl⟩)
      go_ret
      exact ⟨rfl, rfl⟩
    · have h1z : ¬ (97 : Int) ≤ n := by omega
      clear h hx h1
      go_enter Tryd.func93, Tryd.ntmps93
      go_wp2_with (go_at_call 102; refine HX.out.mono ?_; rintro e w' ⟨rfl, rfl⟩)
      go_ret
      exact ⟨rfl, rfl⟩
set_option maxHeartbeats 2000000 in
theorem plainR_any (c : UInt8) (w : World) : Calls Tryd.prog 94 #[.int .u8 (c.toNat : Nat)] w fun e w' => e = .returned (.bool (comU c)) ∧ w = w' := by
  have hlt := c.toNat_lt
  have HX := Lib.hid (idx_any c w)
  have HV : Hid (comU c = ((decide (65 ≤ c.toNat) && decide (c.toNat ≤ 90)) || (decide (97 ≤ c.toNat) && decide (c.toNat ≤ 122)) || (decide (48 ≤ c.toNat) && decide (c.toNat ≤ 57)) || decide (0 ≤ Lib.indexByte [45, 46, 95, 126] c))) := Lib.hid rfl
  generalize comU c = R at HV ⊢
  generalize Lib.indexByte [45, 46, 95, 126] c = x at HV HX
  generalize c.toNat = n at hlt HV HX ⊢
  have hnz : (n : Int) < 256 := by omega
  obtain ⟨X, hX⟩ : ∃ X, X = decide (0 ≤ x) := ⟨_, rfl⟩
  have hXi : decide ((0 : Int) ≤ x) = X := hX.symm
  rw [← hX] at HV
  clear hX
  by_cases a : 65 ≤ n <;> by_cases b : n ≤ 90 <;> by_cases c' : 97 ≤ n <;> by_cases d : n ≤ 122 <;> by_cases f : 48 ≤ n <;> by_cases g : n ≤ 57
  all_goals
    first
    | omega
    | (first | (have az : (65 : Int) ≤ (n : Int) := by omega) | (have az : ¬ (65 : Int) ≤ (n : Int) := by omega)
       first | (have bz : (n : Int) ≤ 90 := by omega) | (have bz : ¬ (n : Int) ≤ 90 := by omega)
       first | (have cz : (97 : Int) ≤ (n : Int) := by omega) | (have cz : ¬ (97 : Int) ≤ (n : Int) := by omega)
       first | (have dz : (n : Int) ≤ 122 := by omega) | (have dz : ¬ (n : Int) ≤ 122 := by omega)
       first | (have fz : (48 : Int) ≤ (n : Int) := by omega) | (have fz : ¬ (48 : Int) ≤ (n : Int) := by omega)
       first | (have gz : (n : Int) ≤ 57 := by omega) | (have gz : ¬ (n : Int) ≤ 57 := by omega)
       have HV2 := HV.out
       simp only [a, b, c', d, f, g, decide_true, decide_false, Bool.true_and, Bool.false_and, Bool.and_false, Bool.or_false, Bool.false_or, Bool.true_or, Bool.or_true] at HV2
       have HW := Lib.hid HV2
       clear HV2 HV a b c' d f g
       cases X
       all_goals
         go_enter Tryd.func94, Tryd.ntmps94
         go_wp2_with (go_at_call 102; refine HX.out.mono ?_; rintro e w' ⟨rfl, rfl⟩)
         go_ret
         exact ⟨ret_bool (by rw [HW.out]; try rfl), rfl⟩)
end Go.Proofs.YtmgbmoiefgfemaaDoor

/- hex, common and decoded of the program: the walks. -/
import Derived.Test.YtmgbmoiefgfemaaDoorDecL
import Derived.Test.YtmgbmoiefgfemaaDoorLibD
import Derived.Test.YtmgbmoiefgfemaaDoorDec0
import Derived.Test.YtmgbmoiefgfemaaDoorUtU
namespace Go.Proofs.YtmgbmoiefgfemaaDoor
open Go.RowKit

theorem hexI_of {c : UInt8} {n : Nat} (h : hexV c = some n) : hexI c = (n : Int) := hexI_some h
set_option maxRecDepth 100000 in
set_option maxHeartbeats 1000000 in
theorem hex_any (c : UInt8) (w : World) : Calls Tryd.prog 86 #[.int .u8 (c.toNat : Nat)] w fun e w' => e = .returned (.int .i64 (hexI c)) ∧ w = w' := by
  have hlt := c.toNat_lt
  have HD := Lib.hid (digit_any (c.toNat : Int) w)
  have HV : Hid (hexI c = match (if 48 ≤ c.toNat ∧ c.toNat ≤ 57 then some (c.toNat - 48) else if 65 ≤ c.toNat ∧ c.toNat ≤ 70 then some (c.toNat - 55) else if 97 ≤ c.toNat ∧ c.toNat ≤ 102 then some (c.toNat - 87) else none) with | some n => (n : Int) | none => -1) := Lib.hid rfl
  generalize hexI c = R at HV ⊢
  generalize c.toNat = n at hlt HD HV ⊢
  have hnz : (n : Int) < 256 := by omega
  by_cases h1 : 48 ≤ n ∧ n ≤ 57
  · have hd : digitI (n : Int) = true := by simp [digitI]; omega
    have hv : Hid ((n : Int) - 48 = R) := Lib.hid (by rw [HV.out, if_pos h1]; show _ = ((n - 48 : Nat) : Int); omega)
    have h1a : (48 : Int) ≤ n := by omega
    rw [hd] at HD
    clear hd h1
    go_enter Tryd.func86, Tryd.ntmps86
    go_wp2_with (go_at_call 85; refine HD.out.mono ?_; rintro e w' ⟨rfl, rfl⟩)
    go_ret
    exact ⟨ret_int hv.out, rfl⟩
  have hd : digitI (n : Int) = false := by simp [digitI]; omega
  rw [hd] at HD
  by_cases h2 : 65 ≤ n ∧ n ≤ 70
  · have hv : Hid ((n : Int) - 65 + 10 = R) := Lib.hid (by rw [HV.out, if_neg h1, if_pos h2]; show _ = ((n - 55 : Nat) : Int); omega)
    have h2a : (65 : Int) ≤ n := by omega
    have h2b : (n : Int) ≤ 70 := by omega
    clear hd h1 h2
    go_enter Tryd.func86, Tryd.ntmps86
    go_wp2_with (go_at_call 85; refine HD.out.mono ?_; rintro e w' ⟨rfl, rfl⟩)
    go_ret
    exact ⟨ret_int hv.out, rfl⟩
  by_cases h3 : 97 ≤ n ∧ n ≤ 102
  · have hv : Hid ((n : Int) - 97 + 10 = R) := Lib.hid (by rw [HV.out, if_neg h1, if_neg h2, if_pos h3]; show _ = ((n - 87 : Nat) : Int); omega)
    have h3a : (97 : Int) ≤ n := by omega
    have h3b : (n : Int) ≤ 102 := by omega
    have h2a : (65 : Int) ≤ n := by omega
    have h2b : ¬ (n : Int) ≤ 70 := by omega
    clear hd h1 h2 h3
    go_enter Tryd.func86, Tryd.ntmps86
    go_wp2_with (go_at_call 85; refine HD.out.mono ?_; rintro e w' ⟨rfl, rfl⟩)
    go_ret
    exact ⟨ret_int hv.out, rfl⟩
  have hv : Hid (-1 = R) := Lib.hid (by rw [HV.out, if_neg h1, if_neg h2, if_neg h3])
  by_cases h4 : 65 ≤ n
  · have h4a : (65 : Int) ≤ n := by omega
    have h4b : ¬ (n : Int) ≤ 70 := by omega
    by_cases h5 : 97 ≤ n
    · have h5a : (97 : Int) ≤ n := by omega
      have h5b : ¬ (n : Int) ≤ 102 := by omega
      clear hd h1 h2 h3 h4 h5
      go_enter Tryd.func86, Tryd.ntmps86
      go_wp2_with (go_at_call 85; refine HD.out.mono ?_; rintro e w' ⟨rfl, rfl⟩)
      go_ret
      exact ⟨ret_int hv.out, rfl⟩
    · have h5a : ¬ (97 : Int) ≤ n := by omega
      clear hd h1 h2 h3 h4 h5
      go_enter Tryd.func86, Tryd.ntmps86
      go_wp2_with (go_at_call 85; refine HD.out.mono ?_; rintro e w' ⟨rfl, rfl⟩)
      go_ret
      exact ⟨ret_int hv.out, rfl⟩
  · have h4a : ¬ (65 : Int) ≤ n := by omega
    have h5a : ¬ (97 : Int) ≤ n := by omega
    clear hd h1 h2 h3 h4
    go_enter Tryd.func86, Tryd.ntmps86
    go_wp2_with (go_at_call 85; refine HD.out.mono ?_; rintro e w' ⟨rfl, rfl⟩)
    go_ret
    exact ⟨ret_int hv.out, rfl⟩
theorem idx_any (c : UInt8) (w : World) : Calls Tryd.prog 102 #[.string { data := #[45, 46, 95, 126] }, .int .u8 (c.toNat : Nat)] w fun e w' => e = .returned (.int .i64 (Lib.indexByte [45, 46, 95, 126] c)) ∧ w = w' := by
  refine (Any.strings_IndexByte Tryd.lays137 { data := #[45, 46, 95, 126] } (c.toNat : Int) w).mono ?_
  rintro e w' ⟨rfl, rfl⟩
  refine ⟨?_, rfl⟩
  rw [show ((c.toNat : Int).toNat.toUInt8) = c by rw [Int.toNat_natCast]; simp]
set_option maxHeartbeats 1000000 in
theorem common_any (c : UInt8) (w : World) : Calls Tryd.prog 87 #[.int .u8 (c.toNat : Nat)] w fun e w' => e = .returned (.bool (comU c)) ∧ w = w' := by
  have hlt := c.toNat_lt
  have HD := Lib.hid (digit_any (c.toNat : Int) w)
  have HX := Lib.hid (idx_any c w)
  have HV : Hid (comU c = ((decide (65 ≤ c.toNat) && decide (c.toNat ≤ 90)) || (decide (97 ≤ c.toNat) && decide (c.toNat ≤ 122)) || (decide (48 ≤ c.toNat) && decide (c.toNat ≤ 57)) || decide (0 ≤ Lib.indexByte [45, 46, 95, 126] c))) := Lib.hid rfl
  generalize comU c = R at HV ⊢
  generalize Lib.indexByte [45, 46, 95, 126] c = x at HV HX
  generalize c.toNat = n at hlt HD HV HX ⊢
  have hnz : (n : Int) < 256 := by omega
  have hd : digitI (n : Int) = (decide (48 ≤ n) && decide (n ≤ 57)) := by
    unfold digitI
    rw [show decide ((48 : Int) ≤ (n : Int)) = decide (48 ≤ n) by rw [decide_eq_decide]; omega, show decide ((n : Int) ≤ 57) = decide (n ≤ 57) by rw [decide_eq_decide]; omega]
  rw [hd] at HD
  clear hd
  obtain ⟨D, hD⟩ : ∃ D, D = (decide (48 ≤ n) && decide (n ≤ 57)) := ⟨_, rfl⟩
  obtain ⟨X, hX⟩ : ∃ X, X = decide (0 ≤ x) := ⟨_, rfl⟩
  have hXi : decide ((0 : Int) ≤ x) = X := hX.symm
  rw [← hD] at HD
  rw [← hD, ← hX] at HV
  clear hD hX
  by_cases a : 65 ≤ n <;> by_cases b : n ≤ 90 <;> by_cases c' : 97 ≤ n <;> by_cases d : n ≤ 122
  all_goals
    first
    | omega
    | (have a' : decide (65 ≤ n) = decide ((65 : Int) ≤ (n : Int)) := by rw [decide_eq_decide]; omega
       have b' : decide (n ≤ 90) = decide ((n : Int) ≤ 90) := by rw [decide_eq_decide]; omega
       have c2 : decide (97 ≤ n) = decide ((97 : Int) ≤ (n : Int)) := by rw [decide_eq_decide]; omega
       have d' : decide (n ≤ 122) = decide ((n : Int) ≤ 122) := by rw [decide_eq_decide]; omega
       first | (have az : (65 : Int) ≤ (n : Int) := by omega) | (have az : ¬ (65 : Int) ≤ (n : Int) := by omega)
       first | (have bz : (n : Int) ≤ 90 := by omega) | (have bz : ¬ (n : Int) ≤ 90 := by omega)
       first | (have cz : (97 : Int) ≤ (n : Int) := by omega) | (have cz : ¬ (97 : Int) ≤ (n : Int) := by omega)
       first | (have dz : (n : Int) ≤ 122 := by omega) | (have dz : ¬ (n : Int) ≤ 122 := by omega)
       have HV2 := HV.out
       simp only [a, b, c', d, decide_true, decide_false, Bool.true_and, Bool.false_and, Bool.and_false, Bool.or_false, Bool.false_or, Bool.true_or, Bool.or_true] at HV2
       have HW := Lib.hid HV2
       clear HV2 HV a b c' d a' b' c2 d'
       cases D <;> cases X
       all_goals
         go_enter Tryd.func87, Tryd.ntmps87
         go_wp2_with (first | (go_at_call 85; refine HD.out.mono ?_; rintro e w' ⟨rfl, rfl⟩) | (go_at_call 102; refine HX.out.mono ?_; rintro e w' ⟨rfl, rfl⟩))
         go_ret
         exact ⟨ret_bool (by rw [HW.out]; try rfl), rfl⟩)
end Go.Proofs.YtmgbmoiefgfemaaDoor

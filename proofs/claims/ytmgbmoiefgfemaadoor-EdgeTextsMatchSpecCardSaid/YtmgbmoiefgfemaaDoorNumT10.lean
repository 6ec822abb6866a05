/- number of the program and of the reference. -/
import Derived.Test.YtmgbmoiefgfemaaDoorTxtE
namespace Go.Proofs.YtmgbmoiefgfemaaDoor
open Go.RowKit

theorem numV_next (s : ByteArray) (n : Nat) : numV s (n + 1) = 10 * numV s n + (chr s n - 48) := rfl
theorem num_no {s : ByteArray} (h : numOk s = false) : Ending.returned (.tuple #[.int .i64 0, .bool false]) = .returned (.tuple #[.int .i64 (numR s), .bool (numOk s)]) := by
  simp [numR, h]
theorem num_yes {s : ByteArray} (h : numOk s = true) : Ending.returned (.tuple #[.int .i64 (numV s s.size), .bool true]) = .returned (.tuple #[.int .i64 (numR s), .bool (numOk s)]) := by
  simp [numR, h]

set_option maxHeartbeats 4000000 in
set_option maxRecDepth 100000 in
theorem number_any (s : ByteArray) (w : World) (hs : s.size ≤ 9223372036854775807) :
    Calls Tryd.prog 71 #[.string s] w fun e w' => e = .returned (.tuple #[.int .i64 (numR s), .bool (numOk s)]) ∧ w = w' := by
  by_cases h0 : s.size = 0
  · have hv := Lib.hid (num_no (s := s) (by simp [numOk, h0]))
    have e0 : ((s.size : Int) == 0) = true := by simp [h0]
    have e1 : s.toList = [] := by
      rw [ByteArray.toList_eq]
      exact List.length_eq_zero_iff.1 (by simpa using h0)
    have e2 : s.toList.isEmpty = true := by simp [e1]
    clear h0
    go_enter Tryd.func71, Tryd.ntmps71
    go_wp2_with fail
    go_ret2
    exact ⟨hv.out, rfl⟩
  have e0 : ((s.size : Int) == 0) = false := by simp [h0]
  have e1 : ¬ s.toList = [] := by
    rw [ByteArray.toList_eq]
    exact fun e => h0 ((Lib.size_eq s).trans (by rw [e]; rfl))
  have e2 : s.toList.isEmpty = false := by simp [e1]
  have hp : 0 < s.size := by omega
  by_cases h15 : 15 < s.size
  · have hv := Lib.hid (num_no (s := s) (by simp [numOk]; omega))
    clear h0
    go_enter Tryd.func71, Tryd.ntmps71
    go_wp2_with fail
    go_ret2
    exact ⟨hv.out, rfl⟩
  have hc0 := chr_of hp
  have hz := Lib.hid (show numOk s = false → _ from fun h => num_no h)
  have HY := Lib.hid (numOk_yes (s := s) hp (by omega))
  have HN := Lib.hid (fun i h => @numOk_no s i h)
  have HV := Lib.hid (fun n hn h => @numV_small s n hn h)
  have HE := Lib.hid (fun h => @num_yes s h)
  have hdec : ((chr s 0 == 48) = true ∧ 1 < s.size) ∨ ((decide (1 < s.size) && (chr s 0 == 48)) = false) := by
    by_cases h1 : 1 < s.size
    · cases hq : (chr s 0 == 48)
      · right; simp
      · left; exact ⟨rfl, h1⟩
    · right; simp [h1]
  rcases hdec with ⟨hq, h1⟩ | hq
  · have hv := Lib.hid (hz.out (by simp [numOk, h1, hq]))
    have h1z : (1 : Int) < (s.size : Int) := by omega
    clear h0
    go_enter Tryd.func71, Tryd.ntmps71
    go_wp2_with fail
    go_ret2
    exact ⟨hv.out, rfl⟩
  have HY2 := Lib.hid (HY.out hq)
  clear HY hz
  go_enter Tryd.func71, Tryd.ntmps71
  go_upto_region 1 with (fail)
  go_cut [23] (fun s23 w2 => s23 = .bool false ∧ w = w2)
  case first =>
    by_cases h1 : 1 < s.size
    · have hq1 : (chr s 0 == 48) = false := by simpa [h1] using hq
      have h1z : (1 : Int) < (s.size : Int) := by omega
      have hq2 : ¬ chr s 0 = 48 := by simpa using hq1
      clear hq h0
      go_wp2_with fail
      go_meet
      exact ⟨by simp; omega, rfl⟩
    · have h1z : ¬ (1 : Int) < (s.size : Int) := by omega
      clear hq h0
      cases hq1 : (chr s 0 == 48)
      all_goals
        go_wp2_with fail
        go_meet
        exact ⟨by simp; omega, rfl⟩
  obtain ⟨rfl, rfl⟩ := hcut
  clear hq hc0 h0 e0 e1 e2
  go_wp2_with fail
  go_loop [4, 26] (fun s4 s26 => ∃ kk : Nat, kk ≤ s.size ∧ s4 = .int .i64 (numV s kk) ∧ s26 = .int .i64 kk ∧ Aside (∀ j, j < kk → digitI (chr s j) = true)) (fun _ i => s.size - (intOf i).toNat)
  case atStart => exact ⟨0, Nat.zero_le _, rfl, rfl, fun j hj => absurd hj (Nat.not_lt_zero _)⟩
  case round =>
    obtain ⟨kk, hkk, rfl, rfl, A⟩ := hrel
    by_cases hlt : kk < s.size
    · have hltz : (kk : Int) < (s.size : Int) := by omega
      have hc := chr_of hlt
      obtain ⟨d, hd⟩ : ∃ d, d = digitI (chr s kk) := ⟨_, rfl⟩
      cases d
      case false =>
        have hv := Lib.hid (num_no (HN.out kk hlt hd.symm))
        have HD := Lib.hid hd
        clear hd
        have HDG := Lib.hid (digit_any (chr s kk) w)
        rw [← HD.out] at HDG
        go_wp2_with fail
        refine HDG.out.mono ?_
        rintro e w1 ⟨rfl, rfl⟩
        go_wp2_with fail
        go_ret2
        exact ⟨hv.out, rfl⟩
      case true =>
        have hA : ∀ j, j < kk + 1 → digitI (chr s j) = true := fun j hj => by
          by_cases e : j = kk
          · rw [e]; exact hd.symm
          · exact A.out j (by omega)
        have hv1 := HV.out kk (by omega) A.out
        have hv2 := HV.out (kk + 1) (by omega) hA
        have hs2 := numV_next s kk
        have HA := Lib.hid hA
        have h48 : 48 ≤ chr s kk ∧ chr s kk ≤ 57 := by
          have := hd.symm
          simpa [digitI] using this
        have HD := Lib.hid hd
        obtain ⟨V, hV⟩ : ∃ V, V = numV s kk := ⟨_, rfl⟩
        rw [← hV] at hv1 hs2 ⊢
        rw [hs2] at hv2
        have HS2 := Lib.hid hs2
        obtain ⟨h48a, h48b⟩ := h48
        have hw1 : IntKind.u8.wrap (chr s kk - 48) = chr s kk - 48 := by rw [IntKind.wrap_u8']; omega
        clear hd hA hs2 hV A
        have HDG := Lib.hid (digit_any (chr s kk) w)
        rw [← HD.out] at HDG
        go_wp2_with fail
        refine HDG.out.mono ?_
        rintro e w1 ⟨rfl, rfl⟩
        go_wp2_with fail
        go_round
        case rel => exact ⟨kk + 1, by omega, by rw [HS2.out], by go_num, HA.out⟩
        case measure => simp [intOf]; omega
    · obtain rfl : kk = s.size := by omega
      have hv := Lib.hid (HE.out (HY2.out A.out))
      go_wp2_with fail
      go_ret2
      exact ⟨hv.out, rfl⟩

set_option maxHeartbeats 4000000 in
set_option maxRecDepth 100000 in
theorem numberR_any (s : ByteArray) (w : World) (hs : s.size ≤ 9223372036854775807) :
    Calls Tryd.prog 73 #[.string s] w fun e w' => e = .returned (.tuple #[.int .i64 (numR s), .bool (numOk s)]) ∧ w = w' := by
  by_cases h0 : s.size = 0
  · have hv := Lib.hid (num_no (s := s) (by simp [numOk, h0]))
    have e0 : ((s.size : Int) == 0) = true := by simp [h0]
    have e1 : s.toList = [] := by
      rw [ByteArray.toList_eq]
      exact List.length_eq_zero_iff.1 (by simpa using h0)
    have e2 : s.toList.isEmpty = true := by simp [e1]
    clear h0
    go_enter Tryd.func73, Tryd.ntmps73
    go_wp2_with fail
    go_ret2
    exact ⟨hv.out, rfl⟩
  have e0 : ((s.size : Int) == 0) = false := by simp [h0]
  have e1 : ¬ s.toList = [] := by
    rw [ByteArray.toList_eq]
    exact fun e => h0 ((Lib.size_eq s).trans (by rw [e]; rfl))
  have e2 : s.toList.isEmpty = false := by simp [e1]
  have hp : 0 < s.size := by omega
  by_cases h15 : 15 < s.size
  · have hv := Lib.hid (num_no (s := s) (by simp [numOk]; omega))
    clear h0
    go_enter Tryd.func73, Tryd.ntmps73
    go_wp2_with fail
    go_ret2
    exact ⟨hv.out, rfl⟩
  have hc0 := chr_of hp
  have hz := Lib.hid (show numOk s = false → _ from fun h => num_no h)
  have HY := Lib.hid (numOk_yes (s := s) hp (by omega))
  have HN := Lib.hid (fun i h => @numOk_no s i h)
  have HV := Lib.hid (fun n hn h => @numV_small s n hn h)
  have HE := Lib.hid (fun h => @num_yes s h)
  have hdec : ((chr s 0 == 48) = true ∧ 1 < s.size) ∨ ((decide (1 < s.size) && (chr s 0 == 48)) = false) := by
    by_cases h1 : 1 < s.size
    · cases hq : (chr s 0 == 48)
      · right; simp
      · left; exact ⟨rfl, h1⟩
    · right; simp [h1]
  rcases hdec with ⟨hq, h1⟩ | hq
  · have hv := Lib.hid (hz.out (by simp [numOk, h1, hq]))
    have h1z : (1 : Int) < (s.size : Int) := by omega
    clear h0
    go_enter Tryd.func73, Tryd.ntmps73
    go_wp2_with fail
    go_ret2
    exact ⟨hv.out, rfl⟩
  have HY2 := Lib.hid (HY.out hq)
  clear HY hz
  go_enter Tryd.func73, Tryd.ntmps73
  go_upto_region 1 with (fail)
  go_cut [22] (fun s23 w2 => s23 = .bool false ∧ w = w2)
  case first =>
    by_cases h1 : 1 < s.size
    · have hq1 : (chr s 0 == 48) = false := by simpa [h1] using hq
      have h1z : (1 : Int) < (s.size : Int) := by omega
      have hq2 : ¬ chr s 0 = 48 := by simpa using hq1
      clear hq h0
      go_wp2_with fail
      go_meet
      exact ⟨by simp; omega, rfl⟩
    · have h1z : ¬ (1 : Int) < (s.size : Int) := by omega
      clear hq h0
      cases hq1 : (chr s 0 == 48)
      all_goals
        go_wp2_with fail
        go_meet
        exact ⟨by simp; omega, rfl⟩
  obtain ⟨rfl, rfl⟩ := hcut
  clear hq hc0 h0 e0 e1 e2
  go_wp2_with fail
  go_loop [4, 25] (fun s4 s25 => ∃ kk : Nat, kk ≤ s.size ∧ s4 = .int .i64 (numV s kk) ∧ s25 = .int .i64 kk ∧ Aside (∀ j, j < kk → digitI (chr s j) = true)) (fun _ i => s.size - (intOf i).toNat)
  case atStart => exact ⟨0, Nat.zero_le _, rfl, rfl, fun j hj => absurd hj (Nat.not_lt_zero _)⟩
  case round =>
    obtain ⟨kk, hkk, rfl, rfl, A⟩ := hrel
    by_cases hlt : kk < s.size
    · have hltz : (kk : Int) < (s.size : Int) := by omega
      have hc := chr_of hlt
      obtain ⟨d, hd⟩ : ∃ d, d = digitI (chr s kk) := ⟨_, rfl⟩
      cases d
      case false =>
        have hv := Lib.hid (num_no (HN.out kk hlt hd.symm))
        have HD := Lib.hid hd
        clear hd
        by_cases hlo : chr s kk < 48
        · go_wp2_with fail
          go_ret2
          exact ⟨hv.out, rfl⟩
        · have hhi : (57 : Int) < chr s kk := by
            have := HD.out.symm
            simp [digitI] at this
            omega
          go_wp2_with fail
          go_ret2
          exact ⟨hv.out, rfl⟩
      case true =>
        have hA : ∀ j, j < kk + 1 → digitI (chr s j) = true := fun j hj => by
          by_cases e : j = kk
          · rw [e]; exact hd.symm
          · exact A.out j (by omega)
        have hv1 := HV.out kk (by omega) A.out
        have hv2 := HV.out (kk + 1) (by omega) hA
        have hs2 := numV_next s kk
        have HA := Lib.hid hA
        have h48 : 48 ≤ chr s kk ∧ chr s kk ≤ 57 := by
          have := hd.symm
          simpa [digitI] using this
        have HD := Lib.hid hd
        obtain ⟨V, hV⟩ : ∃ V, V = numV s kk := ⟨_, rfl⟩
        rw [← hV] at hv1 hs2 ⊢
        rw [hs2] at hv2
        have HS2 := Lib.hid hs2
        obtain ⟨h48a, h48b⟩ := h48
        have hw1 : IntKind.u8.wrap (chr s kk - 48) = chr s kk - 48 := by rw [IntKind.wrap_u8']; omega
        clear hd hA hs2 hV A
        have hlo : ¬ chr s kk < 48 := by omega
        have hhi : ¬ (57 : Int) < chr s kk := by omega
        go_wp2_with fail
        go_round
        case rel => exact ⟨kk + 1, by omega, by rw [HS2.out], by go_num, HA.out⟩
        case measure => simp [intOf]; omega
    · obtain rfl : kk = s.size := by omega
      have hv := Lib.hid (HE.out (HY2.out A.out))
      go_wp2_with fail
      go_ret2
      exact ⟨hv.out, rfl⟩
end Go.Proofs.YtmgbmoiefgfemaaDoor

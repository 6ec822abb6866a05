/- Names: kit.IsName and the reference's isName, of chapter 5, answer nameB. -/
import Derived.Test.YtmgbmoiefgfemaaDoorLib
namespace Go.Proofs.YtmgbmoiefgfemaaDoor
open Go.RowKit

def letterI (n : Int) : Bool := decide (97 ≤ n) && decide (n ≤ 122)
def digitI (n : Int) : Bool := decide (48 ≤ n) && decide (n ≤ 57)
def okI (n : Int) : Bool := letterI n || digitI n || n == 45
/-- The byte at a place, as a number. -/
def chr (s : ByteArray) (i : Nat) : Int := (s[i]!.toNat : Int)
theorem chr_of {s : ByteArray} {i : Nat} (h : i < s.size) : ((s[i]'h).toNat : Int) = chr s i := by
  unfold chr
  rw [getElem!_pos s i h]
/-- Is it a name? -/
def nameB (s : ByteArray) : Bool := decide (0 < s.size) && decide (s.size ≤ 40) && letterI (chr s 0) && (List.range s.size).all fun i => okI (chr s i)

theorem nameB_no {s : ByteArray} {i : Nat} (h : i < s.size) (hi : okI (chr s i) = false) : nameB s = false := by
  unfold nameB
  have : ((List.range s.size).all fun i => okI (chr s i)) = false := by
    rw [List.all_eq_false]
    exact ⟨i, List.mem_range.2 h, by simp [hi]⟩
  simp [this]

theorem nameB_yes {s : ByteArray} (h0 : 0 < s.size) (h40 : s.size ≤ 40) (hl : letterI (chr s 0) = true) (h : ∀ i, i < s.size → okI (chr s i) = true) : nameB s = true := by
  unfold nameB
  have : ((List.range s.size).all fun i => okI (chr s i)) = true := List.all_eq_true.2 fun i hi => h i (List.mem_range.1 hi)
  simp [this, h0, h40, hl]

theorem letter_any (n : Int) (w : World) : Calls Tryd.prog 84 #[.int .u8 n] w fun e w' => e = .returned (.bool (letterI n)) ∧ w = w' := by
  by_cases h : 97 ≤ n
  · go_enter Tryd.func84, Tryd.ntmps84
    go_wp2
    go_ret
    exact ⟨ret_bool (by simp [letterI, h]), rfl⟩
  · have h' : decide (97 ≤ n) = false := by simp; omega
    go_enter Tryd.func84, Tryd.ntmps84
    go_wp2
    go_ret
    exact ⟨ret_bool (by simp [letterI, h']), rfl⟩

theorem digit_any (n : Int) (w : World) : Calls Tryd.prog 85 #[.int .u8 n] w fun e w' => e = .returned (.bool (digitI n)) ∧ w = w' := by
  by_cases h : 48 ≤ n
  · go_enter Tryd.func85, Tryd.ntmps85
    go_wp2
    go_ret
    exact ⟨ret_bool (by simp [digitI, h]), rfl⟩
  · have h' : decide (48 ≤ n) = false := by simp; omega
    go_enter Tryd.func85, Tryd.ntmps85
    go_wp2
    go_ret
    exact ⟨ret_bool (by simp [digitI, h']), rfl⟩

set_option maxHeartbeats 1000000 in
theorem isName_any (s : ByteArray) (w : World) (hs : s.size ≤ 9223372036854775807) :
    Calls Tryd.prog 47 #[.string s] w fun e w' => e = .returned (.bool (nameB s)) ∧ w = w' := by
  by_cases h0 : s.size = 0
  · have hv : Hid (false = nameB s) := Lib.hid (by simp [nameB, h0])
    have e0 : ((s.size : Int) == 0) = true := by simp [h0]
    clear h0
    go_enter Tryd.func47, Tryd.ntmps47
    go_wp2_with fail
    go_ret
    exact ⟨ret_bool hv.out, rfl⟩
  have e0 : ((s.size : Int) == 0) = false := by simp [h0]
  have hp : 0 < s.size := by omega
  by_cases h40 : 40 < s.size
  · have hv : Hid (false = nameB s) := Lib.hid (by simp [nameB]; omega)
    clear h0
    go_enter Tryd.func47, Tryd.ntmps47
    go_wp2_with fail
    go_ret
    exact ⟨ret_bool hv.out, rfl⟩
  have hc0 := chr_of hp
  cases hl : letterI (chr s 0)
  case false =>
    have hv : Hid (false = nameB s) := Lib.hid (by simp [nameB, hl])
    clear h0
    go_enter Tryd.func47, Tryd.ntmps47
    go_wp2_with (go_at_call 84; refine (letter_any _ _).mono ?_; rintro e w' ⟨rfl, rfl⟩)
    go_ret
    exact ⟨ret_bool hv.out, rfl⟩
  have HY := Lib.hid (nameB_yes hp (by omega) hl)
  have HN := Lib.hid (fun i h => @nameB_no s i h)
  clear h0
  go_enter Tryd.func47, Tryd.ntmps47
  go_wp2_with (go_at_call 84; refine (letter_any _ _).mono ?_; rintro e w' ⟨rfl, rfl⟩)
  clear hl hc0
  go_loop [20] (fun s20 => ∃ kk : Nat, kk ≤ s.size ∧ s20 = .int .i64 kk ∧ Aside (∀ j, j < kk → okI (chr s j) = true)) (fun i => s.size - (intOf i).toNat)
  case atStart => exact ⟨0, Nat.zero_le _, rfl, fun j hj => absurd hj (Nat.not_lt_zero _)⟩
  case round =>
    obtain ⟨kk, hkk, rfl, A⟩ := hrel
    by_cases hlt : kk < s.size
    · have hltz : (kk : Int) < (s.size : Int) := by omega
      have hc := chr_of hlt
      have hok : Hid (okI (chr s kk) = !(!letterI (chr s kk) && !digitI (chr s kk) && (chr s kk != 45))) := Lib.hid (by
        unfold okI
        cases letterI (chr s kk) <;> cases digitI (chr s kk) <;> simp [bne])
      go_upto_region 6 with (fail)
      go_cut [40] (fun s40 w2 => s40 = .bool (!letterI (chr s kk) && !digitI (chr s kk) && (chr s kk != 45)) ∧ w = w2)
      case first =>
        cases h1 : letterI (chr s kk) <;> cases h2 : digitI (chr s kk)
        all_goals
          go_wp2_with (first | (go_at_call 84; refine (letter_any _ _).mono ?_; rintro e w' ⟨rfl, rfl⟩) | (go_at_call 85; refine (digit_any _ _).mono ?_; rintro e w' ⟨rfl, rfl⟩))
          go_meet
          exact ⟨by simp [*], rfl⟩
      obtain ⟨rfl, rfl⟩ := hcut
      generalize hO : (!letterI (chr s kk) && !digitI (chr s kk) && (chr s kk != 45)) = O at hok
      have HO := Lib.hid hO
      clear hO
      cases O
      case true =>
        have hv : Hid (false = nameB s) := Lib.hid (HN.out kk hlt (by rw [hok.out]; rfl)).symm
        go_wp2
        go_ret
        exact ⟨ret_bool hv.out, rfl⟩
      case false =>
        go_wp2
        go_round
        case rel =>
          refine ⟨kk + 1, by omega, by go_num, (show Aside _ from fun j hj => ?_)⟩
          by_cases e : j = kk
          · rw [e, hok.out]; rfl
          · exact A.out j (by omega)
        case measure => simp [intOf]; omega
    · obtain rfl : kk = s.size := by omega
      have hv : Hid (true = nameB s) := Lib.hid (HY.out A.out).symm
      go_wp2
      go_ret
      exact ⟨ret_bool hv.out, rfl⟩

set_option maxHeartbeats 1000000 in
theorem isName5_any (s : ByteArray) (w : World) (hs : s.size ≤ 9223372036854775807) :
    Calls Tryd.prog 48 #[.string s] w fun e w' => e = .returned (.bool (nameB s)) ∧ w = w' := by
  by_cases h0 : s.size = 0
  · have hv : Hid (false = nameB s) := Lib.hid (by simp [nameB, h0])
    have e1 : s.toList = [] := by
      rw [ByteArray.toList_eq]
      exact List.length_eq_zero_iff.1 (by simpa using h0)
    have e2 : s.toList.isEmpty = true := by simp [e1]
    clear h0
    go_enter Tryd.func48, Tryd.ntmps48
    go_wp2
    go_ret
    exact ⟨ret_bool hv.out, rfl⟩
  have hp : 0 < s.size := by omega
  have e2 : s.toList.isEmpty = false := by
    rw [ByteArray.toList_eq]
    cases h : s.data.toList with
    | nil => exact absurd (by have := congrArg List.length h; simpa using this) h0
    | cons a r => rfl
  have e3 : ¬ s.toList = [] := by simpa using e2
  have hpz : (0 : Int) < (s.size : Int) := by omega
  have hc0 := chr_of hp
  by_cases h40 : 40 < s.size
  · have hv : Hid (false = nameB s) := Lib.hid (by simp [nameB]; omega)
    have h40z : (40 : Int) < (s.size : Int) := by omega
    clear h0
    go_enter Tryd.func48, Tryd.ntmps48
    go_wp2
    go_ret
    exact ⟨ret_bool hv.out, rfl⟩
  have h40z : ¬ (40 : Int) < (s.size : Int) := by omega
  by_cases hl1 : chr s 0 < 97
  · have hv : Hid (false = nameB s) := Lib.hid (by simp [nameB, letterI]; omega)
    clear h0
    go_enter Tryd.func48, Tryd.ntmps48
    go_wp2
    go_ret
    exact ⟨ret_bool hv.out, rfl⟩
  by_cases hl2 : 122 < chr s 0
  · have hv : Hid (false = nameB s) := Lib.hid (by simp [nameB, letterI]; omega)
    clear h0
    go_enter Tryd.func48, Tryd.ntmps48
    go_wp2
    go_ret
    exact ⟨ret_bool hv.out, rfl⟩
  have HY := Lib.hid (nameB_yes hp (by omega) (show letterI (chr s 0) = true by simp [letterI]; omega))
  have HN := Lib.hid (fun i h => @nameB_no s i h)
  clear h0
  go_enter Tryd.func48, Tryd.ntmps48
  go_wp2
  clear hc0
  go_loop [3, 4, 24] (fun _ _ s24 => ∃ kk : Nat, kk ≤ s.size ∧ s24 = .int .i64 kk ∧ Aside (∀ j, j < kk → okI (chr s j) = true)) (fun _ _ i => s.size - (intOf i).toNat)
  case atStart => exact ⟨0, Nat.zero_le _, rfl, fun j hj => absurd hj (Nat.not_lt_zero _)⟩
  case round =>
    obtain ⟨kk, hkk, rfl, A⟩ := hrel
    by_cases hlt : kk < s.size
    · have hltz : (kk : Int) < (s.size : Int) := by omega
      have hc := chr_of hlt
      have hok : Hid (okI (chr s kk) = !(!letterI (chr s kk) && !digitI (chr s kk) && (chr s kk != 45))) := Lib.hid (by
        unfold okI
        cases letterI (chr s kk) <;> cases digitI (chr s kk) <;> simp [bne])
      go_upto_region 7 with (fail)
      go_cut [47] (fun s47 w2 => s47 = .bool (!letterI (chr s kk) && !digitI (chr s kk) && (chr s kk != 45)) ∧ w = w2)
      case first =>
        by_cases a1 : chr s kk < 97
        · have b1 : letterI (chr s kk) = false := by simp [letterI]; omega
          by_cases a2 : chr s kk < 48
          · have b2 : digitI (chr s kk) = false := by simp [digitI]; omega
            go_wp2
            go_meet
            exact ⟨by rw [b1, b2]; rfl, rfl⟩
          · by_cases a3 : 57 < chr s kk
            · have b2 : digitI (chr s kk) = false := by simp [digitI]; omega
              go_wp2
              go_meet
              exact ⟨by rw [b1, b2]; rfl, rfl⟩
            · have b2 : digitI (chr s kk) = true := by simp [digitI]; omega
              go_wp2
              go_meet
              exact ⟨by rw [b1, b2]; rfl, rfl⟩
        · by_cases a4 : 122 < chr s kk
          · have b1 : letterI (chr s kk) = false := by simp [letterI]; omega
            have b2 : digitI (chr s kk) = false := by simp [digitI]; omega
            have a2 : ¬ chr s kk < 48 := by omega
            have a3 : 57 < chr s kk := by omega
            go_wp2
            go_meet
            exact ⟨by rw [b1, b2]; rfl, rfl⟩
          · have b1 : letterI (chr s kk) = true := by simp [letterI]; omega
            go_wp2
            go_meet
            exact ⟨by rw [b1]; rfl, rfl⟩
      obtain ⟨rfl, rfl⟩ := hcut
      generalize hO : (!letterI (chr s kk) && !digitI (chr s kk) && (chr s kk != 45)) = O at hok
      have HO := Lib.hid hO
      clear hO
      cases O
      case true =>
        have hv : Hid (false = nameB s) := Lib.hid (HN.out kk hlt (by rw [hok.out]; rfl)).symm
        go_wp2
        go_ret
        exact ⟨ret_bool hv.out, rfl⟩
      case false =>
        go_wp2
        go_round
        case rel =>
          refine ⟨kk + 1, by omega, by go_num, (show Aside _ from fun j hj => ?_)⟩
          by_cases e : j = kk
          · rw [e, hok.out]; rfl
          · exact A.out j (by omega)
        case measure => simp [intOf]; omega
    · obtain rfl : kk = s.size := by omega
      have hv : Hid (true = nameB s) := Lib.hid (HY.out A.out).symm
      go_wp2
      go_ret
      exact ⟨ret_bool hv.out, rfl⟩
end Go.Proofs.YtmgbmoiefgfemaaDoor

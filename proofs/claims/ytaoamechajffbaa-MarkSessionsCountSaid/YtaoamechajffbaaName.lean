/- Names: kit.IsName and the reference's IsName answer nameB. -/
import Derived.Test.YtaoamechajffbaaBase
import Derived.Test.YtaoamechajffbaaProg
namespace Go.Proofs.Ytaoamechajffbaa
open Go.RowKit

def letterI (n : Int) : Bool := decide (97 ≤ n) && decide (n ≤ 122)
def digitI (n : Int) : Bool := decide (48 ≤ n) && decide (n ≤ 57)
def okI (n : Int) : Bool := letterI n || digitI n || n == 45
/-- The byte at a place, as a number. -/
def chr (s : ByteArray) (i : Nat) : Int := (s[i]!.toNat : Int)
theorem chr_of {s : ByteArray} {i : Nat} (h : i < s.size) : ((s[i]'h).toNat : Int) = chr s i := by
  unfold chr
  rw [getElem!_pos s i h]
/-- Is it a name? -/
def nameB (s : ByteArray) : Bool := decide (0 < s.size) && decide (s.size ≤ 40) && letterI (chr s 0) && (List.range s.size).all fun i => okI (chr s i)

theorem nameB_no {s : ByteArray} {i : Nat} (h : i < s.size) (hi : okI (chr s i) = false) : nameB s = false := by
  unfold nameB
  have : ((List.range s.size).all fun i => okI (chr s i)) = false := by
    rw [List.all_eq_false]
    exact ⟨i, List.mem_range.2 h, by simp [hi]⟩
  simp [this]

theorem nameB_yes {s : ByteArray} (h0 : 0 < s.size) (h40 : s.size ≤ 40) (hl : letterI (chr s 0) = true) (h : ∀ i, i < s.size → okI (chr s i) = true) : nameB s = true := by
  unfold nameB
  have : ((List.range s.size).all fun i => okI (chr s i)) = true := List.all_eq_true.2 fun i hi => h i (List.mem_range.1 hi)
  simp [this, h0, h40, hl]

theorem letter_any (n : Int) (w : World) : Calls Try.prog 32 #[.int .u8 n] w fun e w' => e = .returned (.bool (letterI n)) ∧ w = w' := by
  by_cases h : 97 ≤ n
  · go_enter Try.func32, Try.ntmps32
    go_wp2
    go_ret
    exact ⟨ret_bool (by simp [letterI, h]), rfl⟩
  · have h' : decide (97 ≤ n) = false := by simp; omega
    go_enter Try.func32, Try.ntmps32
    go_wp2
    go_ret
    exact ⟨ret_bool (by simp [letterI, h']), rfl⟩

theorem digit_any (n : Int) (w : World) : Calls Try.prog 33 #[.int .u8 n] w fun e w' => e = .returned (.bool (digitI n)) ∧ w = w' := by
  by_cases h : 48 ≤ n
  · go_enter Try.func33, Try.ntmps33
    go_wp2
    go_ret
    exact ⟨ret_bool (by simp [digitI, h]), rfl⟩
  · have h' : decide (48 ≤ n) = false := by simp; omega
    go_enter Try.func33, Try.ntmps33
    go_wp2
    go_ret
    exact ⟨ret_bool (by simp [digitI, h']), rfl⟩

set_option maxHeartbeats 1000000 in
theorem isName_any (s : ByteArray) (w : World) (hs : s.size ≤ 9223372036854775807) :
    Calls Try.prog 13 #[.string s] w fun e w' => e = .returned (.bool (nameB s)) ∧ w = w' := by
  by_cases h0 : s.size = 0
  · have hv : Hid (false = nameB s) := Lib.hid (by simp [nameB, h0])
    have e0 : ((s.size : Int) == 0) = true := by simp [h0]
    clear h0
    go_enter Try.func13, Try.ntmps13
    go_wp2_with fail
    go_ret
    exact ⟨ret_bool hv.out, rfl⟩
  have e0 : ((s.size : Int) == 0) = false := by simp [h0]
  have hp : 0 < s.size := by omega
  by_cases h40 : 40 < s.size
  · have hv : Hid (false = nameB s) := Lib.hid (by simp [nameB]; omega)
    clear h0
    go_enter Try.func13, Try.ntmps13
    go_wp2_with fail
    go_ret
    exact ⟨ret_bool hv.out, rfl⟩
  have hc0 := chr_of hp
  cases hl : letterI (chr s 0)
  case false =>
    have hv : Hid (false = nameB s) := Lib.hid (by simp [nameB, hl])
    clear h0
    go_enter Try.func13, Try.ntmps13
    go_wp2_with (go_at_call 32; refine (letter_any _ _).mono ?_; rintro e w' ⟨rfl, rfl⟩)
    go_ret
    exact ⟨ret_bool hv.out, rfl⟩
  have HY := Lib.hid (nameB_yes hp (by omega) hl)
  have HN := Lib.hid (fun i h => @nameB_no s i h)
  clear h0
  go_enter Try.func13, Try.ntmps13
  go_wp2_with (go_at_call 32; refine (letter_any _ _).mono ?_; rintro e w' ⟨rfl, rfl⟩)
  clear hl hc0
  go_loop [20] (fun s20 => ∃ kk : Nat, kk ≤ s.size ∧ s20 = .int .i64 kk ∧ Aside (∀ j, j < kk → okI (chr s j) = true)) (fun i => s.size - (intOf i).toNat)
  case atStart => exact ⟨0, Nat.zero_le _, rfl, fun j hj => absurd hj (Nat.not_lt_zero _)⟩
  case round =>
    obtain ⟨kk, hkk, rfl, A⟩ := hrel
    by_cases hlt : kk < s.size
    · have hltz : (kk : Int) < (s.size : Int) := by omega
      have hc := chr_of hlt
      have hok : Hid (okI (chr s kk) = !(!letterI (chr s kk) && !digitI (chr s kk) && (chr s kk != 45))) := Lib.hid (by
        unfold okI
        cases letterI (chr s kk) <;> cases digitI (chr s kk) <;> simp [bne])
      go_upto_region 6 with (fail)
      go_cut [40] (fun s40 w2 => s40 = .bool (!letterI (chr s kk) && !digitI (chr s kk) && (chr s kk != 45)) ∧ w = w2)
      case first =>
        cases h1 : letterI (chr s kk) <;> cases h2 : digitI (chr s kk)
        all_goals
          go_wp2_with (first | (go_at_call 32; refine (letter_any _ _).mono ?_; rintro e w' ⟨rfl, rfl⟩) | (go_at_call 33; refine (digit_any _ _).mono ?_; rintro e w' ⟨rfl, rfl⟩))
          go_meet
          exact ⟨by simp [*], rfl⟩
      obtain ⟨rfl, rfl⟩ := hcut
      generalize hO : (!letterI (chr s kk) && !digitI (chr s kk) && (chr s kk != 45)) = O at hok
      have HO := Lib.hid hO
      clear hO
      cases O
      case true =>
        have hv : Hid (false = nameB s) := Lib.hid (HN.out kk hlt (by rw [hok.out]; rfl)).symm
        go_wp2
        go_ret
        exact ⟨ret_bool hv.out, rfl⟩
      case false =>
        go_wp2
        go_round
        case rel =>
          refine ⟨kk + 1, by omega, by go_num, (show Aside _ from fun j hj => ?_)⟩
          by_cases e : j = kk
          · rw [e, hok.out]; rfl
          · exact A.out j (by omega)
        case measure => simp [intOf]; omega
    · obtain rfl : kk = s.size := by omega
      have hv : Hid (true = nameB s) := Lib.hid (HY.out A.out).symm
      go_wp2
      go_ret
      exact ⟨ret_bool hv.out, rfl⟩

set_option maxHeartbeats 1000000 in
theorem isNameR_any (s : ByteArray) (w : World) (hs : s.size ≤ 9223372036854775807) :
    Calls Try.prog 22 #[.string s] w fun e w' => e = .returned (.bool (nameB s)) ∧ w = w' := by
  go_enter Try.func22, Try.ntmps22
  go_wp2
  go_loop [3] (fun s3 => ∃ kk : Nat, kk ≤ s.size ∧ s3 = .int .i64 kk ∧ Aside (∀ j, j < kk → okI (chr s j) = true) ∧ Aside (0 < kk → letterI (chr s 0) = true)) (fun i => s.size - (intOf i).toNat)
  case atStart => exact ⟨0, Nat.zero_le _, rfl, fun j hj => absurd hj (Nat.not_lt_zero _), fun h => absurd h (Nat.lt_irrefl _)⟩
  case round =>
    obtain ⟨kk, hkk, rfl, A, A0⟩ := hrel
    by_cases hlt : kk < s.size
    · have hltz : (kk : Int) < (s.size : Int) := by omega
      have hc := chr_of hlt
      have hok : Hid (okI (chr s kk) = !(!letterI (chr s kk) && !digitI (chr s kk) && (chr s kk != 45))) := Lib.hid (by
        unfold okI
        cases letterI (chr s kk) <;> cases digitI (chr s kk) <;> simp [bne])
      have hk0 : kk = 0 ∨ 0 < kk := by omega
      go_upto_region 5 with (fail)
      go_cut [4, 5] (fun s4 s5 w2 => s4 = .int .u8 (chr s kk) ∧ s5 = .bool (letterI (chr s kk)) ∧ w = w2)
      case first =>
        by_cases h : 97 ≤ chr s kk
        · go_wp2
          go_meet
          exact ⟨rfl, by simp [letterI, h], rfl⟩
        · have h' : decide (97 ≤ chr s kk) = false := by simp; omega
          go_wp2
          go_meet
          exact ⟨rfl, by simp [letterI, h'], rfl⟩
      obtain ⟨rfl, rfl, rfl⟩ := hcut
      generalize hL : letterI (chr s kk) = L at hok ⊢
      have HL := Lib.hid hL
      clear hL
      go_upto_region 6 with (fail)
      go_cut [39] (fun s39 w2 => s39 = .bool (!L && (decide (kk = 0) || (chr s kk != 45) && !digitI (chr s kk))) ∧ w = w2)
      case first =>
        cases L
        case true =>
          go_wp2
          go_meet
          exact ⟨by simp [*], rfl⟩
        have HK0 := Lib.hid hk0
        clear hk0
        rcases HK0.out with z | z
        · have e1 : ((kk : Int) == 0) = true := by simp [z]
          have hz : decide (kk = 0) = true := by simp [z]
          clear z
          go_wp2
          go_meet
          exact ⟨by simp [*], rfl⟩
        · have e1 : ((kk : Int) == 0) = false := by simp; omega
          have hz : decide (kk = 0) = false := by simp; omega
          clear z
          cases h2 : (chr s kk != 45)
          · go_wp2
            go_meet
            exact ⟨by simp [*], rfl⟩
          · by_cases h : 48 ≤ chr s kk
            · go_wp2
              go_meet
              exact ⟨by simp [digitI, *], rfl⟩
            · have h' : decide (48 ≤ chr s kk) = false := by simp; omega
              go_wp2
              go_meet
              exact ⟨by simp [digitI, *], rfl⟩
      obtain ⟨rfl, rfl⟩ := hcut
      generalize hO : (!L && (decide (kk = 0) || (chr s kk != 45) && !digitI (chr s kk))) = O
      have HO := Lib.hid hO
      clear hO
      cases O
      case true =>
        have hv : Hid (false = nameB s) := Lib.hid (by
          have h := HO.out
          simp only [Bool.and_eq_true, Bool.or_eq_true, Bool.not_eq_true', decide_eq_true_eq] at h
          obtain ⟨h1, h2⟩ := h
          rcases h2 with h2 | ⟨h2, h3⟩
          · subst h2
            simp [nameB, HL.out, h1]
          · exact (nameB_no hlt (by rw [hok.out, h1, h3, h2]; rfl)).symm)
        go_wp2
        go_ret
        exact ⟨ret_bool hv.out, rfl⟩
      case false =>
        go_wp2
        go_round
        case rel =>
          refine ⟨kk + 1, by omega, by go_num, (show Aside (∀ j, j < kk + 1 → okI (chr s j) = true) from fun j hj => ?_), (show Aside (0 < kk + 1 → letterI (chr s 0) = true) from fun _ => ?_)⟩
          · by_cases e : j = kk
            · rw [e, hok.out]
              have h := HO.out
              cases L <;> cases h2 : digitI (chr s kk) <;> cases h3 : (chr s kk != 45) <;> simp_all
            · exact A.out j (by omega)
          · by_cases e : kk = 0
            · subst e
              have h := HO.out
              cases L
              · simp at h
              · exact HL.out
            · exact A0.out (by omega)
        case measure => simp [intOf]; omega
    · obtain rfl : kk = s.size := by omega
      by_cases h0 : s.size = 0
      · have hv : Hid (false = nameB s) := Lib.hid (by simp [nameB, h0])
        have e1 : s.toList = [] := by
          rw [ByteArray.toList_eq]
          exact List.length_eq_zero_iff.1 (by simpa using h0)
        have e2 : (!s.toList.isEmpty) = false := by simp [e1]
        clear h0
        go_wp2
        go_ret
        exact ⟨ret_bool hv.out, rfl⟩
      · have e1 : (!s.toList.isEmpty) = true := by
          rw [ByteArray.toList_eq]
          cases h : s.data.toList with
          | nil => exact absurd (by have := congrArg List.length h; simpa using this) h0
          | cons a r => rfl
        have e2 : s.toList.isEmpty = false := by simpa using e1
        have hv : Hid (decide (s.size ≤ 40) = nameB s) := Lib.hid (by
          by_cases h40 : s.size ≤ 40
          · rw [nameB_yes (by omega) h40 (A0.out (by omega)) A.out]; simp [h40]
          · simp [nameB, h40])
        clear h0
        go_wp2
        go_ret
        exact ⟨ret_bool (by rw [← hv.out]; simp; omega), rfl⟩
end Go.Proofs.Ytaoamechajffbaa

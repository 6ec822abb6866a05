/- Requests: isRequest of edge and of the reference answer reqB. -/
import Derived.Test.YtmgbmoiefgfemaaDoorNameE
namespace Go.Proofs.YtmgbmoiefgfemaaDoor
open Go.RowKit

def okQ (n : Int) : Bool := decide (33 ≤ n) && decide (n ≤ 126)
/-- Is it a request? -/
def reqB (s : ByteArray) : Bool := decide (0 < s.size) && decide (s.size ≤ 300) && (chr s 0 == 47) && (List.range s.size).all fun i => okQ (chr s i)

theorem reqB_no {s : ByteArray} {i : Nat} (h : i < s.size) (hi : okQ (chr s i) = false) : reqB s = false := by
  unfold reqB
  have : ((List.range s.size).all fun i => okQ (chr s i)) = false := by
    rw [List.all_eq_false]
    exact ⟨i, List.mem_range.2 h, by simp [hi]⟩
  simp [this]
theorem reqB_yes {s : ByteArray} (h0 : 0 < s.size) (h40 : s.size ≤ 300) (hl : chr s 0 = 47) (h : ∀ i, i < s.size → okQ (chr s i) = true) : reqB s = true := by
  unfold reqB
  have : ((List.range s.size).all fun i => okQ (chr s i)) = true := List.all_eq_true.2 fun i hi => h i (List.mem_range.1 hi)
  simp [this, h0, h40, hl]
theorem reqB_true {s : ByteArray} (h : reqB s = true) : 0 < s.size ∧ s.size ≤ 300 ∧ chr s 0 = 47 ∧ ∀ i, i < s.size → okQ (chr s i) = true := by
  unfold reqB at h
  simp only [Bool.and_eq_true, decide_eq_true_eq, beq_iff_eq, List.all_eq_true, List.mem_range] at h
  exact ⟨h.1.1.1, h.1.1.2, h.1.2, h.2⟩

set_option maxHeartbeats 1000000 in
theorem isReq_any (s : ByteArray) (w : World) (hs : s.size ≤ 9223372036854775807) :
    Calls Tryd.prog 36 #[.string s] w fun e w' => e = .returned (.bool (reqB s)) ∧ w = w' := by
  have ho := out_any (s.size : Int) 1 300 w
  by_cases h0 : s.size = 0
  · have hv : Hid (false = reqB s) := Lib.hid (by simp [reqB, h0])
    have e0 : outB (s.size : Int) 1 300 = true := by simp [outB, h0]
    rw [e0] at ho
    have HO := Lib.hid ho
    clear h0 ho e0
    go_enter Tryd.func36, Tryd.ntmps36
    go_wp2_with (go_at_call 40; refine HO.out.mono ?_; rintro e w' ⟨rfl, rfl⟩)
    go_ret
    exact ⟨ret_bool hv.out, rfl⟩
  have hp : 0 < s.size := by omega
  by_cases h40 : 300 < s.size
  · have hv : Hid (false = reqB s) := Lib.hid (by simp [reqB]; omega)
    have e0 : outB (s.size : Int) 1 300 = true := by simp [outB]; omega
    rw [e0] at ho
    have HO := Lib.hid ho
    clear h0 ho e0
    go_enter Tryd.func36, Tryd.ntmps36
    go_wp2_with (go_at_call 40; refine HO.out.mono ?_; rintro e w' ⟨rfl, rfl⟩)
    go_ret
    exact ⟨ret_bool hv.out, rfl⟩
  have e0 : outB (s.size : Int) 1 300 = false := by simp [outB]; omega
  rw [e0] at ho
  have HO := Lib.hid ho
  have hc0 := chr_of hp
  clear h0 ho e0
  by_cases hl : chr s 0 = 47
  case neg =>
    have hv : Hid (false = reqB s) := Lib.hid (by simp [reqB, hl])
    go_enter Tryd.func36, Tryd.ntmps36
    go_wp2_with (go_at_call 40; refine HO.out.mono ?_; rintro e w' ⟨rfl, rfl⟩)
    go_ret
    exact ⟨ret_bool hv.out, rfl⟩
  have HY := Lib.hid (reqB_yes hp (by omega) hl)
  have HN := Lib.hid (fun i h => @reqB_no s i h)
  go_enter Tryd.func36, Tryd.ntmps36
  go_wp2_with (go_at_call 40; refine HO.out.mono ?_; rintro e w' ⟨rfl, rfl⟩)
  clear hl hc0
  go_loopg [14] s.size (fun gg s14 w' => ∃ kk : Nat, kk ≤ s.size ∧ s.size - kk ≤ gg ∧ s14 = .int .i64 kk ∧ Aside (∀ j, j < kk → okQ (chr s j) = true) ∧ w = w')
  case atStart => exact ⟨0, Nat.zero_le _, by omega, by go_num, (fun j hj => absurd hj (Nat.not_lt_zero _)), rfl⟩
  case round =>
    obtain ⟨kk, hkk, hg, rfl, A, rfl⟩ := hrel
    have A := Lib.hid A.out
    by_cases hlt : kk < s.size
    · have hltz : (kk : Int) < (s.size : Int) := by omega
      have hc := chr_of hlt
      by_cases h1 : chr s kk < 33
      · have hv : Hid (false = reqB s) := Lib.hid (HN.out kk hlt (by simp [okQ]; omega)).symm
        go_wp2
        go_ret
        exact ⟨ret_bool hv.out, rfl⟩
      by_cases h2 : 126 < chr s kk
      · have hv : Hid (false = reqB s) := Lib.hid (HN.out kk hlt (by simp [okQ]; omega)).symm
        go_wp2
        go_ret
        exact ⟨ret_bool hv.out, rfl⟩
      have HQ : Hid (okQ (chr s kk) = true) := Lib.hid (by simp [okQ]; omega)
      go_wp2
      go_roundg (s.size - (kk + 1))
      case measure => omega
      case rel =>
        refine ⟨kk + 1, by omega, by omega, by go_num, (show Aside _ from fun j hj => ?_), rfl⟩
        by_cases e : j = kk
        · rw [e]; exact HQ.out
        · exact A.out j (by omega)
    · obtain rfl : kk = s.size := by omega
      have hltz : ¬ (s.size : Int) < (s.size : Int) := by omega
      have hv : Hid (true = reqB s) := Lib.hid (HY.out A.out).symm
      go_wp2
      go_ret
      exact ⟨ret_bool hv.out, rfl⟩

set_option maxHeartbeats 1000000 in
theorem isReqR_any (s : ByteArray) (w : World) (hs : s.size ≤ 9223372036854775807) :
    Calls Tryd.prog 38 #[.string s] w fun e w' => e = .returned (.bool (reqB s)) ∧ w = w' := by
  by_cases h0 : s.size = 0
  · have hv : Hid (false = reqB s) := Lib.hid (by simp [reqB, h0])
    have e1 : s.toList = [] := by
      rw [ByteArray.toList_eq]
      exact List.length_eq_zero_iff.1 (by simpa using h0)
    have e2 : s.toList.isEmpty = true := by simp [e1]
    clear h0
    go_enter Tryd.func38, Tryd.ntmps38
    go_wp2
    go_ret
    exact ⟨ret_bool hv.out, rfl⟩
  have hp : 0 < s.size := by omega
  have e2 : s.toList.isEmpty = false := by
    rw [ByteArray.toList_eq]
    cases h : s.data.toList with
    | nil => exact absurd (by have := congrArg List.length h; simpa using this) h0
    | cons a r => rfl
  have e3 : ¬ s.toList = [] := by simpa using e2
  by_cases h40 : 300 < s.size
  · have hv : Hid (false = reqB s) := Lib.hid (by simp [reqB]; omega)
    have h40z : (300 : Int) < (s.size : Int) := by omega
    clear h0
    go_enter Tryd.func38, Tryd.ntmps38
    go_wp2
    go_ret
    exact ⟨ret_bool hv.out, rfl⟩
  have h40z : ¬ (300 : Int) < (s.size : Int) := by omega
  have hc0 := chr_of hp
  clear h0
  by_cases hl : chr s 0 = 47
  case neg =>
    have hv : Hid (false = reqB s) := Lib.hid (by simp [reqB, hl])
    go_enter Tryd.func38, Tryd.ntmps38
    go_wp2
    go_ret
    exact ⟨ret_bool hv.out, rfl⟩
  have HY := Lib.hid (reqB_yes hp (by omega) hl)
  have HN := Lib.hid (fun i h => @reqB_no s i h)
  go_enter Tryd.func38, Tryd.ntmps38
  go_wp2
  clear hl hc0
  go_loopg [18] s.size (fun gg s18 w' => ∃ kk : Nat, kk ≤ s.size ∧ s.size - kk ≤ gg ∧ s18 = .int .i64 kk ∧ Aside (∀ j, j < kk → okQ (chr s j) = true) ∧ w = w')
  case atStart => exact ⟨0, Nat.zero_le _, by omega, by go_num, (fun j hj => absurd hj (Nat.not_lt_zero _)), rfl⟩
  case round =>
    obtain ⟨kk, hkk, hg, rfl, A, rfl⟩ := hrel
    have A := Lib.hid A.out
    by_cases hlt : kk < s.size
    · have hltz : (kk : Int) < (s.size : Int) := by omega
      have hc := chr_of hlt
      by_cases h1 : chr s kk < 33
      · have hv : Hid (false = reqB s) := Lib.hid (HN.out kk hlt (by simp [okQ]; omega)).symm
        go_wp2
        go_ret
        exact ⟨ret_bool hv.out, rfl⟩
      by_cases h2 : 126 < chr s kk
      · have hv : Hid (false = reqB s) := Lib.hid (HN.out kk hlt (by simp [okQ]; omega)).symm
        go_wp2
        go_ret
        exact ⟨ret_bool hv.out, rfl⟩
      have HQ : Hid (okQ (chr s kk) = true) := Lib.hid (by simp [okQ]; omega)
      go_wp2
      go_roundg (s.size - (kk + 1))
      case measure => omega
      case rel =>
        refine ⟨kk + 1, by omega, by omega, by go_num, (show Aside _ from fun j hj => ?_), rfl⟩
        by_cases e : j = kk
        · rw [e]; exact HQ.out
        · exact A.out j (by omega)
    · obtain rfl : kk = s.size := by omega
      have hltz : ¬ (s.size : Int) < (s.size : Int) := by omega
      have hv : Hid (true = reqB s) := Lib.hid (HY.out A.out).symm
      go_wp2
      go_ret
      exact ⟨ret_bool hv.out, rfl⟩
end Go.Proofs.YtmgbmoiefgfemaaDoor

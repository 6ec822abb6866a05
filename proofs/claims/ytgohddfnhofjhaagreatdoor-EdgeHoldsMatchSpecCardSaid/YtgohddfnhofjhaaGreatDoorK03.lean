/- Gets among the arguments. -/
import Derived.Test.YtgohddfnhofjhaaGreatDoorK02
import Derived.Lib.Split
import Derived.Lib.SplitLaws
import Derived.Lib.ItoaMem
import Derived.Test.YtgohddfnhofjhaaGreatDoorK01
import Derived.Lib.SmallJoins
set_option maxRecDepth 100000
set_option maxHeartbeats 1000000
namespace Go.Proofs.YtgohddfnhofjhaaGreatDoor
open Go.RowKit
def okQ (n : Int) : Bool := decide (33 ≤ n) && decide (n ≤ 126)
def dG (s : ByteArray) : Bool := decide (0 < s.size) && decide (s.size ≤ 300) && (chr s 0 == 47) && (List.range s.size).all fun i => okQ (chr s i)
theorem Bd {s : ByteArray} {i : Nat} (h : i < s.size) (hi : okQ (chr s i) = false) : dG s = false := by
 unfold dG; have : ((List.range s.size).all fun i => okQ (chr s i)) = false := by
  rw [List.all_eq_false]; exact ⟨i, List.mem_range.2 h, by simp [hi]⟩
 simp [this]
theorem wF {s : ByteArray} (h0 : 0 < s.size) (h40 : s.size ≤ 300) (hl : chr s 0 = 47) (h : ∀ i, i < s.size → okQ (chr s i) = true) : dG s = true := by
 unfold dG; have : ((List.range s.size).all fun i => okQ (chr s i)) = true := List.all_eq_true.2 fun i hi => h i (List.mem_range.1 hi)
 simp [this, h0, h40, hl]
theorem mZ {s : ByteArray} (h : dG s = true) : 0 < s.size ∧ s.size ≤ 300 ∧ chr s 0 = 47 ∧ ∀ i, i < s.size → okQ (chr s i) = true := by
 unfold dG at h; simp only [Bool.and_eq_true, decide_eq_true_eq, beq_iff_eq, List.all_eq_true, List.mem_range] at h
 exact ⟨h.1.1.1, h.1.1.2, h.1.2, h.2⟩
theorem iG (s : ByteArray) (w : World) (hs : s.size ≤ 9223372036854775807) :
 Calls Tryz.prog 51 #[.string s] w fun e w' => e = .returned (.bool (dG s)) ∧ w = w' := by
 have ho := fJ (s.size : Int) 1 300 w; by_cases h0 : s.size = 0
 ·have hv : Hid (false = dG s) := Lr (by simp [dG, h0]); have e0 : aN (s.size : Int) 1 300 = true := by simp [aN, h0]
  rw [e0] at ho; have HO := Lr ho; clear h0 ho e0
  go_enter Tryz.func51, Tryz.ntmps51
  go_wp2_with (go_at_call 83; refine HO.out.mono ?_; rintro e w' ⟨rfl, rfl⟩)
  go_ret
  exact ⟨az hv.out, rfl⟩
 have hp : 0 < s.size := by omega
 by_cases h40 : 300 < s.size
 ·have hv : Hid (false = dG s) := Lr (by simp [dG]; omega); have e0 : aN (s.size : Int) 1 300 = true := by simp [aN]; omega
  rw [e0] at ho; have HO := Lr ho; clear h0 ho e0
  go_enter Tryz.func51, Tryz.ntmps51
  go_wp2_with (go_at_call 83; refine HO.out.mono ?_; rintro e w' ⟨rfl, rfl⟩)
  go_ret
  exact ⟨az hv.out, rfl⟩
 have e0 : aN (s.size : Int) 1 300 = false := by simp [aN]; omega
 rw [e0] at ho; have HO := Lr ho; have hc0 := jr hp; clear h0 ho e0; by_cases hl : chr s 0 = 47
 case neg =>
  have hv : Hid (false = dG s) := Lr (by simp [dG, hl])
  go_enter Tryz.func51, Tryz.ntmps51
  go_wp2_with (go_at_call 83; refine HO.out.mono ?_; rintro e w' ⟨rfl, rfl⟩)
  go_ret
  exact ⟨az hv.out, rfl⟩
 have HY := Lr (wF hp (by omega) hl); have HN := Lr (fun i h => @Bd s i h)
 go_enter Tryz.func51, Tryz.ntmps51
 go_wp2_with (go_at_call 83; refine HO.out.mono ?_; rintro e w' ⟨rfl, rfl⟩)
 clear hl hc0
 go_loopg [14] s.size (fun gg s14 w' => ∃ kk : Nat, kk ≤ s.size ∧ s.size - kk ≤ gg ∧ s14 = .int .i64 kk ∧ Aside (∀ j, j < kk → okQ (chr s j) = true) ∧ w = w')
 case atStart => exact ⟨0, Nat.zero_le _, by omega, by go_num, (fun j hj => absurd hj (Nat.not_lt_zero _)), rfl⟩
 case round =>
  obtain ⟨kk, hkk, hg, rfl, A, rfl⟩ := hrel; have A := Lr A.out; by_cases hlt : kk < s.size
  ·have hltz : (kk : Int) < (s.size : Int) := by omega
   have hc := jr hlt; by_cases h1 : chr s kk < 33
   ·have hv : Hid (false = dG s) := Lr (HN.out kk hlt (by simp [okQ]; omega)).symm
    go_wp2
    go_ret
    exact ⟨az hv.out, rfl⟩
   by_cases h2 : 126 < chr s kk
   ·have hv : Hid (false = dG s) := Lr (HN.out kk hlt (by simp [okQ]; omega)).symm
    go_wp2
    go_ret
    exact ⟨az hv.out, rfl⟩
   have HQ : Hid (okQ (chr s kk) = true) := Lr (by simp [okQ]; omega)
   go_wp2
   go_roundg (s.size - (kk + 1))
   case measure => omega
   case rel =>
    refine ⟨kk + 1, by omega, by omega, by go_num, (show Aside _ from fun j hj => ?_), rfl⟩; by_cases e : j = kk
    ·rw [e]; exact HQ.out
    ·exact A.out j (by omega)
  ·obtain rfl : kk = s.size := by omega
   have hltz : ¬ (s.size : Int) < (s.size : Int) := by omega
   have hv : Hid (true = dG s) := Lr (HY.out A.out).symm
   go_wp2
   go_ret
   exact ⟨az hv.out, rfl⟩
theorem iU (s : ByteArray) (w : World) (hs : s.size ≤ 9223372036854775807) :
 Calls Tryz.prog 97 #[.string s] w fun e w' => e = .returned (.bool (dG s)) ∧ w = w' := by
 by_cases h0 : s.size = 0
 ·have hv : Hid (false = dG s) := Lr (by simp [dG, h0]); have e1 : s.toList = [] := by
   rw [ByteArray.toList_eq]; exact List.length_eq_zero_iff.1 (by simpa using h0)
  have e2 : s.toList.isEmpty = true := by simp [e1]
  clear h0
  go_enter Tryz.func97, Tryz.ntmps97
  go_wp2
  go_ret
  exact ⟨az hv.out, rfl⟩
 have hp : 0 < s.size := by omega
 have e2 : s.toList.isEmpty = false := by
  rw [ByteArray.toList_eq]; cases h : s.data.toList with
  | nil => exact absurd (by have := congrArg List.length h; simpa using this) h0
  | cons a r => rfl
 have e3 : ¬ s.toList = [] := by simpa using e2
 by_cases h40 : 300 < s.size
 ·have hv : Hid (false = dG s) := Lr (by simp [dG]; omega); have h40z : (300 : Int) < (s.size : Int) := by omega
  clear h0
  go_enter Tryz.func97, Tryz.ntmps97
  go_wp2
  go_ret
  exact ⟨az hv.out, rfl⟩
 have h40z : ¬ (300 : Int) < (s.size : Int) := by omega
 have hc0 := jr hp; clear h0; by_cases hl : chr s 0 = 47
 case neg =>
  have hv : Hid (false = dG s) := Lr (by simp [dG, hl])
  go_enter Tryz.func97, Tryz.ntmps97
  go_wp2
  go_ret
  exact ⟨az hv.out, rfl⟩
 have HY := Lr (wF hp (by omega) hl); have HN := Lr (fun i h => @Bd s i h)
 go_enter Tryz.func97, Tryz.ntmps97
 go_wp2
 clear hl hc0
 go_loopg [18] s.size (fun gg s18 w' => ∃ kk : Nat, kk ≤ s.size ∧ s.size - kk ≤ gg ∧ s18 = .int .i64 kk ∧ Aside (∀ j, j < kk → okQ (chr s j) = true) ∧ w = w')
 case atStart => exact ⟨0, Nat.zero_le _, by omega, by go_num, (fun j hj => absurd hj (Nat.not_lt_zero _)), rfl⟩
 case round =>
  obtain ⟨kk, hkk, hg, rfl, A, rfl⟩ := hrel; have A := Lr A.out; by_cases hlt : kk < s.size
  ·have hltz : (kk : Int) < (s.size : Int) := by omega
   have hc := jr hlt; by_cases h1 : chr s kk < 33
   ·have hv : Hid (false = dG s) := Lr (HN.out kk hlt (by simp [okQ]; omega)).symm
    go_wp2
    go_ret
    exact ⟨az hv.out, rfl⟩
   by_cases h2 : 126 < chr s kk
   ·have hv : Hid (false = dG s) := Lr (HN.out kk hlt (by simp [okQ]; omega)).symm
    go_wp2
    go_ret
    exact ⟨az hv.out, rfl⟩
   have HQ : Hid (okQ (chr s kk) = true) := Lr (by simp [okQ]; omega)
   go_wp2
   go_roundg (s.size - (kk + 1))
   case measure => omega
   case rel =>
    refine ⟨kk + 1, by omega, by omega, by go_num, (show Aside _ from fun j hj => ?_), rfl⟩; by_cases e : j = kk
    ·rw [e]; exact HQ.out
    ·exact A.out j (by omega)
  ·obtain rfl : kk = s.size := by omega
   have hltz : ¬ (s.size : Int) < (s.size : Int) := by omega
   have hv : Hid (true = dG s) := Lr (HY.out A.out).symm
   go_wp2
   go_ret
   exact ⟨az hv.out, rfl⟩
end Go.Proofs.YtgohddfnhofjhaaGreatDoor
namespace Go.Proofs.YtgohddfnhofjhaaGreatDoor
open Go.Lib
def dA (s sep : ByteArray) : List ByteArray := splitB sep 0 (countB s sep) s
theorem lC (s sep : ByteArray) (h1 : 1 ≤ sep.size) : (dA s sep).length = countB s sep + 1 := splitB_all sep h1 0 _ s rfl
theorem DF {a b : ByteArray} (h : a.data.toList = b.data.toList) : a = b := by
 cases a; cases b
 simp only at h
 rw [ByteArray.mk.injEq]; exact Array.toList_inj.1 h
theorem qO (l : List UInt8) : (⟨l.toArray⟩ : ByteArray).size = l.length := by simp [ByteArray.size]
theorem mX (sep : ByteArray) : ∀ (k : Nat) (s x : ByteArray), x ∈ splitB sep 0 k s → x.size ≤ s.size
 | 0, s, x, h => by rw [splitB_zero, List.mem_singleton] at h; rw [h]; exact Ls _
 | k + 1, s, x, h => by
  unfold splitB at h; split at h
  ·rw [List.mem_singleton] at h; rw [h]; exact Ls _
  ·rw [List.mem_cons] at h; rcases h with rfl | h
   ·rw [ByteArray.size_extract]; omega
   ·have := mX sep k _ x h; rw [ByteArray.size_extract] at this; omega
theorem kF {s sep x : ByteArray} (h : x ∈ dA s sep) : x.size ≤ s.size := mX sep _ s x h
theorem kG (s sep : ByteArray) (h1 : 1 ≤ sep.size) : (dA s sep).length ≤ s.size + 1 := by
 rw [lC s sep h1]; have := countB_le sep h1 s.size s (Ls _); omega
theorem xZ (s sep : ByteArray) : (⟨(Lib.cut s.data.toList sep.data.toList).1.toArray⟩ : ByteArray).size ≤ s.size ∧ (⟨(Lib.cut s.data.toList sep.data.toList).2.1.toArray⟩ : ByteArray).size ≤ s.size := by
 rw [size_eq s]; generalize s.data.toList = l; rw [qO, qO]; unfold Lib.cut; split
 ·exact ⟨List.length_take_le' _ _, by rw [List.length_drop]; omega⟩
 ·exact ⟨Ls _, Nat.zero_le _⟩
end Go.Proofs.YtgohddfnhofjhaaGreatDoor
namespace Go.Proofs.YtgohddfnhofjhaaGreatDoor
open Go.RowKit Go.Lib
structure Gt where
 ti : Int
 ca : ByteArray
 ke : ByteArray
instance : Inhabited Gt := ⟨⟨0, ByteArray.empty, ByteArray.empty⟩⟩
def F5 (x : Gt) : List Value := [.int .i64 x.ti, .string x.ca, .string x.ke]
def WfT (x : Gt) : Prop := x.ca.size ≤ 9223372036854775807 ∧ x.ke.size ≤ 9223372036854775807
def tK (x p : Gt) (i : Nat) : Bool := decide (0 < i) && decide (x.ti < p.ti)
def oL (x p : Gt) (i : Nat) (b : Bool) : Int :=
 if (aN x.ti 0 1000000000000) = true then 1 else if (!b) = true then 5 else if (!dG x.ke) = true then 3 else if (tK x p i) = true then 8 else 0
end Go.Proofs.YtgohddfnhofjhaaGreatDoor
namespace Go.Proofs.YtgohddfnhofjhaaGreatDoor
open Go.RowKit Go.ChangeShapes Go.WideShapes Go.Deep
set_option maxRecDepth 100000
theorem Dw : Tryz.prog.cellsOf 3 = 1 := by kernel_rfl
theorem Dv : Tryz.prog.cellsOf 9 = 1 := by kernel_rfl
theorem F7 : Tryz.prog.cellsOf 37 = 3 := by kernel_rfl
theorem KW (w : World) : Dec Tryz.prog w 37 F5 WfT := by
 intro H enc n cs x h; obtain ⟨y0, y1, y2, n, _, hl, h0, h1, h2⟩ := trod_struct3 Tryz.underlying37 h; rw [F7] at hl
 match cs, hl with
 | [a, b, c], _ =>
  simp only [Dw, Dv] at h0 h1 h2
  obtain ⟨a', e0, _, w0⟩ := DataW.trod_int Tryz.underlying3 h0; obtain ⟨b', e1, _, w1⟩ := DataW.trod_string Tryz.underlying9 h1; obtain ⟨c', e2, _, w2⟩ := DataW.trod_string Tryz.underlying9 h2; simp at e0 e1 e2
  subst e0 e1 e2; exact ⟨⟨a', b', c'⟩, rfl, by simpa [WfT, maxLen] using ⟨w1, w2⟩⟩
end Go.Proofs.YtgohddfnhofjhaaGreatDoor

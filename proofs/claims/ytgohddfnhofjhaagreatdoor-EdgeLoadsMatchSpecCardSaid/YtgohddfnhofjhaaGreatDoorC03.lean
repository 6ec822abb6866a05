/- Gets among the arguments. -/
import Derived.Test.YtgohddfnhofjhaaGreatDoorC02
import Derived.Lib.Split
import Derived.Lib.SplitLaws
import Derived.Lib.ItoaMem
import Derived.Test.YtgohddfnhofjhaaGreatDoorC01
import Derived.Lib.SmallJoins
namespace Go.Proofs.YtgohddfnhofjhaaGreatDoor
open Go.RowKit
def okQ (n : Int) : Bool := decide (33 ≤ n) && decide (n ≤ 126)
def reqB (s : ByteArray) : Bool := decide (0 < s.size) && decide (s.size ≤ 300) && (chr s 0 == 47) && (List.range s.size).all fun i => okQ (chr s i)
theorem reqB_no {s : ByteArray} {i : Nat} (h : i < s.size) (hi : okQ (chr s i) = false) : reqB s = false := by
 unfold reqB
 have : ((List.range s.size).all fun i => okQ (chr s i)) = false := by
  rw [List.all_eq_false]
  exact ⟨i, List.mem_range.2 h, by simp [hi]⟩
 simp [this]
theorem reqB_yes {s : ByteArray} (h0 : 0 < s.size) (h40 : s.size ≤ 300) (hl : chr s 0 = 47) (h : ∀ i, i < s.size → okQ (chr s i) = true) : reqB s = true := by
 unfold reqB
 have : ((List.range s.size).all fun i => okQ (chr s i)) = true := List.all_eq_true.2 fun i hi => h i (List.mem_range.1 hi)
 simp [this, h0, h40, hl]
theorem reqB_true {s : ByteArray} (h : reqB s = true) : 0 < s.size ∧ s.size ≤ 300 ∧ chr s 0 = 47 ∧ ∀ i, i < s.size → okQ (chr s i) = true := by
 unfold reqB at h
 simp only [Bool.and_eq_true, decide_eq_true_eq, beq_iff_eq, List.all_eq_true, List.mem_range] at h
 exact ⟨h.1.1.1, h.1.1.2, h.1.2, h.2⟩
set_option maxHeartbeats 1000000 in
theorem isReq_any (s : ByteArray) (w : World) (hs : s.size ≤ 9223372036854775807) :
 Calls Tryz.prog 51 #[.string s] w fun e w' => e = .returned (.bool (reqB s)) ∧ w = w' := by
 have ho := out_any (s.size : Int) 1 300 w
 by_cases h0 : s.size = 0
 ·have hv : Hid (false = reqB s) := Lib.hid (by simp [reqB, h0])
  have e0 : outB (s.size : Int) 1 300 = true := by simp [outB, h0]
  rw [e0] at ho
  have HO := Lib.hid ho
  clear h0 ho e0
  go_enter Tryz.func51, Tryz.ntmps51
  go_wp2_with (go_at_call 83; refine HO.out.mono ?_; rintro e w' ⟨rfl, rfl⟩)
  go_ret
  exact ⟨ret_bool hv.out, rfl⟩
 have hp : 0 < s.size := by omega
 by_cases h40 : 300 < s.size
 ·have hv : Hid (false = reqB s) := Lib.hid (by simp [reqB]; omega)
  have e0 : outB (s.size : Int) 1 300 = true := by simp [outB]; omega
  rw [e0] at ho
  have HO := Lib.hid ho
  clear h0 ho e0
  go_enter Tryz.func51, Tryz.ntmps51
  go_wp2_with (go_at_call 83; refine HO.out.mono ?_; rintro e w' ⟨rfl, rfl⟩)
  go_ret
  exact ⟨ret_bool hv.out, rfl⟩
 have e0 : outB (s.size : Int) 1 300 = false := by simp [outB]; omega
 rw [e0] at ho
 have HO := Lib.hid ho
 have hc0 := chr_of hp
 clear h0 ho e0
 by_cases hl : chr s 0 = 47
 case neg =>
  have hv : Hid (false = reqB s) := Lib.hid (by simp [reqB, hl])
  go_enter Tryz.func51, Tryz.ntmps51
  go_wp2_with (go_at_call 83; refine HO.out.mono ?_; rintro e w' ⟨rfl, rfl⟩)
  go_ret
  exact ⟨ret_bool hv.out, rfl⟩
 have HY := Lib.hid (reqB_yes hp (by omega) hl)
 have HN := Lib.hid (fun i h => @reqB_no s i h)
 go_enter Tryz.func51, Tryz.ntmps51
 go_wp2_with (go_at_call 83; refine HO.out.mono ?_; rintro e w' ⟨rfl, rfl⟩)
 clear hl hc0
 go_loopg [14] s.size (fun gg s14 w' => ∃ kk : Nat, kk ≤ s.size ∧ s.size - kk ≤ gg ∧ s14 = .int .i64 kk ∧ Aside (∀ j, j < kk → okQ (chr s j) = true) ∧ w = w')
 case atStart => exact ⟨0, Nat.zero_le _, by omega, by go_num, (fun j hj => absurd hj (Nat.not_lt_zero _)), rfl⟩
 case round =>
  obtain ⟨kk, hkk, hg, rfl, A, rfl⟩ := hrel
  have A := Lib.hid A.out
  by_cases hlt : kk < s.size
  ·have hltz : (kk : Int) < (s.size : Int) := by omega
   have hc := chr_of hlt
   by_cases h1 : chr s kk < 33
   ·have hv : Hid (false = reqB s) := Lib.hid (HN.out kk hlt (by simp [okQ]; omega)).symm
    go_wp2
    go_ret
    exact ⟨ret_bool hv.out, rfl⟩
   by_cases h2 : 126 < chr s kk
   ·have hv : Hid (false = reqB s) := Lib.hid (HN.out kk hlt (by simp [okQ]; omega)).symm
    go_wp2
    go_ret
    exact ⟨ret_bool hv.out, rfl⟩
   have HQ : Hid (okQ (chr s kk) = true) := Lib.hid (by simp [okQ]; omega)
   go_wp2
   go_roundg (s.size - (kk + 1))
   case measure => omega
   case rel =>
    refine ⟨kk + 1, by omega, by omega, by go_num, (show Aside _ from fun j hj => ?_), rfl⟩
    by_cases e : j = kk
    ·rw [e]; exact HQ.out
    ·exact A.out j (by omega)
  ·obtain rfl : kk = s.size := by omega
   have hltz : ¬ (s.size : Int) < (s.size : Int) := by omega
   have hv : Hid (true = reqB s) := Lib.hid (HY.out A.out).symm
   go_wp2
   go_ret
   exact ⟨ret_bool hv.out, rfl⟩
set_option maxHeartbeats 1000000 in
theorem isReqR_any (s : ByteArray) (w : World) (hs : s.size ≤ 9223372036854775807) :
 Calls Tryz.prog 97 #[.string s] w fun e w' => e = .returned (.bool (reqB s)) ∧ w = w' := by
 by_cases h0 : s.size = 0
 ·have hv : Hid (false = reqB s) := Lib.hid (by simp [reqB, h0])
  have e1 : s.toList = [] := by
   rw [ByteArray.toList_eq]
   exact List.length_eq_zero_iff.1 (by simpa using h0)
  have e2 : s.toList.isEmpty = true := by simp [e1]
  clear h0
  go_enter Tryz.func97, Tryz.ntmps97
  go_wp2
  go_ret
  exact ⟨ret_bool hv.out, rfl⟩
 have hp : 0 < s.size := by omega
 have e2 : s.toList.isEmpty = false := by
  rw [ByteArray.toList_eq]
  cases h : s.data.toList with
  | nil => exact absurd (by have := congrArg List.length h; simpa using this) h0
  | cons a r => rfl
 have e3 : ¬ s.toList = [] := by simpa using e2
 by_cases h40 : 300 < s.size
 ·have hv : Hid (false = reqB s) := Lib.hid (by simp [reqB]; omega)
  have h40z : (300 : Int) < (s.size : Int) := by omega
  clear h0
  go_enter Tryz.func97, Tryz.ntmps97
  go_wp2
  go_ret
  exact ⟨ret_bool hv.out, rfl⟩
 have h40z : ¬ (300 : Int) < (s.size : Int) := by omega
 have hc0 := chr_of hp
 clear h0
 by_cases hl : chr s 0 = 47
 case neg =>
  have hv : Hid (false = reqB s) := Lib.hid (by simp [reqB, hl])
  go_enter Tryz.func97, Tryz.ntmps97
  go_wp2
  go_ret
  exact ⟨ret_bool hv.out, rfl⟩
 have HY := Lib.hid (reqB_yes hp (by omega) hl)
 have HN := Lib.hid (fun i h => @reqB_no s i h)
 go_enter Tryz.func97, Tryz.ntmps97
 go_wp2
 clear hl hc0
 go_loopg [18] s.size (fun gg s18 w' => ∃ kk : Nat, kk ≤ s.size ∧ s.size - kk ≤ gg ∧ s18 = .int .i64 kk ∧ Aside (∀ j, j < kk → okQ (chr s j) = true) ∧ w = w')
 case atStart => exact ⟨0, Nat.zero_le _, by omega, by go_num, (fun j hj => absurd hj (Nat.not_lt_zero _)), rfl⟩
 case round =>
  obtain ⟨kk, hkk, hg, rfl, A, rfl⟩ := hrel
  have A := Lib.hid A.out
  by_cases hlt : kk < s.size
  ·have hltz : (kk : Int) < (s.size : Int) := by omega
   have hc := chr_of hlt
   by_cases h1 : chr s kk < 33
   ·have hv : Hid (false = reqB s) := Lib.hid (HN.out kk hlt (by simp [okQ]; omega)).symm
    go_wp2
    go_ret
    exact ⟨ret_bool hv.out, rfl⟩
   by_cases h2 : 126 < chr s kk
   ·have hv : Hid (false = reqB s) := Lib.hid (HN.out kk hlt (by simp [okQ]; omega)).symm
    go_wp2
    go_ret
    exact ⟨ret_bool hv.out, rfl⟩
   have HQ : Hid (okQ (chr s kk) = true) := Lib.hid (by simp [okQ]; omega)
   go_wp2
   go_roundg (s.size - (kk + 1))
   case measure => omega
   case rel =>
    refine ⟨kk + 1, by omega, by omega, by go_num, (show Aside _ from fun j hj => ?_), rfl⟩
    by_cases e : j = kk
    ·rw [e]; exact HQ.out
    ·exact A.out j (by omega)
  ·obtain rfl : kk = s.size := by omega
   have hltz : ¬ (s.size : Int) < (s.size : Int) := by omega
   have hv : Hid (true = reqB s) := Lib.hid (HY.out A.out).symm
   go_wp2
   go_ret
   exact ⟨ret_bool hv.out, rfl⟩
end Go.Proofs.YtgohddfnhofjhaaGreatDoor
namespace Go.Proofs.YtgohddfnhofjhaaGreatDoor
open Go.Lib
def wordsB (s sep : ByteArray) : List ByteArray := splitB sep 0 (countB s sep) s
theorem words_length (s sep : ByteArray) (h1 : 1 ≤ sep.size) : (wordsB s sep).length = countB s sep + 1 := splitB_all sep h1 0 _ s rfl
theorem bytes_ext {a b : ByteArray} (h : a.data.toList = b.data.toList) : a = b := by
 cases a; cases b
 simp only at h
 rw [ByteArray.mk.injEq]
 exact Array.toList_inj.1 h
theorem mk_size (l : List UInt8) : (⟨l.toArray⟩ : ByteArray).size = l.length := by simp [ByteArray.size]
theorem splitB_size (sep : ByteArray) : ∀ (k : Nat) (s x : ByteArray), x ∈ splitB sep 0 k s → x.size ≤ s.size
 | 0, s, x, h => by rw [splitB_zero, List.mem_singleton] at h; rw [h]; exact Nat.le_refl _
 | k + 1, s, x, h => by
  unfold splitB at h
  split at h
  ·rw [List.mem_singleton] at h; rw [h]; exact Nat.le_refl _
  ·rw [List.mem_cons] at h
   rcases h with rfl | h
   ·rw [ByteArray.size_extract]; omega
   ·have := splitB_size sep k _ x h
    rw [ByteArray.size_extract] at this
    omega
theorem words_size {s sep x : ByteArray} (h : x ∈ wordsB s sep) : x.size ≤ s.size := splitB_size sep _ s x h
theorem words_many (s sep : ByteArray) (h1 : 1 ≤ sep.size) : (wordsB s sep).length ≤ s.size + 1 := by
 rw [words_length s sep h1]
 have := countB_le sep h1 s.size s (Nat.le_refl _)
 omega
theorem cut_size (s sep : ByteArray) : (⟨(Lib.cut s.data.toList sep.data.toList).1.toArray⟩ : ByteArray).size ≤ s.size ∧ (⟨(Lib.cut s.data.toList sep.data.toList).2.1.toArray⟩ : ByteArray).size ≤ s.size := by
 rw [size_eq s]
 generalize s.data.toList = l
 rw [mk_size, mk_size]
 unfold Lib.cut
 split
 ·exact ⟨List.length_take_le' _ _, by rw [List.length_drop]; omega⟩
 ·exact ⟨Nat.le_refl _, Nat.zero_le _⟩
end Go.Proofs.YtgohddfnhofjhaaGreatDoor
namespace Go.Proofs.YtgohddfnhofjhaaGreatDoor
open Go.RowKit Go.Lib
structure Gt where
 ti : Int
 ca : ByteArray
 ke : ByteArray
instance : Inhabited Gt := ⟨⟨0, ByteArray.empty, ByteArray.empty⟩⟩
def encT (x : Gt) : List Value := [.int .i64 x.ti, .string x.ca, .string x.ke]
def WfT (x : Gt) : Prop := x.ca.size ≤ 9223372036854775807 ∧ x.ke.size ≤ 9223372036854775807
def ordT (x p : Gt) (i : Nat) : Bool := decide (0 < i) && decide (x.ti < p.ti)
def gnOf (x p : Gt) (i : Nat) (b : Bool) : Int :=
 if (outB x.ti 0 1000000000000) = true then 1 else if (!b) = true then 5 else if (!reqB x.ke) = true then 3 else if (ordT x p i) = true then 8 else 0
end Go.Proofs.YtgohddfnhofjhaaGreatDoor
namespace Go.Proofs.YtgohddfnhofjhaaGreatDoor
open Go.RowKit Go.ChangeShapes Go.WideShapes Go.Deep
set_option maxRecDepth 100000
theorem cellsIntT : Tryz.prog.cellsOf 3 = 1 := by kernel_rfl
theorem cellsStrT : Tryz.prog.cellsOf 9 = 1 := by kernel_rfl
theorem cellsT : Tryz.prog.cellsOf 37 = 3 := by kernel_rfl
theorem decT (w : World) : Dec Tryz.prog w 37 encT WfT := by
 intro H enc n cs x h
 obtain ⟨y0, y1, y2, n, _, hl, h0, h1, h2⟩ := trod_struct3 Tryz.underlying37 h
 rw [cellsT] at hl
 match cs, hl with
 | [a, b, c], _ =>
  simp only [cellsIntT, cellsStrT] at h0 h1 h2
  obtain ⟨a', e0, _, w0⟩ := DataW.trod_int Tryz.underlying3 h0
  obtain ⟨b', e1, _, w1⟩ := DataW.trod_string Tryz.underlying9 h1
  obtain ⟨c', e2, _, w2⟩ := DataW.trod_string Tryz.underlying9 h2
  simp at e0 e1 e2
  subst e0 e1 e2
  exact ⟨⟨a', b', c'⟩, rfl, by simpa [WfT, maxLen] using ⟨w1, w2⟩⟩
end Go.Proofs.YtgohddfnhofjhaaGreatDoor

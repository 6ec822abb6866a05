/- Requests: isRequest of edge and of the reference answer reqB. -/
import Derived.Test.YtehbmnkbmgnkfaaGreatDoorB04
import Derived.Test.YtehbmnkbmgnkfaaGreatDoorB01
import Derived.Laws.BytesArg
import Derived.Lib.Split
import Derived.Lib.SplitLaws
import Derived.Lib.ItoaMem
namespace Go.Proofs.YtehbmnkbmgnkfaaGreatDoor
open Go.RowKit

def okQ (n : Int) : Bool := decide (33 ≤ n) && decide (n ≤ 126)
/-- Is it a request? -/
def reqB (s : ByteArray) : Bool := decide (0 < s.size) && decide (s.size ≤ 300) && (chr s 0 == 47) && (List.range s.size).all fun i => okQ (chr s i)

theorem reqB_no {s : ByteArray} {i : Nat} (h : i < s.size) (hi : okQ (chr s i) = false) : reqB s = false := by
  unfold reqB
  have : ((List.range s.size).all fun i => okQ (chr s i)) = false := by
    rw [List.all_eq_false]
    exact ⟨i, List.mem_range.2 h, by simp [hi]⟩
  simp [this]
theorem reqB_yes {s : ByteArray} (h0 : 0 < s.size) (h40 : s.size ≤ 300) (hl : chr s 0 = 47) (h : ∀ i, i < s.size → okQ (chr s i) = true) : reqB s = true := by
  unfold reqB
  have : ((List.range s.size).all fun i => okQ (chr s i)) = true := List.all_eq_true.2 fun i hi => h i (List.mem_range.1 hi)
  simp [this, h0, h40, hl]
theorem reqB_true {s : ByteArray} (h : reqB s = true) : 0 < s.size ∧ s.size ≤ 300 ∧ chr s 0 = 47 ∧ ∀ i, i < s.size → okQ (chr s i) = true := by
  unfold reqB at h
  simp only [Bool.and_eq_true, decide_eq_true_eq, beq_iff_eq, List.all_eq_true, List.mem_range] at h
  exact ⟨h.1.1.1, h.1.1.2, h.1.2, h.2⟩

set_option maxHeartbeats 1000000 in
theorem isReq_any (s : ByteArray) (w : World) (hs : s.size ≤ 9223372036854775807) :
    Calls Tryz.prog 63 #[.string s] w fun e w' => e = .returned (.bool (reqB s)) ∧ w = w' := by
  have ho := out_any (s.size : Int) 1 300 w
  by_cases h0 : s.size = 0
  · have hv : Hid (false = reqB s) := Lib.hid (by simp [reqB, h0])
    have e0 : outB (s.size : Int) 1 300 = true := by simp [outB, h0]
    rw [e0] at ho
    have HO := Lib.hid ho
    clear h0 ho e0
    go_enter Tryz.func63, Tryz.ntmps63
    go_wp2_with (go_at_call 20; refine HO.out.mono ?_; rintro e w' ⟨rfl, rfl⟩)
    go_ret
    exact ⟨ret_bool hv.out, rfl⟩
  have hp : 0 < s.size := by omega
  by_cases h40 : 300 < s.size
  · have hv : Hid (false = reqB s) := Lib.hid (by simp [reqB]; omega)
    have e0 : outB (s.size : Int) 1 300 = true := by simp [outB]; omega
    rw [e0] at ho
    have HO := Lib.hid ho
    clear h0 ho e0
    go_enter Tryz.func63, Tryz.ntmps63
    go_wp2_with (go_at_call 20; refine HO.out.mono ?_; rintro e w' ⟨rfl, rfl⟩)
    go_ret
    exact ⟨ret_bool hv.out, rfl⟩
  have e0 : outB (s.size : Int) 1 300 = false := by simp [outB]; omega
  rw [e0] at ho
  have HO := Lib.hid ho
  have hc0 := chr_of hp
  clear h0 ho e0
  by_cases hl : chr s 0 = 47
  case neg =>
    have hv : Hid (false = reqB s) := Lib.hid (by simp [reqB, hl])
    go_enter Tryz.func63, Tryz.ntmps63
    go_wp2_with (go_at_call 20; refine HO.out.mono ?_; rintro e w' ⟨rfl, rfl⟩)
    go_ret
    exact ⟨ret_bool hv.out, rfl⟩
  have HY := Lib.hid (reqB_yes hp (by omega) hl)
  have HN := Lib.hid (fun i h => @reqB_no s i h)
  go_enter Tryz.func63, Tryz.ntmps63
  go_wp2_with (go_at_call 20; refine HO.out.mono ?_; rintro e w' ⟨rfl, rfl⟩)
  clear hl hc0
  go_loopg [14] s.size (fun gg s14 w' => ∃ kk : Nat, kk ≤ s.size ∧ s.size - kk ≤ gg ∧ s14 = .int .i64 kk ∧ Aside (∀ j, j < kk → okQ (chr s j) = true) ∧ w = w')
  case atStart => exact ⟨0, Nat.zero_le _, by omega, by go_num, (fun j hj => absurd hj (Nat.not_lt_zero _)), rfl⟩
  case round =>
    obtain ⟨kk, hkk, hg, rfl, A, rfl⟩ := hrel
    have A := Lib.hid A.out
    by_cases hlt : kk < s.size
    · have hltz : (kk : Int) < (s.size : Int) := by omega
      have hc := chr_of hlt
      by_cases h1 : chr s kk < 33
      · have hv : Hid (false = reqB s) := Lib.hid (HN.out kk hlt (by simp [okQ]; omega)).symm
        go_wp2
        go_ret
        exact ⟨ret_bool hv.out, rfl⟩
      by_cases h2 : 126 < chr s kk
      · have hv : Hid (false = reqB s) := Lib.hid (HN.out kk hlt (by simp [okQ]; omega)).symm
        go_wp2
        go_ret
        exact ⟨ret_bool hv.out, rfl⟩
      have HQ : Hid (okQ (chr s kk) = true) := Lib.hid (by simp [okQ]; omega)
      go_wp2
      go_roundg (s.size - (kk + 1))
      case measure => omega
      case rel =>
        refine ⟨kk + 1, by omega, by omega, by go_num, (show Aside _ from fun j hj => ?_), rfl⟩
        by_cases e : j = kk
        · rw [e]; exact HQ.out
        · exact A.out j (by omega)
    · obtain rfl : kk = s.size := by omega
      have hltz : ¬ (s.size : Int) < (s.size : Int) := by omega
      have hv : Hid (true = reqB s) := Lib.hid (HY.out A.out).symm
      go_wp2
      go_ret
      exact ⟨ret_bool hv.out, rfl⟩

end Go.Proofs.YtehbmnkbmgnkfaaGreatDoor

/- decoded, of a string without %. -/
namespace Go.Proofs.YtehbmnkbmgnkfaaGreatDoor
open Go.RowKit

def encB (n : Int) : List Value := [.int .u8 n]
theorem encB_len (n : Int) : (encB n).length = 1 := rfl
theorem infoB : (Tryz.prog.info? 5).map (fun i => (i.zero, i.size, i.bytes)) = some (some (.int .u8 0), 1, 1) := by kernel_rfl
theorem slB : SlT Tryz.prog 85 5 1 1 := by
  obtain ⟨i0, hi, hz0, hz1, hz2⟩ := info_parts infoB
  exact ⟨i0, _, Tryz.underlying85, hi, hz0, hz1, hz2, rfl, by decide, by decide⟩
/-- The first n bytes of a string. -/
def bytL (s : ByteArray) (n : Nat) : List Int := (List.range n).map fun i => chr s i
theorem bytL_len (s : ByteArray) (n : Nat) : (bytL s n).length = n := by simp [bytL]
theorem bytL_next (s : ByteArray) (n : Nat) : bytL s n ++ [chr s n] = bytL s (n + 1) := by simp [bytL, List.range_succ]
theorem bytL_get {s : ByteArray} {n i : Nat} (h : i < n) : (bytL s n)[i]? = some (chr s i) := by
  unfold bytL
  rw [List.getElem?_map, List.getElem?_range h]
  rfl
theorem bytL_all (s : ByteArray) : strOfNums (bytL s s.size) = s := by
  have e : (bytL s s.size).map (fun n => UInt8.ofNat n.toNat) = s.data.toList := by
    apply List.ext_getElem?
    intro i
    by_cases hi : i < s.size
    · have hl : i < s.data.toList.length := hi
      rw [List.getElem?_map, bytL_get hi, List.getElem?_eq_getElem hl, ← chr_of hi]
      show some (UInt8.ofNat ((s[i]'hi).toNat : Int).toNat) = _
      rw [Int.toNat_natCast, UInt8.ofNat_toNat]
      rfl
    · have hl : ¬ i < s.data.toList.length := hi
      rw [List.getElem?_eq_none (by rw [List.length_map, bytL_len]; omega), List.getElem?_eq_none (by omega)]
  unfold strOfNums
  rw [e]

theorem conv_own (w : World) (l : List Int) (v : Value) (hl : Sl w 1 encB v l) : (convert 85 9 v).run Tryz.prog w = .ok (.string (strOfNums l)) w := by
  obtain ⟨ao, cap, rfl, _, _, hnil, hel⟩ := hl
  cases ao with
  | none =>
    have := hnil rfl
    obtain rfl : l = [] := List.length_eq_zero_iff.1 (by omega)
    exact run_convert_bytes_nil (P := Tryz.prog) w 85 5 Tryz.underlying85 Tryz.underlying5 0 cap 9 Tryz.underlying9
  | some ad =>
    obtain ⟨b, off, spot⟩ := ad
    by_cases he : l = []
    · subst he
      have h0 : (loadCells ⟨b, off, spot⟩ 0).run Tryz.prog w = .ok (([] : List Int).map (Value.int .u8)).toArray w := by
        have := run_loadCells_list (P := Tryz.prog) w ⟨b, off, spot⟩ [] (fun j v hj => by simp at hj)
        simpa using this
      exact (run_convert_bytes_string w 85 9 5 _ _ cap Tryz.underlying85 Tryz.underlying5 Tryz.underlying9).trans (run_bytesToString w _ 0 cap [] h0)
    have hsp : spot = none := by
      obtain ⟨b', off', e, _⟩ := hel 0 (l[0]'(List.length_pos_iff.2 he)) (by simp)
      simp only [Option.some.injEq, Addr.mk.injEq] at e
      exact e.2.2
    subst hsp
    refine run_convert_bytes_arg (P := Tryz.prog) w 85 5 Tryz.underlying85 Tryz.underlying5 b off l.length cap l rfl (fun i hi => ?_) 9 Tryz.underlying9
    obtain ⟨b', off', e, hc⟩ := hel i l[i] (by simp)
    simp only [Option.some.injEq, Addr.mk.injEq, and_true] at e
    obtain ⟨rfl, rfl⟩ := e
    have := hc 0 _ rfl
    simp only [Nat.mul_one, Nat.add_zero] at this
    rw [this]
    simp [List.getD_eq_getElem?_getD, hi]

end Go.Proofs.YtehbmnkbmgnkfaaGreatDoor

/- Cutting and splitting at one byte, and decimal numerals; plain lists of bytes. -/
namespace Go.Proofs.YtehbmnkbmgnkfaaGreatDoor
open Go.Lib

theorem index_one : ∀ (a b : List UInt8) (c : UInt8), c ∉ a → index (a ++ c :: b) [c] = a.length
  | [], b, c, _ => by unfold index; simp
  | x :: a, b, c, h => by
    have hx : (c == x) = false := by
      rw [beq_eq_false_iff_ne]; intro e; exact h (by simp [e])
    have ih := index_one a b c (fun hm => h (List.mem_cons_of_mem _ hm))
    show index (x :: (a ++ c :: b)) [c] = _
    unfold index
    have h1 : ([c].isPrefixOf (x :: (a ++ c :: b))) = false := by simp [List.isPrefixOf, hx]
    rw [if_neg (by simp [h1]), ih]
    have : ((a.length : Int) == -1) = false := by rw [beq_eq_false_iff_ne]; omega
    rw [this]
    simp
theorem index_none1 : ∀ (a : List UInt8) (c : UInt8), c ∉ a → index a [c] = -1
  | [], c, _ => rfl
  | x :: a, c, h => by
    have hx : (c == x) = false := by
      rw [beq_eq_false_iff_ne]; intro e; exact h (by simp [e])
    have ih := index_none1 a c (fun hm => h (List.mem_cons_of_mem _ hm))
    unfold index
    have h1 : ([c].isPrefixOf (x :: a)) = false := by simp [List.isPrefixOf, hx]
    rw [if_neg (by simp [h1]), ih]
    rfl
theorem cut_one {a b : List UInt8} {c : UInt8} (h : c ∉ a) : cut (a ++ c :: b) [c] = (a, b, true) := by
  unfold cut
  rw [index_one a b c h, if_pos (by omega)]
  simp
theorem cut_none {a : List UInt8} {c : UInt8} (h : c ∉ a) : cut a [c] = (a, [], false) := by
  unfold cut
  rw [index_none1 a c h, if_neg (by omega)]
theorem count_one {a b : List UInt8} {c : UInt8} (h : c ∉ a) : count (a ++ c :: b) [c] = 1 + count b [c] := by
  rw [count_hit (by simp) (index_one a b c h)]
  simp
theorem count_none1 {a : List UInt8} {c : UInt8} (h : c ∉ a) : count a [c] = 0 := count_miss (index_none1 a c h)
theorem split_one {a b : List UInt8} {c : UInt8} (h : c ∉ a) : split (a ++ c :: b) [c] = a :: split b [c] := by
  unfold split
  rw [count_one h, Nat.add_comm, splitK, index_one a b c h]
  have : ((a.length : Int) == -1) = false := by rw [beq_eq_false_iff_ne]; omega
  rw [this]
  simp
theorem split_none {a : List UInt8} {c : UInt8} (h : c ∉ a) : split a [c] = [a] := by
  unfold split
  rw [count_none1 h, splitK]
/-- The pieces of a string between signs of one kind. -/
def wordsB (s sep : ByteArray) : List ByteArray := splitB sep 0 (countB s sep) s
theorem words_data (s sep : ByteArray) : (wordsB s sep).map (·.data.toList) = split s.data.toList sep.data.toList := splitB_data _ _ _ _
theorem words_length (s sep : ByteArray) (h1 : 1 ≤ sep.size) : (wordsB s sep).length = countB s sep + 1 := splitB_all sep h1 0 _ s rfl
theorem bytes_ext {a b : ByteArray} (h : a.data.toList = b.data.toList) : a = b := by
  cases a; cases b
  simp only at h
  rw [ByteArray.mk.injEq]
  exact Array.toList_inj.1 h
theorem mk_toArray (l : List UInt8) : (⟨l.toArray⟩ : ByteArray).data.toList = l := by simp
theorem mk_size (l : List UInt8) : (⟨l.toArray⟩ : ByteArray).size = l.length := by simp [ByteArray.size]
theorem words_one {s sep : ByteArray} {a b : List UInt8} {c : UInt8} (hsep : sep.data.toList = [c]) (hs : s.data.toList = a ++ c :: b) (h : c ∉ a) :
    wordsB s sep = ⟨a.toArray⟩ :: wordsB ⟨b.toArray⟩ sep := by
  have e : (wordsB s sep).map (·.data.toList) = (((⟨a.toArray⟩ : ByteArray)) :: wordsB ⟨b.toArray⟩ sep).map (·.data.toList) := by
    rw [words_data, List.map_cons, words_data, hs, hsep, split_one h]
  exact (List.map_inj_right (fun x y hxy => bytes_ext hxy)).1 e
theorem words_none {s sep : ByteArray} {c : UInt8} (hsep : sep.data.toList = [c]) (h : c ∉ s.data.toList) : wordsB s sep = [s] := by
  have e : (wordsB s sep).map (·.data.toList) = [s].map (·.data.toList) := by
    rw [words_data, hsep, split_none h]; rfl
  exact (List.map_inj_right (fun x y hxy => bytes_ext hxy)).1 e

theorem splitB_size (sep : ByteArray) : ∀ (k : Nat) (s x : ByteArray), x ∈ splitB sep 0 k s → x.size ≤ s.size
  | 0, s, x, h => by rw [splitB_zero, List.mem_singleton] at h; rw [h]; exact Nat.le_refl _
  | k + 1, s, x, h => by
    unfold splitB at h
    split at h
    · rw [List.mem_singleton] at h; rw [h]; exact Nat.le_refl _
    · rw [List.mem_cons] at h
      rcases h with rfl | h
      · rw [ByteArray.size_extract]; omega
      · have := splitB_size sep k _ x h
        rw [ByteArray.size_extract] at this
        omega
theorem words_size {s sep x : ByteArray} (h : x ∈ wordsB s sep) : x.size ≤ s.size := splitB_size sep _ s x h
theorem words_many (s sep : ByteArray) (h1 : 1 ≤ sep.size) : (wordsB s sep).length ≤ s.size + 1 := by
  rw [words_length s sep h1]
  have := countB_le sep h1 s.size s (Nat.le_refl _)
  omega
theorem cut_size (s sep : ByteArray) : (⟨(Lib.cut s.data.toList sep.data.toList).1.toArray⟩ : ByteArray).size ≤ s.size ∧ (⟨(Lib.cut s.data.toList sep.data.toList).2.1.toArray⟩ : ByteArray).size ≤ s.size := by
  rw [size_eq s]
  generalize s.data.toList = l
  rw [mk_size, mk_size]
  unfold Lib.cut
  split
  · exact ⟨List.length_take_le' _ _, by rw [List.length_drop]; omega⟩
  · exact ⟨Nat.le_refl _, Nat.zero_le _⟩

/-- The value of decimal digits. -/
def decV : List UInt8 → Int → Int
  | [], n => n
  | c :: l, n => decV l (10 * n + ((c.toNat : Int) - 48))
theorem decV_append : ∀ (l m : List UInt8) (n : Int), decV (l ++ m) n = decV m (decV l n)
  | [], _, _ => rfl
  | c :: l, m, n => by simp [decV, decV_append l m]
theorem decDigits_val (u : Nat) : decV (decDigits u) 0 = u := by
  induction u using Nat.strongRecOn with
  | _ u ih =>
    by_cases h : u < 10
    · rw [decDigits, dif_pos h]
      have : (UInt8.ofNat (48 + u)).toNat = 48 + u := by rw [UInt8.toNat_ofNat']; omega
      simp only [decV, this]
      omega
    · rw [decDigits, dif_neg h, decV_append, ih (u / 10) (by omega)]
      have : (UInt8.ofNat (48 + u % 10)).toNat = 48 + u % 10 := by rw [UInt8.toNat_ofNat']; omega
      simp only [decV, this]
      omega
theorem decDigits_digit (u : Nat) : ∀ c, c ∈ decDigits u → 48 ≤ c.toNat ∧ c.toNat ≤ 57 := by
  induction u using Nat.strongRecOn with
  | _ u ih =>
    intro c hc
    by_cases h : u < 10
    · rw [decDigits, dif_pos h, List.mem_singleton] at hc
      subst hc
      rw [UInt8.toNat_ofNat']; omega
    · rw [decDigits, dif_neg h, List.mem_append, List.mem_singleton] at hc
      rcases hc with hc | rfl
      · exact ih (u / 10) (by omega) c hc
      · rw [UInt8.toNat_ofNat']; omega
/-- No needless 0 ahead. -/
theorem decDigits_head (u : Nat) : ∃ c r, decDigits u = c :: r ∧ (0 < u → c.toNat ≠ 48) ∧ (u < 10 → r = []) := by
  induction u using Nat.strongRecOn with
  | _ u ih =>
    by_cases h : u < 10
    · rw [decDigits, dif_pos h]
      refine ⟨_, _, rfl, fun hu => ?_, fun _ => rfl⟩
      rw [UInt8.toNat_ofNat']; omega
    · obtain ⟨c, r, h1, h2, _⟩ := ih (u / 10) (by omega)
      rw [decDigits, dif_neg h, h1]
      exact ⟨c, r ++ [_], rfl, fun _ => h2 (by omega), fun h' => absurd h' h⟩
theorem decDigits_len {u k : Nat} (hk : 1 ≤ k) (h : u < 10 ^ k) : (decDigits u).length ≤ k := by
  induction k generalizing u with
  | zero => omega
  | succ k ih =>
    by_cases h1 : u < 10
    · rw [decDigits, dif_pos h1]; simp
    · rw [decDigits, dif_neg h1]
      have hk1 : 1 ≤ k := by
        rcases Nat.eq_zero_or_pos k with rfl | h'
        · simp at h; omega
        · exact h'
      have := ih hk1 (u := u / 10) (by rw [Nat.pow_succ] at h; omega)
      simp; omega
end Go.Proofs.YtehbmnkbmgnkfaaGreatDoor

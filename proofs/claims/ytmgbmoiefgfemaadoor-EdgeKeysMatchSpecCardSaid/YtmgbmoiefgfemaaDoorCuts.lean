/- Cutting and splitting at one byte, and decimal numerals; plain lists of bytes. -/
import Derived.Lib.Split
import Derived.Lib.SplitLaws
import Derived.Lib.ItoaMem
namespace Go.Proofs.YtmgbmoiefgfemaaDoor
open Go.Lib

theorem index_one : ∀ (a b : List UInt8) (c : UInt8), c ∉ a → index (a ++ c :: b) [c] = a.length
  | [], b, c, _ => by unfold index; simp
  | x :: a, b, c, h => by
    have hx : (c == x) = false := by
      rw [beq_eq_false_iff_ne]; intro e; exact h (by simp [e])
    have ih := index_one a b c (fun hm => h (List.mem_cons_of_mem _ hm))
    show index (x :: (a ++ c :: b)) [c] = _
    unfold index
    have h1 : ([c].isPrefixOf (x :: (a ++ c :: b))) = false := by simp [List.isPrefixOf, hx]
    rw [if_neg (by simp [h1]), ih]
    have : ((a.length : Int) == -1) = false := by rw [beq_eq_false_iff_ne]; omega
    rw [this]
    simp
theorem index_none1 : ∀ (a : List UInt8) (c : UInt8), c ∉ a → index a [c] = -1
  | [], c, _ => rfl
  | x :: a, c, h => by
    have hx : (c == x) = false := by
      rw [beq_eq_false_iff_ne]; intro e; exact h (by simp [e])
    have ih := index_none1 a c (fun hm => h (List.mem_cons_of_mem _ hm))
    unfold index
    have h1 : ([c].isPrefixOf (x :: a)) = false := by simp [List.isPrefixOf, hx]
    rw [if_neg (by simp [h1]), ih]
    rfl
theorem cut_one {a b : List UInt8} {c : UInt8} (h : c ∉ a) : cut (a ++ c :: b) [c] = (a, b, true) := by
  unfold cut
  rw [index_one a b c h, if_pos (by omega)]
  simp
theorem cut_none {a : List UInt8} {c : UInt8} (h : c ∉ a) : cut a [c] = (a, [], false) := by
  unfold cut
  rw [index_none1 a c h, if_neg (by omega)]
theorem count_one {a b : List UInt8} {c : UInt8} (h : c ∉ a) : count (a ++ c :: b) [c] = 1 + count b [c] := by
  rw [count_hit (by simp) (index_one a b c h)]
  simp
theorem count_none1 {a : List UInt8} {c : UInt8} (h : c ∉ a) : count a [c] = 0 := count_miss (index_none1 a c h)
theorem split_one {a b : List UInt8} {c : UInt8} (h : c ∉ a) : split (a ++ c :: b) [c] = a :: split b [c] := by
  unfold split
  rw [count_one h, Nat.add_comm, splitK, index_one a b c h]
  have : ((a.length : Int) == -1) = false := by rw [beq_eq_false_iff_ne]; omega
  rw [this]
  simp
theorem split_none {a : List UInt8} {c : UInt8} (h : c ∉ a) : split a [c] = [a] := by
  unfold split
  rw [count_none1 h, splitK]
/-- The pieces of a string between signs of one kind. -/
def wordsB (s sep : ByteArray) : List ByteArray := splitB sep 0 (countB s sep) s
theorem words_data (s sep : ByteArray) : (wordsB s sep).map (·.data.toList) = split s.data.toList sep.data.toList := splitB_data _ _ _ _
theorem words_length (s sep : ByteArray) (h1 : 1 ≤ sep.size) : (wordsB s sep).length = countB s sep + 1 := splitB_all sep h1 0 _ s rfl
theorem bytes_ext {a b : ByteArray} (h : a.data.toList = b.data.toList) : a = b := by
  cases a; cases b
  simp only at h
  rw [ByteArray.mk.injEq]
  exact Array.toList_inj.1 h
theorem mk_toArray (l : List UInt8) : (⟨l.toArray⟩ : ByteArray).data.toList = l := by simp
theorem mk_size (l : List UInt8) : (⟨l.toArray⟩ : ByteArray).size = l.length := by simp [ByteArray.size]
theorem words_one {s sep : ByteArray} {a b : List UInt8} {c : UInt8} (hsep : sep.data.toList = [c]) (hs : s.data.toList = a ++ c :: b) (h : c ∉ a) :
    wordsB s sep = ⟨a.toArray⟩ :: wordsB ⟨b.toArray⟩ sep := by
  have e : (wordsB s sep).map (·.data.toList) = (((⟨a.toArray⟩ : ByteArray)) :: wordsB ⟨b.toArray⟩ sep).map (·.data.toList) := by
    rw [words_data, List.map_cons, words_data, hs, hsep, split_one h]
  exact (List.map_inj_right (fun x y hxy => bytes_ext hxy)).1 e
theorem words_none {s sep : ByteArray} {c : UInt8} (hsep : sep.data.toList = [c]) (h : c ∉ s.data.toList) : wordsB s sep = [s] := by
  have e : (wordsB s sep).map (·.data.toList) = [s].map (·.data.toList) := by
    rw [words_data, hsep, split_none h]; rfl
  exact (List.map_inj_right (fun x y hxy => bytes_ext hxy)).1 e

theorem splitB_size (sep : ByteArray) : ∀ (k : Nat) (s x : ByteArray), x ∈ splitB sep 0 k s → x.size ≤ s.size
  | 0, s, x, h => by rw [splitB_zero, List.mem_singleton] at h; rw [h]; exact Nat.le_refl _
  | k + 1, s, x, h => by
    unfold splitB at h
    split at h
    · rw [List.mem_singleton] at h; rw [h]; exact Nat.le_refl _
    · rw [List.mem_cons] at h
      rcases h with rfl | h
      · rw [ByteArray.size_extract]; omega
      · have := splitB_size sep k _ x h
        rw [ByteArray.size_extract] at this
        omega
theorem words_size {s sep x : ByteArray} (h : x ∈ wordsB s sep) : x.size ≤ s.size := splitB_size sep _ s x h
theorem words_many (s sep : ByteArray) (h1 : 1 ≤ sep.size) : (wordsB s sep).length ≤ s.size + 1 := by
  rw [words_length s sep h1]
  have := countB_le sep h1 s.size s (Nat.le_refl _)
  omega
theorem cut_size (s sep : ByteArray) : (⟨(Lib.cut s.data.toList sep.data.toList).1.toArray⟩ : ByteArray).size ≤ s.size ∧ (⟨(Lib.cut s.data.toList sep.data.toList).2.1.toArray⟩ : ByteArray).size ≤ s.size := by
  rw [size_eq s]
  generalize s.data.toList = l
  rw [mk_size, mk_size]
  unfold Lib.cut
  split
  · exact ⟨List.length_take_le' _ _, by rw [List.length_drop]; omega⟩
  · exact ⟨Nat.le_refl _, Nat.zero_le _⟩

/-- The value of decimal digits. -/
def decV : List UInt8 → Int → Int
  | [], n => n
  | c :: l, n => decV l (10 * n + ((c.toNat : Int) - 48))
theorem decV_append : ∀ (l m : List UInt8) (n : Int), decV (l ++ m) n = decV m (decV l n)
  | [], _, _ => rfl
  | c :: l, m, n => by simp [decV, decV_append l m]
theorem decDigits_val (u : Nat) : decV (decDigits u) 0 = u := by
  induction u using Nat.strongRecOn with
  | _ u ih =>
    by_cases h : u < 10
    · rw [decDigits, dif_pos h]
      have : (UInt8.ofNat (48 + u)).toNat = 48 + u := by rw [UInt8.toNat_ofNat']; omega
      simp only [decV, this]
      omega
    · rw [decDigits, dif_neg h, decV_append, ih (u / 10) (by omega)]
      have : (UInt8.ofNat (48 + u % 10)).toNat = 48 + u % 10 := by rw [UInt8.toNat_ofNat']; omega
      simp only [decV, this]
      omega
theorem decDigits_digit (u : Nat) : ∀ c, c ∈ decDigits u → 48 ≤ c.toNat ∧ c.toNat ≤ 57 := by
  induction u using Nat.strongRecOn with
  | _ u ih =>
    intro c hc
    by_cases h : u < 10
    · rw [decDigits, dif_pos h, List.mem_singleton] at hc
      subst hc
      rw [UInt8.toNat_ofNat']; omega
    · rw [decDigits, dif_neg h, List.mem_append, List.mem_singleton] at hc
      rcases hc with hc | rfl
      · exact ih (u / 10) (by omega) c hc
      · rw [UInt8.toNat_ofNat']; omega
/-- No needless 0 ahead. -/
theorem decDigits_head (u : Nat) : ∃ c r, decDigits u = c :: r ∧ (0 < u → c.toNat ≠ 48) ∧ (u < 10 → r = []) := by
  induction u using Nat.strongRecOn with
  | _ u ih =>
    by_cases h : u < 10
    · rw [decDigits, dif_pos h]
      refine ⟨_, _, rfl, fun hu => ?_, fun _ => rfl⟩
      rw [UInt8.toNat_ofNat']; omega
    · obtain ⟨c, r, h1, h2, _⟩ := ih (u / 10) (by omega)
      rw [decDigits, dif_neg h, h1]
      exact ⟨c, r ++ [_], rfl, fun _ => h2 (by omega), fun h' => absurd h' h⟩
theorem decDigits_len {u k : Nat} (hk : 1 ≤ k) (h : u < 10 ^ k) : (decDigits u).length ≤ k := by
  induction k generalizing u with
  | zero => omega
  | succ k ih =>
    by_cases h1 : u < 10
    · rw [decDigits, dif_pos h1]; simp
    · rw [decDigits, dif_neg h1]
      have hk1 : 1 ≤ k := by
        rcases Nat.eq_zero_or_pos k with rfl | h'
        · simp at h; omega
        · exact h'
      have := ih hk1 (u := u / 10) (by rw [Nat.pow_succ] at h; omega)
      simp; omega
end Go.Proofs.YtmgbmoiefgfemaaDoor

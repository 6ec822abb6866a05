/- Gets: their fault, their texts, how these are read, and that they are read as they were written; plain. -/
import Derived.Test.YtmgbmoiefgfemaaDoorReq
import Derived.Test.YtmgbmoiefgfemaaDoorCuts
namespace Go.Proofs.YtmgbmoiefgfemaaDoor
open Go.RowKit Go.Lib

structure Gt where
  ti : Int
  ca : ByteArray
  ke : ByteArray
instance : Inhabited Gt := ⟨⟨0, ByteArray.empty, ByteArray.empty⟩⟩
def encT (x : Gt) : List Value := [.int .i64 x.ti, .string x.ca, .string x.ke]
theorem encT_len (x : Gt) : (encT x).length = 3 := rfl
def WfT (x : Gt) : Prop := x.ca.size ≤ 9223372036854775807 ∧ x.ke.size ≤ 9223372036854775807
def ordT (x p : Gt) (i : Nat) : Bool := decide (0 < i) && decide (x.ti < p.ti)
def gnOf (x p : Gt) (i : Nat) (b : Bool) : Int :=
  if (outB x.ti 0 1000000000000) = true then 1 else if (!b) = true then 5 else if (!reqB x.ke) = true then 3 else if (ordT x p i) = true then 8 else 0
def gcOf (x p : Gt) (i : Nat) : Int :=
  if (outB x.ti 0 1000000000000) = true then 1 else if (!nameB x.ca) = true then 5 else if (!reqB x.ke) = true then 3 else if (ordT x p i) = true then 8 else 0
theorem gcOf_gn (x p : Gt) (i : Nat) : gnOf x p i (nameB x.ca) = gcOf x p i := rfl
def gcAt (l : List Gt) (i : Nat) : Int := gcOf (l.getD i default) (l.getD (i - 1) default) i
/-- The fault of gets. -/
def checkT (l : List Gt) : Int := if 1000 < l.length then 2 else FF (gcAt l) l.length
def goodT (x : Gt) : Prop := (0 ≤ x.ti ∧ x.ti ≤ 1000000000000) ∧ nameB x.ca = true ∧ reqB x.ke = true
theorem gcOf_zero {x p : Gt} {i : Nat} (h : gcOf x p i = 0) : goodT x := by
  unfold gcOf at h
  split at h
  · simp at h
  rename_i h1
  split at h
  · simp at h
  rename_i h2
  split at h
  · simp at h
  rename_i h3
  refine ⟨?_, by simpa using h2, by simpa using h3⟩
  simp only [outB, Bool.or_eq_true, decide_eq_true_eq, not_or] at h1
  omega
theorem gcAt_good {l : List Gt} {k : Nat} (h : ∀ j, j < k → gcAt l j = 0) (hk : k ≤ l.length) : ∀ x, x ∈ l.take k → goodT x := by
  intro x hx
  obtain ⟨i, hi, rfl⟩ := List.mem_iff_getElem.1 hx
  have hi2 : i < k := by simp at hi; omega
  have h1 := gcOf_zero (h i hi2)
  rw [getD_of (List.getElem?_eq_getElem (show i < l.length by omega))] at h1
  rw [List.getElem_take]
  exact h1
theorem checkT_zero {l : List Gt} (h : checkT l = 0) : l.length ≤ 1000 ∧ ∀ x, x ∈ l → goodT x := by
  unfold checkT at h
  split at h
  · simp at h
  rename_i h0
  refine ⟨by omega, fun x hx => gcAt_good (FF_eq_zero h) (Nat.le_refl _) x (by rw [List.take_length]; exact hx)⟩

def numOk (s : ByteArray) : Bool := decide (0 < s.size) && decide (s.size ≤ 15) && !(decide (1 < s.size) && (chr s 0 == 48)) && (List.range s.size).all fun i => digitI (chr s i)
/-- The value of the first n digits. -/
def numV (s : ByteArray) : Nat → Int
  | 0 => 0
  | n + 1 => 10 * numV s n + (chr s n - 48)
/-- The number that a string is. -/
def numR (s : ByteArray) : Int := if numOk s = true then numV s s.size else 0
theorem numOk_no {s : ByteArray} {i : Nat} (h : i < s.size) (hi : digitI (chr s i) = false) : numOk s = false := by
  unfold numOk
  have : ((List.range s.size).all fun i => digitI (chr s i)) = false := by
    rw [List.all_eq_false]
    exact ⟨i, List.mem_range.2 h, by simp [hi]⟩
  simp [this]
theorem numOk_yes {s : ByteArray} (h0 : 0 < s.size) (h15 : s.size ≤ 15) (hl : (decide (1 < s.size) && (chr s 0 == 48)) = false) (h : ∀ i, i < s.size → digitI (chr s i) = true) : numOk s = true := by
  unfold numOk
  have : ((List.range s.size).all fun i => digitI (chr s i)) = true := List.all_eq_true.2 fun i hi => h i (List.mem_range.1 hi)
  simp [this, h0, h15, hl]
theorem numV_bound {s : ByteArray} : ∀ {n : Nat}, (∀ j, j < n → digitI (chr s j) = true) → 0 ≤ numV s n ∧ numV s n < 10 ^ n
  | 0, _ => by simp [numV]
  | n + 1, h => by
    have h1 := numV_bound (s := s) (n := n) (fun j hj => h j (by omega))
    have h2 := h n (by omega)
    simp only [digitI, Bool.and_eq_true, decide_eq_true_eq] at h2
    simp only [numV]
    rw [Int.pow_succ]
    omega
theorem numV_small {s : ByteArray} {n : Nat} (hn : n ≤ 15) (h : ∀ j, j < n → digitI (chr s j) = true) : 0 ≤ numV s n ∧ numV s n < 1000000000000000 := by
  have h1 := numV_bound h
  have h2 : (10 : Nat) ^ n ≤ 10 ^ 15 := Nat.pow_le_pow_right (by decide) hn
  have h3 : ((10 ^ n : Nat) : Int) = (10 : Int) ^ n := by simp
  have h4 : (10 : Nat) ^ 15 = 1000000000000000 := by decide
  rw [← h3] at h1
  omega
theorem chr_at {s : ByteArray} {l : List UInt8} (h : s.data.toList = l) {i : Nat} {c : UInt8} (hc : l[i]? = some c) : chr s i = (c.toNat : Int) ∧ i < s.size := by
  have hi : i < s.size := by
    rw [size_eq, h]
    exact (List.getElem?_eq_some_iff.1 hc).1
  refine ⟨?_, hi⟩
  rw [← chr_of hi]
  congr 2
  subst h
  rw [Array.getElem?_toList] at hc
  have := (Array.getElem?_eq_some_iff.1 hc).2
  rw [← this]
  rfl
theorem numV_dec {s : ByteArray} : ∀ (n : Nat), n ≤ s.size → numV s n = decV (s.data.toList.take n) 0
  | 0, _ => by simp [numV, decV]
  | n + 1, h => by
    have hn : n < s.data.toList.length := by rw [← size_eq]; omega
    have hc : s.data.toList[n]? = some s.data.toList[n] := List.getElem?_eq_getElem hn
    rw [List.take_add_one, hc, decV_append, ← numV_dec n (by omega)]
    simp only [numV, Option.toList, decV]
    rw [(chr_at rfl hc).1]

theorem num_dec {u : Nat} (h : u < 1000000000000000) : numOk ⟨(decDigits u).toArray⟩ = true ∧ numR ⟨(decDigits u).toArray⟩ = u := by
  have hd : (⟨(decDigits u).toArray⟩ : ByteArray).data.toList = decDigits u := by simp
  have hs : (⟨(decDigits u).toArray⟩ : ByteArray).size = (decDigits u).length := by simp [ByteArray.size]
  obtain ⟨c, r, h1, h2, h3⟩ := decDigits_head u
  have hlen : (decDigits u).length ≤ 15 := decDigits_len (by decide) (by simpa using h)
  have hok : numOk ⟨(decDigits u).toArray⟩ = true := by
    refine numOk_yes (by rw [hs, h1]; simp) (by rw [hs]; exact hlen) ?_ fun i hi => ?_
    · have hc := (chr_at hd (i := 0) (c := c) (by rw [h1]; rfl)).1
      rw [hc]
      by_cases hu : 0 < u
      · have : ((c.toNat : Int) == 48) = false := by
          have := h2 hu
          rw [beq_eq_false_iff_ne]; omega
        simp [this]
      · have := h3 (by omega)
        have : ¬ 1 < (⟨(decDigits u).toArray⟩ : ByteArray).size := by rw [hs, h1, this]; simp
        simp [this]
    · rw [hs] at hi
      have hc := List.getElem?_eq_getElem hi
      rw [(chr_at hd hc).1]
      have := decDigits_digit u _ (List.getElem_mem hi)
      simp only [digitI, Bool.and_eq_true, decide_eq_true_eq]
      omega
  refine ⟨hok, ?_⟩
  unfold numR
  rw [if_pos hok, numV_dec _ (Nat.le_refl _), hs, hd, List.take_length, decDigits_val]

/-- The get that a line is. -/
def getO (line : ByteArray) : Option Gt :=
  match wordsB line ⟨#[32]⟩ with
  | [a, b, c] => if (decide (0 < b.size) && decide (0 < c.size) && numOk a) = true then some ⟨numR a, b, c⟩ else none
  | _ => none
theorem getO_no {s : ByteArray} (h : ¬ (wordsB s ⟨#[32]⟩).length = 3) : getO s = none := by
  unfold getO
  split
  · rename_i a b c e
    rw [e] at h
    simp at h
  · rfl
theorem getO_three {s a b c : ByteArray} (h : wordsB s ⟨#[32]⟩ = [a, b, c]) : getO s = if (decide (0 < b.size) && decide (0 < c.size) && numOk a) = true then some ⟨numR a, b, c⟩ else none := by
  unfold getO
  rw [h]
theorem words_three {l : List ByteArray} (h : l.length = 3) : ∃ a b c, l = [a, b, c] := by
  match l, h with
  | [a, b, c], _ => exact ⟨a, b, c, rfl⟩
def lineB (t : ByteArray) : ByteArray := ⟨(cut t.data.toList [10]).1.toArray⟩
def restB (t : ByteArray) : ByteArray := ⟨(cut t.data.toList [10]).2.1.toArray⟩
def endB (t : ByteArray) : Bool := (cut t.data.toList [10]).2.2
/-- The first line of a text, if it is right. -/
def goodO (t : ByteArray) : Option Gt := if endB t = true then getO (lineB t) else none
/-- The rest of a text, n the line and acc what was read. -/
def rdT : Nat → ByteArray → Int → List Gt → List Gt × Int × Int
  | 0, _, _, _ => ([], 0, 0)
  | f + 1, t, n, acc => if t.size = 0 then (if checkT acc = 0 then (acc, 0, 0) else ([], 0, checkT acc)) else
      match goodO t with
      | none => ([], n, 10)
      | some r => rdT f (restB t) (n + 1) (acc ++ [r])
/-- What Read answers. -/
def readT (t : ByteArray) : List Gt × Int × Int := if 400000 < t.size then ([], 0, 2) else rdT (t.size + 1) t 1 []
theorem rest_lt {t : ByteArray} (h : endB t = true) : (restB t).size < t.size := by
  unfold endB at h
  unfold restB
  rw [mk_size]
  unfold cut at h ⊢
  split
  · rename_i h0
    have := index_room t.data.toList [10] h0
    simp only [List.length_cons, List.length_nil] at this
    rw [size_eq]
    simp only [List.length_drop, List.length_cons, List.length_nil]
    omega
  · rename_i h0
    rw [if_neg h0] at h
    simp at h

def lineG (x : Gt) : List UInt8 := itoa x.ti ++ 32 :: (x.ca.data.toList ++ 32 :: x.ke.data.toList)
def textG (l : List Gt) : List UInt8 := l.flatMap fun x => lineG x ++ [10]

theorem name_chars {s : ByteArray} (h : nameB s = true) : ∀ c, c ∈ s.data.toList → c ≠ 32 ∧ c ≠ 10 := by
  intro c hc
  obtain ⟨i, hi, rfl⟩ := List.mem_iff_getElem.1 hc
  have h1 := (chr_at (s := s) rfl (List.getElem?_eq_getElem hi)).1
  unfold nameB at h
  simp only [Bool.and_eq_true, List.all_eq_true, List.mem_range] at h
  have h2 := h.2 i (by rw [size_eq]; exact hi)
  rw [h1] at h2
  constructor
  · intro e
    rw [e] at h2
    revert h2; decide
  · intro e
    rw [e] at h2
    revert h2; decide
theorem req_chars {s : ByteArray} (h : reqB s = true) : ∀ c, c ∈ s.data.toList → c ≠ 32 ∧ c ≠ 10 := by
  intro c hc
  obtain ⟨i, hi, rfl⟩ := List.mem_iff_getElem.1 hc
  have h1 := (chr_at (s := s) rfl (List.getElem?_eq_getElem hi)).1
  have h2 := (reqB_true h).2.2.2 i (by rw [size_eq]; exact hi)
  rw [h1] at h2
  constructor
  · intro e
    rw [e] at h2
    revert h2; decide
  · intro e
    rw [e] at h2
    revert h2; decide
theorem dec_chars (u : Nat) : ∀ c, c ∈ decDigits u → c ≠ 32 ∧ c ≠ 10 := by
  intro c hc
  have h := decDigits_digit u c hc
  constructor
  · rintro rfl; revert h; decide
  · rintro rfl; revert h; decide
theorem name_size {s : ByteArray} (h : nameB s = true) : 0 < s.size ∧ s.size ≤ 40 := by
  unfold nameB at h
  simp only [Bool.and_eq_true, decide_eq_true_eq] at h
  exact ⟨h.1.1.1, h.1.1.2⟩


theorem line_good {x : Gt} (h : goodT x) (b : List UInt8) {t : ByteArray} (ht : t.data.toList = lineG x ++ 10 :: b) : goodO t = some x ∧ restB t = ⟨b.toArray⟩ := by
  obtain ⟨⟨ht1, ht2⟩, hn, hk⟩ := h
  obtain ⟨ti, ca, ke⟩ := x
  simp only at hn hk ht1 ht2
  obtain ⟨r, rfl⟩ := Int.eq_ofNat_of_zero_le ht1
  have hN := name_chars hn
  have hK := req_chars hk
  have hL : lineG ⟨r, ca, ke⟩ = decDigits r ++ 32 :: (ca.data.toList ++ 32 :: ke.data.toList) := by
    unfold lineG
    simp only [itoa_nonneg]
  have h10 : (10 : UInt8) ∉ lineG ⟨r, ca, ke⟩ := by
    rw [hL]
    simp only [List.mem_append, List.mem_cons, not_or]
    exact ⟨fun h => (dec_chars r _ h).2 rfl, by decide, fun h => (hN _ h).2 rfl, by decide, fun h => (hK _ h).2 rfl⟩
  have hc := cut_one (b := b) h10
  have hline : lineB t = ⟨(lineG ⟨r, ca, ke⟩).toArray⟩ := by unfold lineB; rw [ht, hc]
  have hend : endB t = true := by unfold endB; rw [ht, hc]
  refine ⟨?_, by unfold restB; rw [ht, hc]⟩
  unfold goodO
  rw [if_pos hend, hline]
  have hw : wordsB ⟨(lineG ⟨r, ca, ke⟩).toArray⟩ ⟨#[32]⟩ = [⟨(decDigits r).toArray⟩, ca, ke] := by
    rw [hL]
    rw [words_one (c := 32) rfl (mk_toArray _) (fun h => (dec_chars r _ h).1 rfl)]
    rw [words_one (c := 32) rfl (mk_toArray _) (fun h => (hN _ h).1 rfl)]
    rw [words_none (c := 32) rfl (by rw [mk_toArray]; exact fun h => (hK _ h).1 rfl)]
  rw [getO_three hw]
  have h1 := num_dec (u := r) (by omega)
  have h2 := (name_size hn).1
  have h3 := (reqB_true hk).1
  simp only [h1.1, h2, h3, decide_true, Bool.and_self, if_pos, h1.2]

theorem rd_text : ∀ (l : List Gt) (f : Nat) (n : Int) (acc : List Gt) (t : ByteArray), t.data.toList = textG l → l.length < f → (∀ x, x ∈ l → goodT x) → checkT (acc ++ l) = 0 → rdT f t n acc = (acc ++ l, 0, 0)
  | [], 0, _, _, _, _, h, _, _ => by simp at h
  | [], f + 1, n, acc, t, ht, _, _, hc => by
    have : t.size = 0 := by rw [size_eq, ht]; rfl
    rw [List.append_nil] at hc ⊢
    rw [rdT, if_pos this, if_pos hc]
  | x :: l, 0, _, _, _, _, h, _, _ => by simp at h
  | x :: l, f + 1, n, acc, t, ht, hf, hg, hc => by
    have e : textG (x :: l) = lineG x ++ 10 :: textG l := by simp [textG]
    rw [e] at ht
    obtain ⟨h1, h2⟩ := line_good (hg x (by simp)) _ ht
    have hz : ¬ t.size = 0 := by rw [size_eq, ht]; simp
    rw [rdT, if_neg hz, h1]
    have e2 : acc ++ x :: l = (acc ++ [x]) ++ l := by simp
    simp only
    rw [h2, e2]
    exact rd_text l f (n + 1) (acc ++ [x]) _ (mk_toArray _) (by simpa using hf) (fun y hy => hg y (by simp [hy])) (by rw [← e2]; exact hc)

theorem line_len {x : Gt} (h : goodT x) : (lineG x).length ≤ 355 := by
  obtain ⟨⟨ht1, ht2⟩, hn, hk⟩ := h
  obtain ⟨ti, ca, ke⟩ := x
  simp only at hn hk ht1 ht2
  obtain ⟨r, rfl⟩ := Int.eq_ofNat_of_zero_le ht1
  have h1 := decDigits_len (u := r) (k := 13) (by decide) (by omega)
  have h2 := (name_size hn).2
  have h3 := (reqB_true hk).2.1
  rw [size_eq] at h2 h3
  unfold lineG
  simp only [itoa_nonneg, List.length_append, List.length_cons]
  omega
theorem text_len : ∀ (l : List Gt), (∀ x, x ∈ l → goodT x) → (textG l).length ≤ 356 * l.length ∧ l.length ≤ (textG l).length
  | [], _ => by simp [textG]
  | x :: l, h => by
    have e : textG (x :: l) = lineG x ++ 10 :: textG l := by simp [textG]
    have h1 := text_len l (fun y hy => h y (by simp [hy]))
    have h2 := line_len (h x (by simp))
    rw [e]
    simp only [List.length_append, List.length_cons]
    omega
/-- What was written is read as it was. -/
theorem read_text {l : List Gt} (h : checkT l = 0) : readT ⟨(textG l).toArray⟩ = (l, 0, 0) := by
  obtain ⟨h1, h2⟩ := checkT_zero h
  have h3 := text_len l h2
  have hs : (⟨(textG l).toArray⟩ : ByteArray).size = (textG l).length := mk_size _
  unfold readT
  rw [if_neg (by rw [hs]; omega), rd_text l _ 1 [] _ (mk_toArray _) (by rw [hs]; omega) h2 h]
  rfl
/-- The text of the first n. -/
def txtB (l : List Gt) (n : Nat) : ByteArray := ⟨(textG (l.take n)).toArray⟩
theorem app_data (a b : ByteArray) : (a ++ b).data.toList = a.data.toList ++ b.data.toList := by simp
theorem txtB_next {l : List Gt} {n : Nat} {x : Gt} (hx : l[n]? = some x) :
    txtB l n ++ ((((((⟨(itoa x.ti).toArray⟩ : ByteArray) ++ ⟨#[32]⟩) ++ x.ca) ++ ⟨#[32]⟩) ++ x.ke) ++ ⟨#[10]⟩) = txtB l (n + 1) := by
  apply bytes_ext
  have e : textG (l.take (n + 1)) = textG (l.take n) ++ (lineG x ++ [10]) := by
    rw [List.take_add_one, hx]
    simp [textG]
  show _ = (textG (l.take (n + 1))).toArray.toList
  rw [List.toList_toArray, e]
  simp only [app_data, txtB, lineG]
  simp
end Go.Proofs.YtmgbmoiefgfemaaDoor

/- Gets: their fault, their texts, how these are read, and that they are read as they were written; plain. -/
import Derived.Test.YtehbmnkbmgnkfaaGreatDoorB05
import Derived.Test.YtehbmnkbmgnkfaaGreatDoorB11
namespace Go.Proofs.YtehbmnkbmgnkfaaGreatDoor
open Go.RowKit Go.Lib

structure Gt where
  ti : Int
  ca : ByteArray
  ke : ByteArray
instance : Inhabited Gt := ⟨⟨0, ByteArray.empty, ByteArray.empty⟩⟩
def encT (x : Gt) : List Value := [.int .i64 x.ti, .string x.ca, .string x.ke]
theorem encT_len (x : Gt) : (encT x).length = 3 := rfl
def WfT (x : Gt) : Prop := x.ca.size ≤ 9223372036854775807 ∧ x.ke.size ≤ 9223372036854775807
def ordT (x p : Gt) (i : Nat) : Bool := decide (0 < i) && decide (x.ti < p.ti)
def gnOf (x p : Gt) (i : Nat) (b : Bool) : Int :=
  if (outB x.ti 0 1000000000000) = true then 1 else if (!b) = true then 5 else if (!reqB x.ke) = true then 3 else if (ordT x p i) = true then 8 else 0
def gcOf (x p : Gt) (i : Nat) : Int :=
  if (outB x.ti 0 1000000000000) = true then 1 else if (!nameB x.ca) = true then 5 else if (!reqB x.ke) = true then 3 else if (ordT x p i) = true then 8 else 0
theorem gcOf_gn (x p : Gt) (i : Nat) : gnOf x p i (nameB x.ca) = gcOf x p i := rfl
def gcAt (l : List Gt) (i : Nat) : Int := gcOf (l.getD i default) (l.getD (i - 1) default) i
/-- The fault of gets. -/
def checkT (l : List Gt) : Int := if 1000 < l.length then 2 else FF (gcAt l) l.length
def goodT (x : Gt) : Prop := (0 ≤ x.ti ∧ x.ti ≤ 1000000000000) ∧ nameB x.ca = true ∧ reqB x.ke = true
theorem gcOf_zero {x p : Gt} {i : Nat} (h : gcOf x p i = 0) : goodT x := by
  unfold gcOf at h
  split at h
  · simp at h
  rename_i h1
  split at h
  · simp at h
  rename_i h2
  split at h
  · simp at h
  rename_i h3
  refine ⟨?_, by simpa using h2, by simpa using h3⟩
  simp only [outB, Bool.or_eq_true, decide_eq_true_eq, not_or] at h1
  omega
theorem gcAt_good {l : List Gt} {k : Nat} (h : ∀ j, j < k → gcAt l j = 0) (hk : k ≤ l.length) : ∀ x, x ∈ l.take k → goodT x := by
  intro x hx
  obtain ⟨i, hi, rfl⟩ := List.mem_iff_getElem.1 hx
  have hi2 : i < k := by simp at hi; omega
  have h1 := gcOf_zero (h i hi2)
  rw [getD_of (List.getElem?_eq_getElem (show i < l.length by omega))] at h1
  rw [List.getElem_take]
  exact h1
theorem checkT_zero {l : List Gt} (h : checkT l = 0) : l.length ≤ 1000 ∧ ∀ x, x ∈ l → goodT x := by
  unfold checkT at h
  split at h
  · simp at h
  rename_i h0
  refine ⟨by omega, fun x hx => gcAt_good (FF_eq_zero h) (Nat.le_refl _) x (by rw [List.take_length]; exact hx)⟩

def numOk (s : ByteArray) : Bool := decide (0 < s.size) && decide (s.size ≤ 15) && !(decide (1 < s.size) && (chr s 0 == 48)) && (List.range s.size).all fun i => digitI (chr s i)
/-- The value of the first n digits. -/
def numV (s : ByteArray) : Nat → Int
  | 0 => 0
  | n + 1 => 10 * numV s n + (chr s n - 48)
/-- The number that a string is. -/
def numR (s : ByteArray) : Int := if numOk s = true then numV s s.size else 0
theorem numOk_no {s : ByteArray} {i : Nat} (h : i < s.size) (hi : digitI (chr s i) = false) : numOk s = false := by
  unfold numOk
  have : ((List.range s.size).all fun i => digitI (chr s i)) = false := by
    rw [List.all_eq_false]
    exact ⟨i, List.mem_range.2 h, by simp [hi]⟩
  simp [this]
theorem numOk_yes {s : ByteArray} (h0 : 0 < s.size) (h15 : s.size ≤ 15) (hl : (decide (1 < s.size) && (chr s 0 == 48)) = false) (h : ∀ i, i < s.size → digitI (chr s i) = true) : numOk s = true := by
  unfold numOk
  have : ((List.range s.size).all fun i => digitI (chr s i)) = true := List.all_eq_true.2 fun i hi => h i (List.mem_range.1 hi)
  simp [this, h0, h15, hl]
theorem numV_bound {s : ByteArray} : ∀ {n : Nat}, (∀ j, j < n → digitI (chr s j) = true) → 0 ≤ numV s n ∧ numV s n < 10 ^ n
  | 0, _ => by simp [numV]
  | n + 1, h => by
    have h1 := numV_bound (s := s) (n := n) (fun j hj => h j (by omega))
    have h2 := h n (by omega)
    simp only [digitI, Bool.and_eq_true, decide_eq_true_eq] at h2
    simp only [numV]
    rw [Int.pow_succ]
    omega
theorem numV_small {s : ByteArray} {n : Nat} (hn : n ≤ 15) (h : ∀ j, j < n → digitI (chr s j) = true) : 0 ≤ numV s n ∧ numV s n < 1000000000000000 := by
  have h1 := numV_bound h
  have h2 : (10 : Nat) ^ n ≤ 10 ^ 15 := Nat.pow_le_pow_right (by decide) hn
  have h3 : ((10 ^ n : Nat) : Int) = (10 : Int) ^ n := by simp
  have h4 : (10 : Nat) ^ 15 = 1000000000000000 := by decide
  rw [← h3] at h1
  omega
theorem chr_at {s : ByteArray} {l : List UInt8} (h : s.data.toList = l) {i : Nat} {c : UInt8} (hc : l[i]? = some c) : chr s i = (c.toNat : Int) ∧ i < s.size := by
  have hi : i < s.size := by
    rw [size_eq, h]
    exact (List.getElem?_eq_some_iff.1 hc).1
  refine ⟨?_, hi⟩
  rw [← chr_of hi]
  congr 2
  subst h
  rw [Array.getElem?_toList] at hc
  have := (Array.getElem?_eq_some_iff.1 hc).2
  rw [← this]
  rfl
theorem numV_dec {s : ByteArray} : ∀ (n : Nat), n ≤ s.size → numV s n = decV (s.data.toList.take n) 0
  | 0, _ => by simp [numV, decV]
  | n + 1, h => by
    have hn : n < s.data.toList.length := by rw [← size_eq]; omega
    have hc : s.data.toList[n]? = some s.data.toList[n] := List.getElem?_eq_getElem hn
    rw [List.take_add_one, hc, decV_append, ← numV_dec n (by omega)]
    simp only [numV, Option.toList, decV]
    rw [(chr_at rfl hc).1]

theorem num_dec {u : Nat} (h : u < 1000000000000000) : numOk ⟨(decDigits u).toArray⟩ = true ∧ numR ⟨(decDigits u).toArray⟩ = u := by
  have hd : (⟨(decDigits u).toArray⟩ : ByteArray).data.toList = decDigits u := by simp
  have hs : (⟨(decDigits u).toArray⟩ : ByteArray).size = (decDigits u).length := by simp [ByteArray.size]
  obtain ⟨c, r, h1, h2, h3⟩ := decDigits_head u
  have hlen : (decDigits u).length ≤ 15 := decDigits_len (by decide) (by simpa using h)
  have hok : numOk ⟨(decDigits u).toArray⟩ = true := by
    refine numOk_yes (by rw [hs, h1]; simp) (by rw [hs]; exact hlen) ?_ fun i hi => ?_
    · have hc := (chr_at hd (i := 0) (c := c) (by rw [h1]; rfl)).1
      rw [hc]
      by_cases hu : 0 < u
      · have : ((c.toNat : Int) == 48) = false := by
          have := h2 hu
          rw [beq_eq_false_iff_ne]; omega
        simp [this]
      · have := h3 (by omega)
        have : ¬ 1 < (⟨(decDigits u).toArray⟩ : ByteArray).size := by rw [hs, h1, this]; simp
        simp [this]
    · rw [hs] at hi
      have hc := List.getElem?_eq_getElem hi
      rw [(chr_at hd hc).1]
      have := decDigits_digit u _ (List.getElem_mem hi)
      simp only [digitI, Bool.and_eq_true, decide_eq_true_eq]
      omega
  refine ⟨hok, ?_⟩
  unfold numR
  rw [if_pos hok, numV_dec _ (Nat.le_refl _), hs, hd, List.take_length, decDigits_val]

/-- The get that a line is. -/
def getO (line : ByteArray) : Option Gt :=
  match wordsB line ⟨#[32]⟩ with
  | [a, b, c] => if (decide (0 < b.size) && decide (0 < c.size) && numOk a) = true then some ⟨numR a, b, c⟩ else none
  | _ => none
theorem getO_no {s : ByteArray} (h : ¬ (wordsB s ⟨#[32]⟩).length = 3) : getO s = none := by
  unfold getO
  split
  · rename_i a b c e
    rw [e] at h
    simp at h
  · rfl
theorem getO_three {s a b c : ByteArray} (h : wordsB s ⟨#[32]⟩ = [a, b, c]) : getO s = if (decide (0 < b.size) && decide (0 < c.size) && numOk a) = true then some ⟨numR a, b, c⟩ else none := by
  unfold getO
  rw [h]
theorem words_three {l : List ByteArray} (h : l.length = 3) : ∃ a b c, l = [a, b, c] := by
  match l, h with
  | [a, b, c], _ => exact ⟨a, b, c, rfl⟩
def lineB (t : ByteArray) : ByteArray := ⟨(cut t.data.toList [10]).1.toArray⟩
def restB (t : ByteArray) : ByteArray := ⟨(cut t.data.toList [10]).2.1.toArray⟩
def endB (t : ByteArray) : Bool := (cut t.data.toList [10]).2.2
/-- The first line of a text, if it is right. -/
def goodO (t : ByteArray) : Option Gt := if endB t = true then getO (lineB t) else none
/-- The rest of a text, n the line and acc what was read. -/
def rdT : Nat → ByteArray → Int → List Gt → List Gt × Int × Int
  | 0, _, _, _ => ([], 0, 0)
  | f + 1, t, n, acc => if t.size = 0 then (if checkT acc = 0 then (acc, 0, 0) else ([], 0, checkT acc)) else
      match goodO t with
      | none => ([], n, 10)
      | some r => rdT f (restB t) (n + 1) (acc ++ [r])
/-- What Read answers. -/
def readT (t : ByteArray) : List Gt × Int × Int := if 400000 < t.size then ([], 0, 2) else rdT (t.size + 1) t 1 []
theorem rest_lt {t : ByteArray} (h : endB t = true) : (restB t).size < t.size := by
  unfold endB at h
  unfold restB
  rw [mk_size]
  unfold cut at h ⊢
  split
  · rename_i h0
    have := index_room t.data.toList [10] h0
    simp only [List.length_cons, List.length_nil] at this
    rw [size_eq]
    simp only [List.length_drop, List.length_cons, List.length_nil]
    omega
  · rename_i h0
    rw [if_neg h0] at h
    simp at h

def lineG (x : Gt) : List UInt8 := itoa x.ti ++ 32 :: (x.ca.data.toList ++ 32 :: x.ke.data.toList)
def textG (l : List Gt) : List UInt8 := l.flatMap fun x => lineG x ++ [10]

theorem name_chars {s : ByteArray} (h : nameB s = true) : ∀ c, c ∈ s.data.toList → c ≠ 32 ∧ c ≠ 10 := by
  intro c hc
  obtain ⟨i, hi, rfl⟩ := List.mem_iff_getElem.1 hc
  have h1 := (chr_at (s := s) rfl (List.getElem?_eq_getElem hi)).1
  unfold nameB at h
  simp only [Bool.and_eq_true, List.all_eq_true, List.mem_range] at h
  have h2 := h.2 i (by rw [size_eq]; exact hi)
  rw [h1] at h2
  constructor
  · intro e
    rw [e] at h2
    revert h2; decide
  · intro e
    rw [e] at h2
    revert h2; decide
theorem req_chars {s : ByteArray} (h : reqB s = true) : ∀ c, c ∈ s.data.toList → c ≠ 32 ∧ c ≠ 10 := by
  intro c hc
  obtain ⟨i, hi, rfl⟩ := List.mem_iff_getElem.1 hc
  have h1 := (chr_at (s := s) rfl (List.getElem?_eq_getElem hi)).1
  have h2 := (reqB_true h).2.2.2 i (by rw [size_eq]; exact hi)
  rw [h1] at h2
  constructor
  · intro e
    rw [e] at h2
    revert h2; decide
  · intro e
    rw [e] at h2
    revert h2; decide
theorem dec_chars (u : Nat) : ∀ c, c ∈ decDigits u → c ≠ 32 ∧ c ≠ 10 := by
  intro c hc
  have h := decDigits_digit u c hc
  constructor
  · rintro rfl; revert h; decide
  · rintro rfl; revert h; decide
theorem name_size {s : ByteArray} (h : nameB s = true) : 0 < s.size ∧ s.size ≤ 40 := by
  unfold nameB at h
  simp only [Bool.and_eq_true, decide_eq_true_eq] at h
  exact ⟨h.1.1.1, h.1.1.2⟩


theorem line_good {x : Gt} (h : goodT x) (b : List UInt8) {t : ByteArray} (ht : t.data.toList = lineG x ++ 10 :: b) : goodO t = some x ∧ restB t = ⟨b.toArray⟩ := by
  obtain ⟨⟨ht1, ht2⟩, hn, hk⟩ := h
  obtain ⟨ti, ca, ke⟩ := x
  simp only at hn hk ht1 ht2
  obtain ⟨r, rfl⟩ := Int.eq_ofNat_of_zero_le ht1
  have hN := name_chars hn
  have hK := req_chars hk
  have hL : lineG ⟨r, ca, ke⟩ = decDigits r ++ 32 :: (ca.data.toList ++ 32 :: ke.data.toList) := by
    unfold lineG
    simp only [itoa_nonneg]
  have h10 : (10 : UInt8) ∉ lineG ⟨r, ca, ke⟩ := by
    rw [hL]
    simp only [List.mem_append, List.mem_cons, not_or]
    exact ⟨fun h => (dec_chars r _ h).2 rfl, by decide, fun h => (hN _ h).2 rfl, by decide, fun h => (hK _ h).2 rfl⟩
  have hc := cut_one (b := b) h10
  have hline : lineB t = ⟨(lineG ⟨r, ca, ke⟩).toArray⟩ := by unfold lineB; rw [ht, hc]
  have hend : endB t = true := by unfold endB; rw [ht, hc]
  refine ⟨?_, by unfold restB; rw [ht, hc]⟩
  unfold goodO
  rw [if_pos hend, hline]
  have hw : wordsB ⟨(lineG ⟨r, ca, ke⟩).toArray⟩ ⟨#[32]⟩ = [⟨(decDigits r).toArray⟩, ca, ke] := by
    rw [hL]
    rw [words_one (c := 32) rfl (mk_toArray _) (fun h => (dec_chars r _ h).1 rfl)]
    rw [words_one (c := 32) rfl (mk_toArray _) (fun h => (hN _ h).1 rfl)]
    rw [words_none (c := 32) rfl (by rw [mk_toArray]; exact fun h => (hK _ h).1 rfl)]
  rw [getO_three hw]
  have h1 := num_dec (u := r) (by omega)
  have h2 := (name_size hn).1
  have h3 := (reqB_true hk).1
  simp only [h1.1, h2, h3, decide_true, Bool.and_self, if_pos, h1.2]

theorem rd_text : ∀ (l : List Gt) (f : Nat) (n : Int) (acc : List Gt) (t : ByteArray), t.data.toList = textG l → l.length < f → (∀ x, x ∈ l → goodT x) → checkT (acc ++ l) = 0 → rdT f t n acc = (acc ++ l, 0, 0)
  | [], 0, _, _, _, _, h, _, _ => by simp at h
  | [], f + 1, n, acc, t, ht, _, _, hc => by
    have : t.size = 0 := by rw [size_eq, ht]; rfl
    rw [List.append_nil] at hc ⊢
    rw [rdT, if_pos this, if_pos hc]
  | x :: l, 0, _, _, _, _, h, _, _ => by simp at h
  | x :: l, f + 1, n, acc, t, ht, hf, hg, hc => by
    have e : textG (x :: l) = lineG x ++ 10 :: textG l := by simp [textG]
    rw [e] at ht
    obtain ⟨h1, h2⟩ := line_good (hg x (by simp)) _ ht
    have hz : ¬ t.size = 0 := by rw [size_eq, ht]; simp
    rw [rdT, if_neg hz, h1]
    have e2 : acc ++ x :: l = (acc ++ [x]) ++ l := by simp
    simp only
    rw [h2, e2]
    exact rd_text l f (n + 1) (acc ++ [x]) _ (mk_toArray _) (by simpa using hf) (fun y hy => hg y (by simp [hy])) (by rw [← e2]; exact hc)

theorem line_len {x : Gt} (h : goodT x) : (lineG x).length ≤ 355 := by
  obtain ⟨⟨ht1, ht2⟩, hn, hk⟩ := h
  obtain ⟨ti, ca, ke⟩ := x
  simp only at hn hk ht1 ht2
  obtain ⟨r, rfl⟩ := Int.eq_ofNat_of_zero_le ht1
  have h1 := decDigits_len (u := r) (k := 13) (by decide) (by omega)
  have h2 := (name_size hn).2
  have h3 := (reqB_true hk).2.1
  rw [size_eq] at h2 h3
  unfold lineG
  simp only [itoa_nonneg, List.length_append, List.length_cons]
  omega
theorem text_len : ∀ (l : List Gt), (∀ x, x ∈ l → goodT x) → (textG l).length ≤ 356 * l.length ∧ l.length ≤ (textG l).length
  | [], _ => by simp [textG]
  | x :: l, h => by
    have e : textG (x :: l) = lineG x ++ 10 :: textG l := by simp [textG]
    have h1 := text_len l (fun y hy => h y (by simp [hy]))
    have h2 := line_len (h x (by simp))
    rw [e]
    simp only [List.length_append, List.length_cons]
    omega
/-- What was written is read as it was. -/
theorem read_text {l : List Gt} (h : checkT l = 0) : readT ⟨(textG l).toArray⟩ = (l, 0, 0) := by
  obtain ⟨h1, h2⟩ := checkT_zero h
  have h3 := text_len l h2
  have hs : (⟨(textG l).toArray⟩ : ByteArray).size = (textG l).length := mk_size _
  unfold readT
  rw [if_neg (by rw [hs]; omega), rd_text l _ 1 [] _ (mk_toArray _) (by rw [hs]; omega) h2 h]
  rfl
/-- The text of the first n. -/
def txtB (l : List Gt) (n : Nat) : ByteArray := ⟨(textG (l.take n)).toArray⟩
theorem app_data (a b : ByteArray) : (a ++ b).data.toList = a.data.toList ++ b.data.toList := by simp
theorem txtB_next {l : List Gt} {n : Nat} {x : Gt} (hx : l[n]? = some x) :
    txtB l n ++ ((((((⟨(itoa x.ti).toArray⟩ : ByteArray) ++ ⟨#[32]⟩) ++ x.ca) ++ ⟨#[32]⟩) ++ x.ke) ++ ⟨#[10]⟩) = txtB l (n + 1) := by
  apply bytes_ext
  have e : textG (l.take (n + 1)) = textG (l.take n) ++ (lineG x ++ [10]) := by
    rw [List.take_add_one, hx]
    simp [textG]
  show _ = (textG (l.take (n + 1))).toArray.toList
  rw [List.toList_toArray, e]
  simp only [app_data, txtB, lineG]
  simp
end Go.Proofs.YtehbmnkbmgnkfaaGreatDoor

/- The caches with what happens: plain, and in memory. -/
namespace Go.Proofs.YtehbmnkbmgnkfaaGreatDoor
open Go.RowKit

/-- What a cache had to do. -/
structure Ldd where
  ca : Int
  fr : Int
  sl : Int
  wt : Int
  ak : Int
  bs : Int
instance : Inhabited Ldd := ⟨⟨0, 0, 0, 0, 0, 0⟩⟩
/-- The answer to a get. -/
structure Gtn where
  ti : Int
  ve : Int
  bo : Int
  fr : ByteArray
  ho : Int
instance : Inhabited Gtn := ⟨⟨0, 0, 0, ⟨#[]⟩, 0⟩⟩
def encN (x : Gtn) : List Value := [.int .i64 x.ti, .int .i64 x.ve, .int .i64 x.bo, .string x.fr, .int .i64 x.ho]
theorem encN_len (x : Gtn) : (encN x).length = 5 := rfl
/-- Who waits: a get, or an ask. -/
structure Wtr where
  ge : Nat
  ak : Option Nat
instance : Inhabited Wtr := ⟨⟨0, none⟩⟩
def encW (a : Nat → Nat) (x : Wtr) : List Value := [.int .i64 (x.ge : Nat), .pointer (x.ak.map fun j => ⟨a j, 0, none⟩)]
theorem encW_len (a : Nat → Nat) (x : Wtr) : (encW a x).length = 2 := rfl
def encP (a : Nat → Nat) (j : Nat) : List Value := [.pointer (some ⟨a j, 0, none⟩)]
theorem encP_len (a : Nat → Nat) (x : Nat) : (encP a x).length = 1 := rfl
structure Sto where
  ch : Cch
  pa : Int
  ks : List ByteArray
  hm : ByteArray → Hld
  ar : List Nat
  ld : Ldd
instance : Inhabited Sto := ⟨⟨default, 0, [], fun _ => default, [], default⟩⟩
/-- The caches, the queue, the asks with who waits for them, the answers to gets, the time, how often something was laid into maps. -/
structure Day where
  st : List Sto
  qu : List Evn
  ak : List Akn
  wa : Nat → List Wtr
  go : List Gtn
  no : Int
  pu : Nat
def Day.K (D : Day) (j : Nat) : Akn := D.ak.getD j default
/-- Where it all lies; x: blocks beside it that stay as they are. -/
structure Adr where
  q : Nat
  d0 : Value
  d1 : Value
  d2 : Value
  d3 : Value
  sv : Value
  gv : Value
  qv : Value
  sb : Nat → Nat
  mb : Nat → Nat
  ab : Nat → Nat
  av : Nat → Value
  wv : Nat → Value
  x : List (Nat × Obj)
def upF {α : Type} (f : Nat → α) (i : Nat) (x : α) : Nat → α := fun j => if j = i then x else f j
theorem upF_same {α : Type} (f : Nat → α) (i : Nat) (x : α) : upF f i x i = x := if_pos rfl
theorem upF_other {α : Type} (f : Nat → α) {i j : Nat} (x : α) (h : j ≠ i) : upF f i x j = f j := if_neg h
def cellsW (A : Adr) (D : Day) : Array Value := #[A.d0, A.d1, A.d2, A.d3, A.sv, A.qv, .int .i64 (D.ak.length : Nat), A.gv, .int .i64 D.no]
def cellsS (A : Adr) (i : Nat) (s : Sto) : Array Value := #[.string s.ch.na, .string s.ch.pa, .int .i64 s.ch.de, .int .i64 s.ch.ro, .int .i64 s.pa, .map (some (A.mb i)), A.av i, .int .i64 s.ld.ca, .int .i64 s.ld.fr, .int .i64 s.ld.sl, .int .i64 s.ld.wt, .int .i64 s.ld.ak, .int .i64 s.ld.bs]
def cellsA (A : Adr) (j : Nat) (k : Akn) : Array Value := #[.int .i64 (k.ca : Nat), .int .i64 (j : Nat), .int .i64 k.ma, .string k.ke, .bool k.kp, A.wv j]
/-- A map's object. -/
def MapO (o : Obj) (n : Nat) (f : ByteArray → Hld) (ks : List ByteArray) : Prop := ∀ (W : World) (b : Nat), W.heap[b]? = some o → MapH W b n f ks
theorem MapO.of {W : World} {b n : Nat} {o : Obj} {f : ByteArray → Hld} {ks : List ByteArray} (h : MapH W b n f ks) (ho : W.heap[b]? = some o) : MapO o n f ks := fun W' b' hb => by
  obtain ⟨g1, g2, D, ⟨es, cl, h1, h2⟩, h3⟩ := h
  rw [ho] at h1
  exact ⟨g1, g2, D, ⟨es, cl, hb.trans h1, h2⟩, h3⟩
/-- The parts are as the day says. -/
structure RelD (A : Adr) (D : Day) (M : Mem) : Prop where
  wl : M rWl = some (A.q, .cells (cellsW A D) 78 (0, 0))
  ss : OwnM (M rSs) 132 1 (encP A.sb) A.sv (List.range D.st.length)
  go : OwnM (M rGo) 57 5 encN A.gv D.go
  qu : OwnM (M rQu) 143 8 (encE A.ab) A.qv D.qu
  st : ∀ i s, D.st[i]? = some s → M (rSt i) = some (A.sb i, .cells (cellsS A i s) 138 (0, 0))
  mp : ∀ i s, D.st[i]? = some s → ∃ o, M (rMp i) = some (A.mb i, o) ∧ MapO o D.pu s.hm s.ks
  sa : ∀ i s, D.st[i]? = some s → OwnM (M (rSa i)) 139 1 (encP A.ab) (A.av i) s.ar
  ak : ∀ j k, D.ak[j]? = some k → M (rAk j) = some (A.ab j, .cells (cellsA A j k) 153 (0, 0))
  wa : ∀ j k, D.ak[j]? = some k → OwnM (M (rWa j)) 150 2 (encW A.ab) (A.wv j) (D.wa j)
  fx : ∀ (k b : Nat) (o : Obj), A.x[k]? = some (b, o) → M (rSt (D.st.length + k)) = some (b, o)
def PD (W : World) (B : Nat) (A : Adr) (D : Day) : Prop := ∃ M, Mm W B M ∧ RelD A D M
section
variable {W W' : World} {B : Nat} {A : Adr} {D : Day}
theorem PD.below (h : PD W B A D) (hb : Below W.heap.size W W') : PD W' B A D := by
  obtain ⟨M, h1, h2⟩ := h
  exact ⟨M, h1.below hb, h2⟩
theorem PD.base (h : PD W B A D) : B ≤ W.heap.size := by
  obtain ⟨M, h1, h2⟩ := h
  exact h1.base
theorem PD.qb (h : PD W B A D) : B ≤ A.q ∧ W.heap[A.q]? = some (.cells (cellsW A D) 78 (0, 0)) := by
  obtain ⟨M, h1, h2⟩ := h
  exact h1.at_ _ _ _ h2.wl
theorem PD.sb (h : PD W B A D) {i : Nat} {s : Sto} (hs : D.st[i]? = some s) : B ≤ A.sb i ∧ W.heap[A.sb i]? = some (.cells (cellsS A i s) 138 (0, 0)) := by
  obtain ⟨M, h1, h2⟩ := h
  exact h1.at_ _ _ _ (h2.st i s hs)
theorem PD.ab (h : PD W B A D) {j : Nat} {k : Akn} (hk : D.ak[j]? = some k) : B ≤ A.ab j ∧ W.heap[A.ab j]? = some (.cells (cellsA A j k) 153 (0, 0)) := by
  obtain ⟨M, h1, h2⟩ := h
  exact h1.at_ _ _ _ (h2.ak j k hk)
theorem cellF {b : Nat} {cs : Array Value} {T : TypeId} (h : W.heap[b]? = some (.cells cs T (0, 0))) (i : Nat) {v : Value} (hv : cs[i]? = some v) : W.cell? ⟨b, i, none⟩ = some v := (cell_of_block h).trans hv
theorem frozF {b : Nat} {cs : Array Value} {T : TypeId} (h : W.heap[b]? = some (.cells cs T (0, 0))) (i : Nat) : W.frozen? ⟨b, i, none⟩ = false := by simp [World.frozen?, h]
theorem PD.map (h : PD W B A D) {i : Nat} {s : Sto} (hs : D.st[i]? = some s) : B ≤ A.mb i ∧ MapH W (A.mb i) D.pu s.hm s.ks := by
  obtain ⟨M, h1, h2⟩ := h
  obtain ⟨o, h3, h4⟩ := h2.mp i s hs
  obtain ⟨h5, h6⟩ := h1.at_ _ _ _ h3
  exact ⟨h5, h4 W _ h6⟩
theorem PD.stores (h : PD W B A D) : Own W B 132 1 (encP A.sb) A.sv (List.range D.st.length) := by
  obtain ⟨M, h1, h2⟩ := h
  exact OwnM.own h1 h2.ss (encP_len _)
theorem PD.gots (h : PD W B A D) : Own W B 57 5 encN A.gv D.go := by
  obtain ⟨M, h1, h2⟩ := h
  exact OwnM.own h1 h2.go encN_len
theorem PD.asks (h : PD W B A D) {i : Nat} {s : Sto} (hs : D.st[i]? = some s) : Own W B 139 1 (encP A.ab) (A.av i) s.ar := by
  obtain ⟨M, h1, h2⟩ := h
  exact OwnM.own h1 (h2.sa i s hs) (encP_len _)
theorem PD.wait (h : PD W B A D) {j : Nat} {k : Akn} (hk : D.ak[j]? = some k) : Own W B 150 2 (encW A.ab) (A.wv j) (D.wa j) := by
  obtain ⟨M, h1, h2⟩ := h
  exact OwnM.own h1 (h2.wa j k hk) (encW_len _)
theorem PD.queue (h : PD W B A D) : QAt A.q B A.ab W A.qv D.qu := by
  obtain ⟨M, h1, h2⟩ := h
  refine ⟨OwnM.own h1 h2.qu (encE_len _), OwnM.off h1 h2.qu h2.wl (by decide), ⟨_, _, (h1.at_ _ _ _ h2.wl).2, rfl⟩, h1.base⟩
theorem PD.fr (h : PD W B A D) {k b : Nat} {o : Obj} (hx : A.x[k]? = some (b, o)) : W.heap[b]? = some o := by
  obtain ⟨M, h1, h2⟩ := h
  exact (h1.at_ _ _ _ (h2.fx k b o hx)).2
/-- A new block stays beside it. -/
theorem PD.addFr (h : PD W B A D) (o : Obj) : PD (W.alloc o) B { A with x := A.x ++ [(W.heap.size, o)] } D := by
  obtain ⟨M, h1, h2⟩ := h
  refine ⟨_, h1.new (rSt (D.st.length + A.x.length)) o, ?_⟩
  have hS : ∀ (i : Nat) (s : Sto), D.st[i]? = some s → i < D.st.length := fun i s hs => (List.getElem?_eq_some_iff.1 hs).1
  exact {
    wl := by rw [upM_other _ _ (by unfold rSt rWl; omega)]; exact h2.wl
    ss := by rw [upM_other _ _ (by unfold rSt rSs; omega)]; exact h2.ss
    go := by rw [upM_other _ _ (by unfold rSt rGo; omega)]; exact h2.go
    qu := by rw [upM_other _ _ (by unfold rSt rQu; omega)]; exact h2.qu
    st := fun i s hs => by have := hS i s hs; rw [upM_other _ _ (by unfold rSt; omega)]; exact h2.st i s hs
    mp := fun i s hs => by rw [upM_other _ _ (by unfold rMp rSt; omega)]; exact h2.mp i s hs
    sa := fun i s hs => by rw [upM_other _ _ (by unfold rSa rSt; omega)]; exact h2.sa i s hs
    ak := fun i s hs => by rw [upM_other _ _ (by unfold rAk rSt; omega)]; exact h2.ak i s hs
    wa := fun i s hs => by rw [upM_other _ _ (by unfold rWa rSt; omega)]; exact h2.wa i s hs
    fx := fun k b p hx => by
      by_cases e : k = A.x.length
      · subst e
        have hx' : (A.x ++ [(W.heap.size, o)])[A.x.length]? = some (b, p) := hx
        rw [List.getElem?_append_right (Nat.le_refl _)] at hx'
        simp at hx'
        rw [upM_same, hx'.1, hx'.2]
      · have hx' : (A.x ++ [(W.heap.size, o)])[k]? = some (b, p) := hx
        have hk := (List.getElem?_eq_some_iff.1 hx').1
        simp at hk
        rw [List.getElem?_append_left (by omega)] at hx'
        rw [upM_other _ _ (by unfold rSt; omega)]
        exact h2.fx k b p hx' }
theorem PD.dropFr (h : PD W B A D) {x : List (Nat × Obj)} (hx : ∃ y, A.x = x ++ y) : PD W B { A with x := x } D := by
  obtain ⟨M, h1, h2⟩ := h
  obtain ⟨y, hy⟩ := hx
  exact ⟨M, h1, { h2 with fx := fun k b o hk => h2.fx k b o (by
    have hk' : x[k]? = some (b, o) := hk
    rw [hy, List.getElem?_append_left (List.getElem?_eq_some_iff.1 hk').1]
    exact hk') }⟩
/-- The asks of the queue lie beside it. -/
theorem PD.askR (h : PD W B A D) {j : Nat} (hj : j < D.ak.length) : AskR W A.ab D.K j ∧ offB (A.ab j) A.qv ∧ A.ab j ≠ A.q := by
  obtain ⟨k, hk⟩ : ∃ k, D.ak[j]? = some k := ⟨D.ak[j], by simp [hj]⟩
  have hK : D.K j = k := by unfold Day.K; rw [List.getD_eq_getElem?_getD, hk]; rfl
  have hb := (h.ab hk).2
  obtain ⟨M, h1, h2⟩ := h
  refine ⟨⟨?_, ?_, ?_⟩, ?_, fun e => ?_⟩
  · rw [hK]; exact cellF hb 0 rfl
  · exact cellF hb 1 rfl
  · rw [hK]; exact cellF hb 3 rfl
  · exact OwnM.off h1 h2.qu (h2.ak j k hk) (by unfold rAk rQu; omega)
  · have h3 := h2.ak j k hk
    rw [e] at h3
    have := h1.inj _ _ _ _ _ h3 h2.wl
    unfold rAk rWl at this
    omega
end
end Go.Proofs.YtehbmnkbmgnkfaaGreatDoor

/- The caches in memory: what one step of each kind changes. -/
namespace Go.Proofs.YtehbmnkbmgnkfaaGreatDoor
open Go.RowKit

theorem set_at {α : Type} {l : List α} {i j : Nat} {x y : α} (h : (l.set i x)[j]? = some y) : (j = i ∧ y = x) ∨ (j ≠ i ∧ l[j]? = some y) := by
  by_cases e : j = i
  · subst e
    rw [List.getElem?_set_self'] at h
    cases hl : l[j]? with
    | none => rw [hl] at h; cases h
    | some z => rw [hl] at h; cases h; exact .inl ⟨rfl, rfl⟩
  · rw [List.getElem?_set_ne (Ne.symm e)] at h
    exact .inr ⟨e, h⟩
theorem push_at {α : Type} {l : List α} {j : Nat} {x y : α} (h : (l ++ [x])[j]? = some y) : (j = l.length ∧ y = x) ∨ (j < l.length ∧ l[j]? = some y) := by
  by_cases e : j < l.length
  · rw [List.getElem?_append_left e] at h
    exact .inr ⟨e, h⟩
  · have hj : j < (l ++ [x]).length := (List.getElem?_eq_some_iff.1 h).1
    simp at hj
    obtain rfl : j = l.length := by omega
    simp at h
    exact .inl ⟨rfl, h.symm⟩
theorem fm_congr {α β : Type} {l : List α} {f g : α → List β} (h : ∀ y, y ∈ l → f y = g y) : l.flatMap f = l.flatMap g := by
  induction l with
  | nil => rfl
  | cons a l ih => rw [List.flatMap_cons, List.flatMap_cons, h a (by simp), ih (fun y hy => h y (by simp [hy]))]
theorem OwnM.congr {α : Type} {x : Option (Nat × Obj)} {E : TypeId} {k : Nat} {enc enc' : α → List Value} {v : Value} {l : List α} (h : OwnM x E k enc v l) (he : ∀ y, y ∈ l → enc y = enc' y) : OwnM x E k enc' v l := by
  rcases h with h | ⟨g, cap, cur, h1, h2, h3, h4, h5, h6⟩
  · exact .inl h
  · refine .inr ⟨g, cap, cur, h1, h2, h3, h4, h5, ?_⟩
    rw [h6]
    exact fm_congr he
section
variable {W W' : World} {B : Nat} {A : Adr} {D : Day}
/-- The time. -/
theorem PD.setNow (h : PD W B A D) (t : Int) : PD (W.setCell ⟨A.q, 8, none⟩ (.int .i64 t)) B A { D with no := t } := by
  obtain ⟨M, h1, h2⟩ := h
  refine ⟨_, h1.set h2.wl 8 (.int .i64 t), ?_⟩
  exact {
    wl := by rw [upM_same]; rfl
    ss := by rw [upM_other _ _ (by decide)]; exact h2.ss
    go := by rw [upM_other _ _ (by decide)]; exact h2.go
    qu := by rw [upM_other _ _ (by decide)]; exact h2.qu
    st := fun i s hs => by rw [upM_other _ _ (by unfold rSt rWl; omega)]; exact h2.st i s hs
    mp := fun i s hs => by rw [upM_other _ _ (by unfold rMp rWl; omega)]; exact h2.mp i s hs
    sa := fun i s hs => by rw [upM_other _ _ (by unfold rSa rWl; omega)]; exact h2.sa i s hs
    ak := fun i s hs => by rw [upM_other _ _ (by unfold rAk rWl; omega)]; exact h2.ak i s hs
    wa := fun i s hs => by rw [upM_other _ _ (by unfold rWa rWl; omega)]; exact h2.wa i s hs
    fx := fun kk b o hx => by rw [upM_other _ _ (by unfold rSt rWl; omega)]; exact h2.fx kk b o hx }
/-- A number of a cache. -/
theorem PD.setSto (h : PD W B A D) {i : Nat} {s : Sto} (hs : D.st[i]? = some s) (k : Nat) (v : Value) (s' : Sto) (hc : (cellsS A i s).setIfInBounds k v = cellsS A i s') (e1 : s'.ks = s.ks) (e2 : s'.hm = s.hm) (e3 : s'.ar = s.ar) :
    PD (W.setCell ⟨A.sb i, k, none⟩ v) B A { D with st := D.st.set i s' } := by
  obtain ⟨M, h1, h2⟩ := h
  refine ⟨_, h1.set (h2.st i s hs) k v, ?_⟩
  rw [hc]
  exact {
    wl := by rw [upM_other _ _ (by unfold rSt rWl; omega)]; exact h2.wl
    ss := by
      rw [upM_other _ _ (by unfold rSt rSs; omega)]
      show OwnM _ _ _ _ _ (List.range (D.st.set i s').length)
      rw [List.length_set]; exact h2.ss
    go := by rw [upM_other _ _ (by unfold rSt rGo; omega)]; exact h2.go
    qu := by rw [upM_other _ _ (by unfold rSt rQu; omega)]; exact h2.qu
    st := fun j t ht => by
      rcases set_at ht with ⟨rfl, rfl⟩ | ⟨hne, ht⟩
      · rw [upM_same]
      · rw [upM_other _ _ (by unfold rSt; omega)]; exact h2.st j t ht
    mp := fun j t ht => by
      rw [upM_other _ _ (by unfold rSt rMp; omega)]
      rcases set_at ht with ⟨rfl, rfl⟩ | ⟨hne, ht⟩
      · rw [e1, e2]; exact h2.mp j s hs
      · exact h2.mp j t ht
    sa := fun j t ht => by
      rw [upM_other _ _ (by unfold rSt rSa; omega)]
      rcases set_at ht with ⟨rfl, rfl⟩ | ⟨hne, ht⟩
      · rw [e3]; exact h2.sa j s hs
      · exact h2.sa j t ht
    ak := fun j k hk => by rw [upM_other _ _ (by unfold rSt rAk; omega)]; exact h2.ak j k hk
    wa := fun j k hk => by rw [upM_other _ _ (by unfold rSt rWa; omega)]; exact h2.wa j k hk
    fx := fun kk b o hx => by show upM _ _ _ (rSt ((D.st.set i s').length + kk)) = _; have := (List.getElem?_eq_some_iff.1 hs).1; rw [List.length_set, upM_other _ _ (by unfold rSt; omega)]; exact h2.fx kk b o hx }
/-- The queue. -/
theorem PD.setQu (h : PD W B A D) {v' : Value} {l' : List Evn} (hq : QAt A.q B A.ab W' v' l') (hc : QChg A.q W W' A.qv v') : PD W' B { A with qv := v' } { D with qu := l' } := by
  obtain ⟨M, h1, h2⟩ := h
  obtain ⟨x, h3, h4⟩ := h1.queue h2.qu h2.wl hq hc
  refine ⟨_, h4, ?_⟩
  exact {
    wl := by rw [upM_same]; rfl
    ss := by rw [upM_other _ _ (by decide), upM_other _ _ (by decide)]; exact h2.ss
    go := by rw [upM_other _ _ (by decide), upM_other _ _ (by decide)]; exact h2.go
    qu := by rw [upM_other _ _ (by decide), upM_same]; exact h3
    st := fun i s hs => by rw [upM_other _ _ (by unfold rSt rWl; omega), upM_other _ _ (by unfold rSt rQu; omega)]; exact h2.st i s hs
    mp := fun i s hs => by rw [upM_other _ _ (by unfold rMp rWl; omega), upM_other _ _ (by unfold rMp rQu; omega)]; exact h2.mp i s hs
    sa := fun i s hs => by rw [upM_other _ _ (by unfold rSa rWl; omega), upM_other _ _ (by unfold rSa rQu; omega)]; exact h2.sa i s hs
    ak := fun i s hs => by rw [upM_other _ _ (by unfold rAk rWl; omega), upM_other _ _ (by unfold rAk rQu; omega)]; exact h2.ak i s hs
    wa := fun i s hs => by rw [upM_other _ _ (by unfold rWa rWl; omega), upM_other _ _ (by unfold rWa rQu; omega)]; exact h2.wa i s hs
    fx := fun kk b o hx => by rw [upM_other _ _ (by unfold rSt rWl; omega), upM_other _ _ (by unfold rSt rQu; omega)]; exact h2.fx kk b o hx }
/-- A map. -/
theorem PD.setMap (h : PD W B A D) {i n : Nat} {s : Sto} (hs : D.st[i]? = some s) {f : ByteArray → Hld} {ks : List ByteArray} (hm : MapH W' (A.mb i) n f ks) (hn : D.pu ≤ n) (hg : Onl (A.mb i) W W') :
    PD W' B A { D with st := D.st.set i { s with ks := ks, hm := f }, pu := n } := by
  obtain ⟨M, h1, h2⟩ := h
  obtain ⟨o, h3, h4⟩ := h2.mp i s hs
  obtain ⟨o', ho'⟩ : ∃ o', W'.heap[A.mb i]? = some o' := ⟨_, Array.getElem?_eq_getElem hm.lt⟩
  refine ⟨_, h1.onl h3 hg ho', ?_⟩
  have hmono : ∀ {o : Obj} {g : ByteArray → Hld} {l : List ByteArray}, MapO o D.pu g l → MapO o n g l := fun hx W b hb => (hx W b hb).mono hn
  exact {
    wl := by rw [upM_other _ _ (by unfold rMp rWl; omega)]; exact h2.wl
    ss := by
      rw [upM_other _ _ (by unfold rMp rSs; omega)]
      show OwnM _ _ _ _ _ (List.range (D.st.set i _).length)
      rw [List.length_set]; exact h2.ss
    go := by rw [upM_other _ _ (by unfold rMp rGo; omega)]; exact h2.go
    qu := by rw [upM_other _ _ (by unfold rMp rQu; omega)]; exact h2.qu
    st := fun j t ht => by
      rw [upM_other _ _ (by unfold rSt rMp; omega)]
      rcases set_at ht with ⟨rfl, rfl⟩ | ⟨hne, ht⟩
      · exact h2.st j s hs
      · exact h2.st j t ht
    mp := fun j t ht => by
      rcases set_at ht with ⟨rfl, rfl⟩ | ⟨hne, ht⟩
      · rw [upM_same]; exact ⟨_, rfl, MapO.of hm ho'⟩
      · rw [upM_other _ _ (by unfold rMp; omega)]
        obtain ⟨o2, h5, h6⟩ := h2.mp j t ht
        exact ⟨o2, h5, hmono h6⟩
    sa := fun j t ht => by
      rw [upM_other _ _ (by unfold rMp rSa; omega)]
      rcases set_at ht with ⟨rfl, rfl⟩ | ⟨hne, ht⟩
      · exact h2.sa j s hs
      · exact h2.sa j t ht
    ak := fun j k hk => by rw [upM_other _ _ (by unfold rMp rAk; omega)]; exact h2.ak j k hk
    wa := fun j k hk => by rw [upM_other _ _ (by unfold rMp rWa; omega)]; exact h2.wa j k hk
    fx := fun kk b o hx => by show upM _ _ _ (rSt ((D.st.set i _).length + kk)) = _; rw [List.length_set, upM_other _ _ (by unfold rSt rMp; omega)]; exact h2.fx kk b o hx }
/-- A cache's row of asks. -/
theorem PD.setAr (h : PD W B A D) {i : Nat} {s : Sto} (hs : D.st[i]? = some s) {v' : Value} {l' : List Nat} (hown : Own W' B 139 1 (encP A.ab) v' l') (hsz : W.heap.size ≤ W'.heap.size) (hk : KeepB W W' (A.av i) v') :
    PD (W'.setCell ⟨A.sb i, 6, none⟩ v') B { A with av := upF A.av i v' } { D with st := D.st.set i { s with ar := l' } } := by
  obtain ⟨M, h1, h2⟩ := h
  obtain ⟨x, h3, h4⟩ := h1.grow (r := rSa i) (h2.sa i s hs) hown hsz hk
  have h5 := h4.set (r := rSt i) (b := A.sb i) (cs := cellsS A i s) (T := 138) (by rw [upM_other _ _ (by unfold rSa rSt; omega)]; exact h2.st i s hs) 6 v'
  refine ⟨_, h5, ?_⟩
  exact {
    wl := by rw [upM_other _ _ (by unfold rSt rWl; omega), upM_other _ _ (by unfold rSa rWl; omega)]; exact h2.wl
    ss := by
      rw [upM_other _ _ (by unfold rSt rSs; omega), upM_other _ _ (by unfold rSa rSs; omega)]
      show OwnM _ _ _ _ _ (List.range (D.st.set i _).length)
      rw [List.length_set]; exact h2.ss
    go := by rw [upM_other _ _ (by unfold rSt rGo; omega), upM_other _ _ (by unfold rSa rGo; omega)]; exact h2.go
    qu := by rw [upM_other _ _ (by unfold rSt rQu; omega), upM_other _ _ (by unfold rSa rQu; omega)]; exact h2.qu
    st := fun j t ht => by
      rcases set_at ht with ⟨rfl, rfl⟩ | ⟨hne, ht⟩
      · rw [upM_same]
        show _ = some (A.sb j, Obj.cells (cellsS { A with av := upF A.av j v' } j { s with ar := l' }) _ _)
        unfold cellsS
        simp only [upF_same]
        rfl
      · rw [upM_other _ _ (by unfold rSt; omega), upM_other _ _ (by unfold rSt rSa; omega)]
        show _ = some (A.sb j, Obj.cells (cellsS { A with av := upF A.av i v' } j t) _ _)
        unfold cellsS
        simp only [upF_other _ _ hne]
        exact h2.st j t ht
    mp := fun j t ht => by
      rw [upM_other _ _ (by unfold rSt rMp; omega), upM_other _ _ (by unfold rSa rMp; omega)]
      rcases set_at ht with ⟨rfl, rfl⟩ | ⟨hne, ht⟩
      · exact h2.mp j s hs
      · exact h2.mp j t ht
    sa := fun j t ht => by
      rw [upM_other _ _ (by unfold rSt rSa; omega)]
      rcases set_at ht with ⟨rfl, rfl⟩ | ⟨hne, ht⟩
      · rw [upM_same]
        show OwnM x _ _ _ (upF A.av j v' j) l'
        rw [upF_same]; exact h3
      · rw [upM_other _ _ (by unfold rSa; omega)]
        show OwnM _ _ _ _ (upF A.av i v' j) _
        rw [upF_other _ _ hne]
        exact h2.sa j t ht
    ak := fun j k hk => by rw [upM_other _ _ (by unfold rSt rAk; omega), upM_other _ _ (by unfold rSa rAk; omega)]; exact h2.ak j k hk
    wa := fun j k hk => by rw [upM_other _ _ (by unfold rSt rWa; omega), upM_other _ _ (by unfold rSa rWa; omega)]; exact h2.wa j k hk
    fx := fun kk b o hx => by show upM _ _ _ (rSt ((D.st.set i _).length + kk)) = _; have := (List.getElem?_eq_some_iff.1 hs).1; rw [List.length_set, upM_other _ _ (by unfold rSt; omega), upM_other _ _ (by unfold rSt rSa; omega)]; exact h2.fx kk b o hx }
/-- Who waits for an ask. -/
theorem PD.setWa (h : PD W B A D) {j : Nat} {k : Akn} (hk : D.ak[j]? = some k) {v' : Value} {l' : List Wtr} (hown : Own W' B 150 2 (encW A.ab) v' l') (hsz : W.heap.size ≤ W'.heap.size) (hkp : KeepB W W' (A.wv j) v') :
    PD (W'.setCell ⟨A.ab j, 5, none⟩ v') B { A with wv := upF A.wv j v' } { D with wa := upF D.wa j l' } := by
  obtain ⟨M, h1, h2⟩ := h
  obtain ⟨x, h3, h4⟩ := h1.grow (r := rWa j) (h2.wa j k hk) hown hsz hkp
  have h5 := h4.set (r := rAk j) (b := A.ab j) (cs := cellsA A j k) (T := 153) (by rw [upM_other _ _ (by unfold rAk rWa; omega)]; exact h2.ak j k hk) 5 v'
  refine ⟨_, h5, ?_⟩
  exact {
    wl := by rw [upM_other _ _ (by unfold rAk rWl; omega), upM_other _ _ (by unfold rWa rWl; omega)]; exact h2.wl
    ss := by rw [upM_other _ _ (by unfold rAk rSs; omega), upM_other _ _ (by unfold rWa rSs; omega)]; exact h2.ss
    go := by rw [upM_other _ _ (by unfold rAk rGo; omega), upM_other _ _ (by unfold rWa rGo; omega)]; exact h2.go
    qu := by rw [upM_other _ _ (by unfold rAk rQu; omega), upM_other _ _ (by unfold rWa rQu; omega)]; exact h2.qu
    st := fun i s hs => by rw [upM_other _ _ (by unfold rSt rAk; omega), upM_other _ _ (by unfold rSt rWa; omega)]; exact h2.st i s hs
    mp := fun i s hs => by rw [upM_other _ _ (by unfold rMp rAk; omega), upM_other _ _ (by unfold rMp rWa; omega)]; exact h2.mp i s hs
    sa := fun i s hs => by rw [upM_other _ _ (by unfold rSa rAk; omega), upM_other _ _ (by unfold rSa rWa; omega)]; exact h2.sa i s hs
    ak := fun i t ht => by
      by_cases e : i = j
      · subst e
        rw [hk] at ht
        cases ht
        rw [upM_same]
        show _ = some (A.ab i, Obj.cells (cellsA { A with wv := upF A.wv i v' } i k) _ _)
        unfold cellsA
        simp only [upF_same]
        rfl
      · rw [upM_other _ _ (by unfold rAk; omega), upM_other _ _ (by unfold rAk rWa; omega)]
        show _ = some (A.ab i, Obj.cells (cellsA { A with wv := upF A.wv j v' } i t) _ _)
        unfold cellsA
        simp only [upF_other _ _ e]
        exact h2.ak i t ht
    wa := fun i t ht => by
      rw [upM_other _ _ (by unfold rAk rWa; omega)]
      by_cases e : i = j
      · subst e
        rw [upM_same]
        show OwnM x _ _ _ (upF A.wv i v' i) (upF D.wa i l' i)
        rw [upF_same, upF_same]; exact h3
      · rw [upM_other _ _ (by unfold rWa; omega)]
        show OwnM _ _ _ _ (upF A.wv j v' i) (upF D.wa j l' i)
        rw [upF_other _ _ e, upF_other _ _ e]; exact h2.wa i t ht
    fx := fun kk b o hx => by rw [upM_other _ _ (by unfold rSt rAk; omega), upM_other _ _ (by unfold rSt rWa; omega)]; exact h2.fx kk b o hx }
/-- The answers to gets. -/
theorem PD.setGo (h : PD W B A D) {g n c : Nat} (hg : A.gv = .slice (some ⟨g, 0, none⟩) n c) {l' : List Gtn} (hown : Own W' B 57 5 encN A.gv l') (hon : Onl g W W') (hsz : W.heap.size ≤ W'.heap.size) : PD W' B A { D with go := l' } := by
  obtain ⟨M, h1, h2⟩ := h
  obtain ⟨x, h3, h4⟩ := h1.grow (r := rGo) h2.go hown hsz (fun b hb hob => by
    rw [hg] at hob
    have hne : b ≠ g := fun e => hob _ _ _ rfl e.symm
    exact ⟨World.grownBy.block hon b hb (fun e => hne (by simpa using e)), by rw [hg]; exact hob⟩)
  refine ⟨_, h4, ?_⟩
  exact {
    wl := by rw [upM_other _ _ (by decide)]; exact h2.wl
    ss := by rw [upM_other _ _ (by decide)]; exact h2.ss
    go := by rw [upM_same]; exact h3
    qu := by rw [upM_other _ _ (by decide)]; exact h2.qu
    st := fun i s hs => by rw [upM_other _ _ (by unfold rSt rGo; omega)]; exact h2.st i s hs
    mp := fun i s hs => by rw [upM_other _ _ (by unfold rMp rGo; omega)]; exact h2.mp i s hs
    sa := fun i s hs => by rw [upM_other _ _ (by unfold rSa rGo; omega)]; exact h2.sa i s hs
    ak := fun i s hs => by rw [upM_other _ _ (by unfold rAk rGo; omega)]; exact h2.ak i s hs
    wa := fun i s hs => by rw [upM_other _ _ (by unfold rWa rGo; omega)]; exact h2.wa i s hs
    fx := fun kk b o hx => by rw [upM_other _ _ (by unfold rSt rGo; omega)]; exact h2.fx kk b o hx }
/-- The numbers of asks are known. -/
structure DNum (D : Day) : Prop where
  qu : ∀ e, e ∈ D.qu → e.ak < D.ak.length
  ar : ∀ (i : Nat) (s : Sto), D.st[i]? = some s → ∀ j, j ∈ s.ar → j < D.ak.length
  wa : ∀ j, j < D.ak.length → ∀ x, x ∈ D.wa j → ∀ a, x.ak = some a → a < D.ak.length
/-- A new ask. -/
theorem PD.newAk (h : PD W B A D) (hn : DNum D) (k : Akn) :
    PD ((W.alloc (.cells #[.int .i64 (k.ca : Nat), .int .i64 (D.ak.length : Nat), .int .i64 k.ma, .string k.ke, .bool k.kp, .slice none 0 0] 153)).setCell ⟨A.q, 6, none⟩ (.int .i64 ((D.ak.length + 1 : Nat) : Int))) B
      { A with ab := upF A.ab D.ak.length W.heap.size, wv := upF A.wv D.ak.length (.slice none 0 0) } { D with ak := D.ak ++ [k], wa := upF D.wa D.ak.length [] } := by
  obtain ⟨M, h1, h2⟩ := h
  obtain ⟨j, hj⟩ : ∃ j, j = D.ak.length := ⟨_, rfl⟩
  have g1 := h1.drop (W' := W) (Nat.le_refl _) (r := rWa j) (fun _ _ _ _ _ => rfl)
  have g2 := g1.new (rAk j) (.cells #[.int .i64 (k.ca : Nat), .int .i64 (D.ak.length : Nat), .int .i64 k.ma, .string k.ke, .bool k.kp, .slice none 0 0] 153 (0, 0))
  have g3 := g2.set (r := rWl) (b := A.q) (cs := cellsW A D) (T := 78) (by rw [upM_other _ _ (by unfold rWl rAk; omega), upM_other _ _ (by unfold rWl rWa; omega)]; exact h2.wl) 6 (.int .i64 ((D.ak.length + 1 : Nat) : Int))
  refine ⟨_, g3, ?_⟩
  have hE : ∀ i, i < D.ak.length → upF A.ab D.ak.length W.heap.size i = A.ab i := fun i hi => upF_other _ _ (by omega)
  rw [← hj] at hE ⊢
  exact {
    wl := by
      rw [upM_same]
      show _ = some (A.q, Obj.cells (cellsW _ _) _ _)
      unfold cellsW
      simp only [List.length_append, List.length_singleton, ← hj]
      rfl
    ss := by rw [upM_other _ _ (by decide), upM_other _ _ (by unfold rSs rAk; omega), upM_other _ _ (by unfold rSs rWa; omega)]; exact h2.ss
    go := by rw [upM_other _ _ (by decide), upM_other _ _ (by unfold rGo rAk; omega), upM_other _ _ (by unfold rGo rWa; omega)]; exact h2.go
    qu := by
      rw [upM_other _ _ (by decide), upM_other _ _ (by unfold rQu rAk; omega), upM_other _ _ (by unfold rQu rWa; omega)]
      exact h2.qu.congr fun e he => encE_congr (hE _ (by rw [hj]; exact hn.qu e he)).symm
    st := fun i s hs => by rw [upM_other _ _ (by unfold rSt rWl; omega), upM_other _ _ (by unfold rSt rAk; omega), upM_other _ _ (by unfold rSt rWa; omega)]; exact h2.st i s hs
    mp := fun i s hs => by rw [upM_other _ _ (by unfold rMp rWl; omega), upM_other _ _ (by unfold rMp rAk; omega), upM_other _ _ (by unfold rMp rWa; omega)]; exact h2.mp i s hs
    sa := fun i s hs => by
      rw [upM_other _ _ (by unfold rSa rWl; omega), upM_other _ _ (by unfold rSa rAk; omega), upM_other _ _ (by unfold rSa rWa; omega)]
      exact (h2.sa i s hs).congr fun e he => by
        show encP A.ab e = encP (upF A.ab j W.heap.size) e
        unfold encP
        rw [hE e (by rw [hj]; exact hn.ar i s hs e he)]
    ak := fun i t ht => by
      rw [upM_other _ _ (by unfold rAk rWl; omega)]
      rcases push_at ht with ⟨e, rfl⟩ | ⟨hi, ht⟩
      · rw [← hj] at e
        subst e
        rw [upM_same]
        show _ = some (upF A.ab i W.heap.size i, Obj.cells (cellsA _ i t) _ _)
        unfold cellsA
        simp only [upF_same]
      · rw [← hj] at hi
        rw [upM_other _ _ (by unfold rAk; omega), upM_other _ _ (by unfold rAk rWa; omega)]
        show _ = some (upF A.ab j W.heap.size i, Obj.cells (cellsA _ i t) _ _)
        unfold cellsA
        simp only [upF_other _ _ (Nat.ne_of_lt hi)]
        exact h2.ak i t ht
    wa := fun i t ht => by
      rw [upM_other _ _ (by unfold rWa rWl; omega), upM_other _ _ (by unfold rWa rAk; omega)]
      rcases push_at ht with ⟨e, rfl⟩ | ⟨hi, ht⟩
      · rw [← hj] at e
        subst e
        rw [upM_same]
        show OwnM _ _ _ _ (upF A.wv i (.slice none 0 0) i) (upF D.wa i [] i)
        rw [upF_same, upF_same]
        exact .inl ⟨rfl, rfl, rfl⟩
      · rw [← hj] at hi
        rw [upM_other _ _ (by unfold rWa; omega)]
        show OwnM _ _ _ _ (upF A.wv j _ i) (upF D.wa j [] i)
        rw [upF_other _ _ (Nat.ne_of_lt hi), upF_other _ _ (Nat.ne_of_lt hi)]
        exact (h2.wa i t ht).congr fun x hx => by
          show encW A.ab x = encW (upF A.ab j W.heap.size) x
          unfold encW
          cases hxa : x.ak with
          | none => rfl
          | some a =>
            have := hn.wa i (by rw [← hj]; exact hi) x hx a hxa
            simp only [Option.map_some]
            rw [hE a (by rw [hj]; exact this)]
    fx := fun kk b o hx => by rw [upM_other _ _ (by unfold rSt rWl; omega), upM_other _ _ (by unfold rSt rAk; omega), upM_other _ _ (by unfold rSt rWa; omega)]; exact h2.fx kk b o hx }
end
end Go.Proofs.YtehbmnkbmgnkfaaGreatDoor

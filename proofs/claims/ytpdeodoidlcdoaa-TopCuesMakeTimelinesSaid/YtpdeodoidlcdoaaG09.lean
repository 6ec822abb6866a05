/- Names: kit.IsName and the reference's IsName answer nameB. -/
import Derived.Test.YtpdeodoidlcdoaaG01
import Derived.Test.YtpdeodoidlcdoaaProg
import Derived.Test.YtpdeodoidlcdoaaG05
namespace Go.Proofs.Ytpdeodoidlcdoaa
open Go.RowKit

def letterI (n : Int) : Bool := decide (97 ≤ n) && decide (n ≤ 122)
def digitI (n : Int) : Bool := decide (48 ≤ n) && decide (n ≤ 57)
def okI (n : Int) : Bool := letterI n || digitI n || n == 45
/-- The byte at a place, as a number. -/
def chr (s : ByteArray) (i : Nat) : Int := (s[i]!.toNat : Int)
theorem chr_of {s : ByteArray} {i : Nat} (h : i < s.size) : ((s[i]'h).toNat : Int) = chr s i := by
  unfold chr
  rw [getElem!_pos s i h]
/-- Is it a name? -/
def nameB (s : ByteArray) : Bool := decide (0 < s.size) && decide (s.size ≤ 40) && letterI (chr s 0) && (List.range s.size).all fun i => okI (chr s i)

theorem nameB_no {s : ByteArray} {i : Nat} (h : i < s.size) (hi : okI (chr s i) = false) : nameB s = false := by
  unfold nameB
  have : ((List.range s.size).all fun i => okI (chr s i)) = false := by
    rw [List.all_eq_false]
    exact ⟨i, List.mem_range.2 h, by simp [hi]⟩
  simp [this]

theorem nameB_yes {s : ByteArray} (h0 : 0 < s.size) (h40 : s.size ≤ 40) (hl : letterI (chr s 0) = true) (h : ∀ i, i < s.size → okI (chr s i) = true) : nameB s = true := by
  unfold nameB
  have : ((List.range s.size).all fun i => okI (chr s i)) = true := List.all_eq_true.2 fun i hi => h i (List.mem_range.1 hi)
  simp [this, h0, h40, hl]

theorem letter_any (n : Int) (w : World) : Calls Try.prog 51 #[.int .u8 n] w fun e w' => e = .returned (.bool (letterI n)) ∧ w = w' := by
  by_cases h : 97 ≤ n
  · go_enter Try.func51, Try.ntmps51
    go_wp2
    go_ret
    exact ⟨ret_bool (by simp [letterI, h]), rfl⟩
  · have h' : decide (97 ≤ n) = false := by simp; omega
    go_enter Try.func51, Try.ntmps51
    go_wp2
    go_ret
    exact ⟨ret_bool (by simp [letterI, h']), rfl⟩

theorem digit_any (n : Int) (w : World) : Calls Try.prog 52 #[.int .u8 n] w fun e w' => e = .returned (.bool (digitI n)) ∧ w = w' := by
  by_cases h : 48 ≤ n
  · go_enter Try.func52, Try.ntmps52
    go_wp2
    go_ret
    exact ⟨ret_bool (by simp [digitI, h]), rfl⟩
  · have h' : decide (48 ≤ n) = false := by simp; omega
    go_enter Try.func52, Try.ntmps52
    go_wp2
    go_ret
    exact ⟨ret_bool (by simp [digitI, h']), rfl⟩

set_option maxHeartbeats 1000000 in
theorem isName_any (s : ByteArray) (w : World) (hs : s.size ≤ 9223372036854775807) :
    Calls Try.prog 40 #[.string s] w fun e w' => e = .returned (.bool (nameB s)) ∧ w = w' := by
  by_cases h0 : s.size = 0
  · have hv : Hid (false = nameB s) := Lib.hid (by simp [nameB, h0])
    have e0 : ((s.size : Int) == 0) = true := by simp [h0]
    clear h0
    go_enter Try.func40, Try.ntmps40
    go_wp2_with fail
    go_ret
    exact ⟨ret_bool hv.out, rfl⟩
  have e0 : ((s.size : Int) == 0) = false := by simp [h0]
  have hp : 0 < s.size := by omega
  by_cases h40 : 40 < s.size
  · have hv : Hid (false = nameB s) := Lib.hid (by simp [nameB]; omega)
    clear h0
    go_enter Try.func40, Try.ntmps40
    go_wp2_with fail
    go_ret
    exact ⟨ret_bool hv.out, rfl⟩
  have hc0 := chr_of hp
  cases hl : letterI (chr s 0)
  case false =>
    have hv : Hid (false = nameB s) := Lib.hid (by simp [nameB, hl])
    clear h0
    go_enter Try.func40, Try.ntmps40
    go_wp2_with (go_at_call 51; refine (letter_any _ _).mono ?_; rintro e w' ⟨rfl, rfl⟩)
    go_ret
    exact ⟨ret_bool hv.out, rfl⟩
  have HY := Lib.hid (nameB_yes hp (by omega) hl)
  have HN := Lib.hid (fun i h => @nameB_no s i h)
  clear h0
  go_enter Try.func40, Try.ntmps40
  go_wp2_with (go_at_call 51; refine (letter_any _ _).mono ?_; rintro e w' ⟨rfl, rfl⟩)
  clear hl hc0
  go_loop [20] (fun s20 => ∃ kk : Nat, kk ≤ s.size ∧ s20 = .int .i64 kk ∧ Aside (∀ j, j < kk → okI (chr s j) = true)) (fun i => s.size - (intOf i).toNat)
  case atStart => exact ⟨0, Nat.zero_le _, rfl, fun j hj => absurd hj (Nat.not_lt_zero _)⟩
  case round =>
    obtain ⟨kk, hkk, rfl, A⟩ := hrel
    by_cases hlt : kk < s.size
    · have hltz : (kk : Int) < (s.size : Int) := by omega
      have hc := chr_of hlt
      have hok : Hid (okI (chr s kk) = !(!letterI (chr s kk) && !digitI (chr s kk) && (chr s kk != 45))) := Lib.hid (by
        unfold okI
        cases letterI (chr s kk) <;> cases digitI (chr s kk) <;> simp [bne])
      go_upto_region 6 with (fail)
      go_cut [40] (fun s40 w2 => s40 = .bool (!letterI (chr s kk) && !digitI (chr s kk) && (chr s kk != 45)) ∧ w = w2)
      case first =>
        cases h1 : letterI (chr s kk) <;> cases h2 : digitI (chr s kk)
        all_goals
          go_wp2_with (first | (go_at_call 51; refine (letter_any _ _).mono ?_; rintro e w' ⟨rfl, rfl⟩) | (go_at_call 52; refine (digit_any _ _).mono ?_; rintro e w' ⟨rfl, rfl⟩))
          go_meet
          exact ⟨by simp [*], rfl⟩
      obtain ⟨rfl, rfl⟩ := hcut
      generalize hO : (!letterI (chr s kk) && !digitI (chr s kk) && (chr s kk != 45)) = O at hok
      have HO := Lib.hid hO
      clear hO
      cases O
      case true =>
        have hv : Hid (false = nameB s) := Lib.hid (HN.out kk hlt (by rw [hok.out]; rfl)).symm
        go_wp2
        go_ret
        exact ⟨ret_bool hv.out, rfl⟩
      case false =>
        go_wp2
        go_round
        case rel =>
          refine ⟨kk + 1, by omega, by go_num, (show Aside _ from fun j hj => ?_)⟩
          by_cases e : j = kk
          · rw [e, hok.out]; rfl
          · exact A.out j (by omega)
        case measure => simp [intOf]; omega
    · obtain rfl : kk = s.size := by omega
      have hv : Hid (true = nameB s) := Lib.hid (HY.out A.out).symm
      go_wp2
      go_ret
      exact ⟨ret_bool hv.out, rfl⟩

end Go.Proofs.Ytpdeodoidlcdoaa

/- Choices of advertisements: which is better, and the best one; plain. -/
namespace Go.Proofs.Ytpdeodoidlcdoaa
open Go.RowKit

structure Adv where
  na : ByteArray
  ln : Int
  va : Int
  ri : ByteArray
instance : Inhabited Adv := ⟨⟨ByteArray.empty, 0, 0, ByteArray.empty⟩⟩
def encA (a : Adv) : List Value := [.string a.na, .int .i64 a.ln, .int .i64 a.va, .string a.ri]
theorem encA_len (a : Adv) : (encA a).length = 4 := rfl
def WfF (a : Adv) : Prop := a.na.size ≤ 9223372036854775807 ∧ a.ri.size ≤ 9223372036854775807

/-- An advertisement by its number. -/
def adAt (l : List Adv) (k : Int) : Adv := l.getD k.toNat default
def selV (l : List Adv) (L : List Int) : Int := (L.map fun k => (adAt l k).va).sum
def selL (l : List Adv) (L : List Int) : Int := (L.map fun k => (adAt l k).ln).sum
theorem selV_snoc (l : List Adv) (L : List Int) (k : Int) : selV l (L ++ [k]) = selV l L + (adAt l k).va := by simp [selV]
theorem selL_snoc (l : List Adv) (L : List Int) (k : Int) : selL l (L ++ [k]) = selL l L + (adAt l k).ln := by simp [selL]

/-- Are two advertisements of one rival? -/
def riv (l : List Adv) (a b : Int) : Bool := !(adAt l b).ri.toList.isEmpty && (adAt l a).ri.toList == (adAt l b).ri.toList

/-- Does a choice come before another one? -/
def betB (l : List Adv) (A B : List Int) : Bool :=
  if selV l A ≠ selV l B then decide (selV l B < selV l A) else if selL l A ≠ selL l B then decide (selL l B < selL l A) else if A.length ≠ B.length then decide (A.length < B.length) else decide (A < B)

theorem betB_iff (l : List Adv) (A B : List Int) : betB l A B = true ↔ selV l B < selV l A ∨ (selV l A = selV l B ∧ (selL l B < selL l A ∨ (selL l A = selL l B ∧ (A.length < B.length ∨ (A.length = B.length ∧ A < B))))) := by
  unfold betB
  split
  · simp only [decide_eq_true_eq]; constructor
    · exact fun h => .inl h
    · rintro (h | ⟨h, _⟩)
      · exact h
      · contradiction
  split
  · simp only [decide_eq_true_eq]; constructor
    · exact fun h => .inr ⟨by omega, .inl h⟩
    · rintro (h | ⟨_, h | ⟨h, _⟩⟩)
      · omega
      · exact h
      · contradiction
  split
  · simp only [decide_eq_true_eq]; constructor
    · exact fun h => .inr ⟨by omega, .inr ⟨by omega, .inl h⟩⟩
    · rintro (h | ⟨_, h | ⟨_, h | ⟨h, _⟩⟩⟩)
      · omega
      · omega
      · exact h
      · contradiction
  · simp only [decide_eq_true_eq]; constructor
    · exact fun h => .inr ⟨by omega, .inr ⟨by omega, .inr ⟨by omega, h⟩⟩⟩
    · rintro (h | ⟨_, h | ⟨_, h | ⟨_, h⟩⟩⟩)
      · omega
      · omega
      · omega
      · exact h

theorem betB_irr (l : List Adv) (A : List Int) : betB l A A = false := by
  rw [Bool.eq_false_iff]
  intro h
  rw [betB_iff] at h
  rcases h with h | ⟨_, h | ⟨_, h | ⟨_, h⟩⟩⟩
  · omega
  · omega
  · omega
  · exact List.lt_irrefl _ h

theorem betB_trans {l : List Adv} {A B C : List Int} (h : betB l A B = true) (k : betB l B C = true) : betB l A C = true := by
  rw [betB_iff] at *
  rcases h with h | ⟨h0, h | ⟨h1, h | ⟨h2, h⟩⟩⟩ <;> rcases k with k | ⟨k0, k | ⟨k1, k | ⟨k2, k⟩⟩⟩
  case inr.inr.inr.inr.inr.inr => exact .inr ⟨by omega, .inr ⟨by omega, .inr ⟨by omega, List.lt_trans h k⟩⟩⟩
  all_goals first | (left; omega) | (right; refine ⟨by omega, ?_⟩; first | (left; omega) | (right; refine ⟨by omega, ?_⟩; left; omega))

theorem betB_total {l : List Adv} {A B : List Int} (h : betB l A B = false) (k : betB l B A = false) : A = B := by
  rw [Bool.eq_false_iff] at h k
  have h' := fun x => h ((betB_iff l A B).2 x)
  have k' := fun x => k ((betB_iff l B A).2 x)
  have e1 : selV l A = selV l B := by
    apply Int.le_antisymm
    · exact Int.not_lt.1 fun x => h' (.inl x)
    · exact Int.not_lt.1 fun x => k' (.inl x)
  have e2 : selL l A = selL l B := by
    apply Int.le_antisymm
    · exact Int.not_lt.1 fun x => h' (.inr ⟨e1, .inl x⟩)
    · exact Int.not_lt.1 fun x => k' (.inr ⟨e1.symm, .inl x⟩)
  have e3 : A.length = B.length := by
    apply Nat.le_antisymm
    · exact Nat.not_lt.1 fun x => k' (.inr ⟨e1.symm, .inr ⟨e2.symm, .inl x⟩⟩)
    · exact Nat.not_lt.1 fun x => h' (.inr ⟨e1, .inr ⟨e2, .inl x⟩⟩)
  have e4 : ¬ A < B := fun x => h' (.inr ⟨e1, .inr ⟨e2, .inr ⟨e3, x⟩⟩⟩)
  have e5 : ¬ B < A := fun x => k' (.inr ⟨e1.symm, .inr ⟨e2.symm, .inr ⟨e3.symm, x⟩⟩⟩)
  exact Std.le_antisymm (List.not_lt.1 e5) (List.not_lt.1 e4)

/-- The better of a choice and another one. -/
def upB (l : List Adv) (B B' : List Int) : Prop := B' = B ∨ betB l B' B = true
theorem upB.refl (l : List Adv) (B : List Int) : upB l B B := .inl rfl
theorem upB.trans {l : List Adv} {A B C : List Int} (h : upB l A B) (k : upB l B C) : upB l A C := by
  rcases k with rfl | k
  · exact h
  · rcases h with rfl | h
    · exact .inr k
    · exact .inr (betB_trans k h)
theorem upB.no {l : List Adv} {X B B' : List Int} (h : upB l B B') (hx : betB l X B = false) : betB l X B' = false := by
  rcases h with rfl | h
  · exact hx
  · rw [Bool.eq_false_iff] at hx ⊢
    exact fun k => hx (betB_trans k h)

/-- A choice that is right: numbers that rise, no two of one rival, not longer than there is room. -/
structure okL (l : List Adv) (m : Int) (L : List Int) : Prop where
  rng : ∀ k, k ∈ L → 0 ≤ k ∧ k < l.length
  inc : L.Pairwise (· < ·)
  riv : L.Pairwise (fun a b => riv l a b = false)
  len : selL l L ≤ m

theorem sum_nonneg {f : Int → Int} : ∀ {L : List Int}, (∀ k, k ∈ L → 0 ≤ f k) → 0 ≤ (L.map f).sum
  | [], _ => by simp
  | k :: r, h => by
    have h1 := h k (by simp)
    have h2 := sum_nonneg (f := f) (L := r) fun j hj => h j (by simp [hj])
    simp; omega

theorem okL.pre {l : List Adv} {m : Int} {L R : List Int} (h : okL l m (L ++ R)) (h0 : ∀ a, a ∈ l → 0 ≤ a.ln) : okL l m L := by
  obtain ⟨h1, h2, h3, h4⟩ := h
  refine ⟨fun k hk => h1 k (List.mem_append_left _ hk), (List.pairwise_append.1 h2).1, (List.pairwise_append.1 h3).1, ?_⟩
  have h5 : 0 ≤ selL l R := sum_nonneg fun k hk => by
    have hb := h1 k (List.mem_append_right _ hk)
    unfold adAt
    rw [getD_of (List.getElem?_eq_getElem (by omega : k.toNat < l.length))]
    exact h0 _ (List.getElem_mem _)
  have e : selL l (L ++ R) = selL l L + selL l R := by simp [selL]
  omega

/-- A choice that is the best of all that are right. -/
def bestL (l : List Adv) (m : Int) (B : List Int) : Prop := okL l m B ∧ ∀ X, okL l m X → betB l X B = false
theorem bestL.one {l : List Adv} {m : Int} {A B : List Int} (h : bestL l m A) (k : bestL l m B) : A = B := betB_total (k.2 A h.1) (h.2 B k.1)

/-- All choices that begin so, and go on with numbers from i on, are no better. -/
def coverL (l : List Adv) (m : Int) (P : List Int) (i : Int) (B : List Int) : Prop := ∀ R, okL l m (P ++ R) → (∀ r, r ∈ R → i ≤ r) → betB l (P ++ R) B = false
theorem coverL.up {l : List Adv} {m : Int} {P : List Int} {i : Int} {B B' : List Int} (h : coverL l m P i B) (k : upB l B B') : coverL l m P i B' := fun R h1 h2 => k.no (h R h1 h2)
/-- All those but what goes on with numbers from k on. -/
def coverTo (l : List Adv) (m : Int) (P : List Int) (i k : Int) (B : List Int) : Prop := ∀ R, okL l m (P ++ R) → (∀ r, r ∈ R → i ≤ r) → (∀ r, R.head? = some r → r < k) → betB l (P ++ R) B = false
theorem coverTo.up {l : List Adv} {m : Int} {P : List Int} {i k : Int} {B B' : List Int} (h : coverTo l m P i k B) (u : upB l B B') : coverTo l m P i k B' := fun R h1 h2 h3 => u.no (h R h1 h2 h3)
theorem coverTo.start {l : List Adv} {m : Int} {P : List Int} {i : Int} {B : List Int} (h : betB l P B = false) : coverTo l m P i i B := fun R _ h2 h3 => by
  cases R with
  | nil => simpa using h
  | cons r R => have := h2 r (by simp); have := h3 r (by simp); omega
theorem coverTo.skip {l : List Adv} {m : Int} {P : List Int} {i k : Int} {B : List Int} (h : coverTo l m P i k B) (hno : ¬ okL l m (P ++ [k])) (h0 : ∀ a, a ∈ l → 0 ≤ a.ln) : coverTo l m P i (k + 1) B := fun R h1 h2 h3 => by
  cases R with
  | nil => exact h [] h1 h2 (by simp)
  | cons r R =>
    by_cases e : r = k
    · subst e
      exact absurd (okL.pre (R := R) (by simpa using h1) h0) hno
    · exact h _ h1 h2 fun r' hr => by
        have := h3 r (by simp)
        simp at hr; omega
theorem coverTo.take {l : List Adv} {m : Int} {P : List Int} {i k : Int} {B B' : List Int} (h : coverTo l m P i k B) (u : upB l B B') (hc : coverL l m (P ++ [k]) (k + 1) B') : coverTo l m P i (k + 1) B' := fun R h1 h2 h3 => by
  cases R with
  | nil => exact (h.up u) [] h1 h2 (by simp)
  | cons r R =>
    by_cases e : r = k
    · subst e
      have := hc R (by simpa using h1) fun r' hr => by
        have h4 := (List.pairwise_append.1 h1.inc).2.1
        have := (List.pairwise_cons.1 h4).1 r' hr
        omega
      simpa using this
    · exact (h.up u) _ h1 h2 fun r' hr => by
        have := h3 r (by simp)
        simp at hr; omega
theorem coverTo.done {l : List Adv} {m : Int} {P : List Int} {i k : Int} {B : List Int} (h : coverTo l m P i k B) (hk : (l.length : Int) ≤ k) : coverL l m P i B := fun R h1 h2 => h R h1 h2 fun r hr => by
  have := (h1.rng r (List.mem_append_right _ (List.mem_of_head? hr))).2
  omega
theorem coverL.best {l : List Adv} {m : Int} {B : List Int} (h : coverL l m [] 0 B) (hB : okL l m B) : bestL l m B := ⟨hB, fun X hX => by
  have := h X (by simpa using hX) fun r hr => (hX.rng r hr).1
  simpa using this⟩

theorem okL_nil (l : List Adv) {m : Int} (hm : 0 ≤ m) : okL l m [] := ⟨by simp, .nil, .nil, by simpa [selL] using hm⟩
theorem okL_snoc {l : List Adv} {m : Int} {P : List Int} {k : Int} (h : okL l m P) (hk : 0 ≤ k) (hk2 : k < l.length) (hlt : ∀ j, j ∈ P → j < k) (hr : (P.any fun j => riv l j k) = false) (hl : selL l P + (adAt l k).ln ≤ m) : okL l m (P ++ [k]) := by
  obtain ⟨h1, h2, h3, h4⟩ := h
  rw [List.any_eq_false] at hr
  refine ⟨fun j hj => ?_, ?_, ?_, by rw [selL_snoc]; exact hl⟩
  · rcases List.mem_append.1 hj with h | h
    · exact h1 j h
    · simp at h; subst h; exact ⟨hk, hk2⟩
  · rw [List.pairwise_append]; exact ⟨h2, List.pairwise_singleton _ _, fun a ha b hb => by simp at hb; subst hb; exact hlt a ha⟩
  · rw [List.pairwise_append]; exact ⟨h3, List.pairwise_singleton _ _, fun a ha b hb => by simp at hb; subst hb; simpa using hr a ha⟩
theorem not_okL_rival {l : List Adv} {m : Int} {P : List Int} {k : Int} (hr : (P.any fun j => riv l j k) = true) : ¬ okL l m (P ++ [k]) := fun h => by
  obtain ⟨j, hj, hjk⟩ := List.any_eq_true.1 hr
  have := (List.pairwise_append.1 h.riv).2.2 j hj k (by simp)
  rw [this] at hjk
  cases hjk
theorem not_okL_long {l : List Adv} {m : Int} {P : List Int} {k : Int} (hl : m < selL l P + (adAt l k).ln) : ¬ okL l m (P ++ [k]) := fun h => by
  have := h.len
  rw [selL_snoc] at this
  omega

/-- The numbers below n whose bits are set. -/
def bitsL (bit : Nat → Bool) : Nat → List Int
  | 0 => []
  | n + 1 => if bit n then bitsL bit n ++ [(n : Int)] else bitsL bit n
theorem bitsL_rng (bit : Nat → Bool) : ∀ n k, k ∈ bitsL bit n → 0 ≤ k ∧ k < n
  | 0, k, h => by simp [bitsL] at h
  | n + 1, k, h => by
    unfold bitsL at h
    split at h
    · rcases List.mem_append.1 h with h | h
      · have := bitsL_rng bit n k h; omega
      · simp at h; omega
    · have := bitsL_rng bit n k h; omega
theorem bitsL_inc (bit : Nat → Bool) : ∀ n, (bitsL bit n).Pairwise (· < ·)
  | 0 => .nil
  | n + 1 => by
    unfold bitsL
    split
    · rw [List.pairwise_append]; exact ⟨bitsL_inc bit n, List.pairwise_singleton _ _, fun a ha b hb => by simp at hb; have := bitsL_rng bit n a ha; omega⟩
    · exact bitsL_inc bit n
theorem bitsL_mem (bit : Nat → Bool) : ∀ n (k : Nat), ((k : Int) ∈ bitsL bit n ↔ k < n ∧ bit k = true)
  | 0, k => by simp [bitsL]
  | n + 1, k => by
    unfold bitsL
    have ih := bitsL_mem bit n k
    split
    · rename_i hb
      rw [List.mem_append, ih]
      constructor
      · rintro (h | h)
        · exact ⟨by omega, h.2⟩
        · simp at h; have : k = n := by omega
          subst this; exact ⟨by omega, hb⟩
      · rintro ⟨h1, h2⟩
        by_cases e : k = n
        · subst e; right; simp
        · left; exact ⟨by omega, h2⟩
    · rename_i hb
      rw [ih]
      constructor
      · exact fun h => ⟨by omega, h.2⟩
      · rintro ⟨h1, h2⟩
        by_cases e : k = n
        · subst e; contradiction
        · exact ⟨by omega, h2⟩
theorem bitsL_congr {f g : Nat → Bool} : ∀ n, (∀ k, k < n → f k = g k) → bitsL f n = bitsL g n
  | 0, _ => rfl
  | n + 1, h => by
    unfold bitsL
    rw [bitsL_congr n (fun k hk => h k (by omega)), h n (by omega)]

def natBit (s : Nat) (k : Nat) : Bool := decide (s / 2 ^ k % 2 ≠ 0)
/-- Every choice of numbers that rise is one of bits. -/
theorem bits_all : ∀ (n : Nat) (L : List Int), (∀ k, k ∈ L → 0 ≤ k ∧ k < n) → L.Pairwise (· < ·) → ∃ s, s < 2 ^ n ∧ bitsL (natBit s) n = L
  | 0, L, h, _ => by
    refine ⟨0, by simp, ?_⟩
    cases L with
    | nil => rfl
    | cons k r => have := h k (by simp); omega
  | n + 1, L, h, hp => by
    by_cases hn : (n : Int) ∈ L
    · obtain ⟨A, B, rfl⟩ := List.append_of_mem hn
      rw [List.pairwise_append] at hp
      have hB : B = [] := by
        cases B with
        | nil => rfl
        | cons b r =>
          have h1 := (List.pairwise_cons.1 hp.2.1).1 b (by simp)
          have h2 := h b (by simp)
          omega
      subst hB
      obtain ⟨s, hs, he⟩ := bits_all n A (fun k hk => by
        have h1 := h k (by simp [hk])
        have h2 := hp.2.2 k hk (n : Int) (by simp)
        omega) hp.1
      refine ⟨s + 2 ^ n, by rw [Nat.pow_succ]; omega, ?_⟩
      unfold bitsL
      have hb : natBit (s + 2 ^ n) n = true := by
        unfold natBit
        rw [Nat.add_div_right _ (Nat.pow_pos (by omega)), Nat.div_eq_of_lt hs]; rfl
      rw [hb, if_pos rfl, ← he]
      congr 1
      refine bitsL_congr n fun k hk => ?_
      unfold natBit
      have e : 2 ^ n = 2 ^ k * (2 * 2 ^ (n - k - 1)) := by rw [← Nat.mul_assoc, ← Nat.pow_succ, ← Nat.pow_add]; congr 1; omega
      rw [e, Nat.add_mul_div_left _ _ (Nat.pow_pos (by omega)), Nat.add_mul_mod_self_left]
    · obtain ⟨s, hs, he⟩ := bits_all n L (fun k hk => by
        have h1 := h k hk
        have h2 : k ≠ n := fun e => hn (e ▸ hk)
        omega) hp
      refine ⟨s, by rw [Nat.pow_succ]; omega, ?_⟩
      unfold bitsL
      have hb : natBit s n = false := by
        unfold natBit
        rw [Nat.div_eq_of_lt hs]; rfl
      rw [hb]
      exact he
end Go.Proofs.Ytpdeodoidlcdoaa

/- slices.Compare at ints. -/
namespace Go.Proofs.Ytpdeodoidlcdoaa
open Go.RowKit

theorem lt_at (a b : Int) (R S : List Int) : ∀ P : List Int, a < b → P ++ a :: R < P ++ b :: S
  | [], h => List.cons_lt_cons_iff.2 (.inl h)
  | _ :: P, h => List.cons_lt_cons_iff.2 (.inr ⟨rfl, lt_at a b R S P h⟩)
theorem split_at {A : List Int} {k : Nat} {a : Int} (h : A[k]? = some a) : A = A.take k ++ a :: A.drop (k + 1) := by
  obtain ⟨hk, rfl⟩ := List.getElem?_eq_some_iff.1 h
  rw [List.getElem_cons_drop, List.take_append_drop]
theorem lt_hit {A B : List Int} {k : Nat} {a b : Int} (h : A.take k = B.take k) (ha : A[k]? = some a) (hb : B[k]? = some b) (hab : a < b) : A < B := by
  rw [split_at ha, split_at hb, h]
  exact lt_at a b _ _ _ hab

theorem isNaN_any (n : Int) (w : World) : Calls Try.prog 58 #[.int .i64 n] w fun e w' => e = .returned (.bool false) ∧ w = w' := by
  go_enter Try.func58, Try.ntmps58
  go_wp2
  go_ret
  exact ⟨by simp, rfl⟩

def cmpI (a b : Int) : Int := if a < b then -1 else if b < a then 1 else 0
theorem cmp_any (a b : Int) (w : World) : Calls Try.prog 57 #[.int .i64 a, .int .i64 b] w fun e w' => e = .returned (.int .i64 (cmpI a b)) ∧ w = w' := by
  have HC : Hid (cmpI a b = if a < b then -1 else if b < a then 1 else 0) := Lib.hid rfl
  generalize cmpI a b = c at HC ⊢
  by_cases h1 : a < b
  · have hv : Hid (-1 = c) := Lib.hid (by rw [HC.out, if_pos h1])
    go_enter Try.func57, Try.ntmps57
    go_wp2_with (go_at_call 58; refine (isNaN_any _ _).mono ?_; rintro e w' ⟨rfl, rfl⟩)
    go_ret
    exact ⟨ret_int hv.out, rfl⟩
  by_cases h2 : b < a
  · have hv : Hid (1 = c) := Lib.hid (by rw [HC.out, if_neg h1, if_pos h2])
    go_enter Try.func57, Try.ntmps57
    go_wp2_with (go_at_call 58; refine (isNaN_any _ _).mono ?_; rintro e w' ⟨rfl, rfl⟩)
    go_ret
    exact ⟨ret_int hv.out, rfl⟩
  · have hv : Hid (0 = c) := Lib.hid (by rw [HC.out, if_neg h1, if_neg h2])
    go_enter Try.func57, Try.ntmps57
    go_wp2_with (go_at_call 58; refine (isNaN_any _ _).mono ?_; rintro e w' ⟨rfl, rfl⟩)
    go_ret
    exact ⟨ret_int hv.out, rfl⟩

def LtP (w : World) (A B : List Int) : Ending → World → Prop := fun e w' => ∃ c : Int, e = .returned (.int .i64 c) ∧ decide (c < 0) = decide (A < B) ∧ w = w'

set_option maxHeartbeats 1000000 in
/-- slices.Compare of two slices of one length. -/
theorem compare_any (w : World) (A B : List Int) (v u : Value) (hA : Sl w 1 encI v A) (hB : Sl w 1 encI u B) (hAB : A.length = B.length) :
    Calls Try.prog 54 #[v, u] w (LtP w A B) := by
  obtain ⟨ao, cap, rfl, hcap, hmax, hnil, hel⟩ := hA
  obtain ⟨bo, bap, rfl, hbap, hbax, hbil, hem⟩ := hB
  unfold maxLen at hmax hbax
  obtain ⟨n, hn⟩ : ∃ n, n = A.length := ⟨_, rfl⟩
  rw [← hn] at hAB hcap ⊢
  rw [← hAB] at hbap ⊢
  have HN := Lib.hid hn
  have HM := Lib.hid hAB
  clear hn hAB
  go_enter Try.func54, Try.ntmps54
  go_wp2
  go_loop [5, 6, 7, 8, 11] (fun _ _ _ _ s11 => ∃ kk : Nat, kk ≤ n ∧ s11 = .int .i64 kk ∧ Aside (A.take kk = B.take kk)) (fun _ _ _ _ i => n - (intOf i).toNat)
  case atStart => exact ⟨0, Nat.zero_le _, rfl, (show Aside _ from rfl)⟩
  case round =>
    obtain ⟨kk, hkk, rfl, HP⟩ := hrel
    by_cases hlt : kk < n
    · have hltz : (kk : Int) < (n : Int) := by omega
      have hltn : ¬ (n : Int) ≤ (kk : Int) := by omega
      have hlA : kk < A.length := by rw [← HN.out]; exact hlt
      have hlB : kk < B.length := by rw [← HM.out]; exact hlt
      obtain ⟨x, hx⟩ : ∃ x, A[kk]? = some x := ⟨A[kk], by simp [hlA]⟩
      obtain ⟨y, hy⟩ : ∃ x, B[kk]? = some x := ⟨B[kk], by simp [hlB]⟩
      obtain ⟨b, off, rfl, hc⟩ := hel kk x hx
      obtain ⟨b', off', rfl, hd⟩ := hem kk y hy
      have c0 : w.cell? ⟨b, off + kk, none⟩ = some (.int .i64 x) := by simpa using hc 0 _ rfl
      have d0 : w.cell? ⟨b', off' + kk, none⟩ = some (.int .i64 y) := by simpa using hd 0 _ rfl
      have HX := Lib.hid hx
      have HY := Lib.hid hy
      have hcm := cmp_any x y
      have HC : Hid (cmpI x y = if x < y then -1 else if y < x then 1 else 0) := Lib.hid rfl
      clear hx hy hc hd hel hem hlA hlB
      generalize cmpI x y = c at hcm HC
      cases e : (c != 0)
      case true =>
        have hv : Hid (decide (c < 0) = decide (A < B)) := Lib.hid (by
          have e' : c ≠ 0 := by simpa using e
          rw [HC.out] at e' ⊢
          split
          · rename_i h
            rw [decide_eq_true (lt_hit HP.out HX.out HY.out h)]; rfl
          · rename_i h
            split
            · rename_i h2
              rw [decide_eq_false (fun h3 => List.lt_irrefl _ (List.lt_trans h3 (lt_hit HP.out.symm HY.out HX.out h2)))]; rfl
            · rename_i h2
              rw [if_neg h, if_neg h2] at e'
              exact absurd rfl e')
        go_wp2_with (go_at_call 57; refine (hcm _).mono ?_; rintro e w' ⟨rfl, rfl⟩)
        go_ret
        exact ⟨_, rfl, hv.out, rfl⟩
      case false =>
        have hxy : Hid (x = y) := Lib.hid (by
          have e' : c = 0 := by simpa using e
          rw [HC.out] at e'
          split at e'
          · simp at e'
          · split at e'
            · simp at e'
            · omega)
        go_wp2_with (go_at_call 57; refine (hcm _).mono ?_; rintro e w' ⟨rfl, rfl⟩)
        go_round
        case rel => exact ⟨kk + 1, by omega, by go_num, (show Aside _ from (show A.take (kk + 1) = B.take (kk + 1) by rw [take_next HX.out, take_next HY.out, HP.out, hxy.out]))⟩
        case measure => simp [intOf]; omega
    · obtain rfl : kk = n := by omega
      have hv : Hid (decide ((0 : Int) < 0) = decide (A < B)) := Lib.hid (by
        have h := HP.out
        rw [List.take_of_length_le (Nat.le_of_eq HN.out.symm), List.take_of_length_le (Nat.le_of_eq HM.out.symm)] at h
        rw [h, decide_eq_false (List.lt_irrefl B)]
        rfl)
      clear hel hem
      go_wp2
      go_ret
      exact ⟨_, rfl, hv.out, rfl⟩
end Go.Proofs.Ytpdeodoidlcdoaa

/- first and Pick of the program. -/
import Derived.Test.YteepbfpcdhdgfaaDoorG11
import Derived.Sort.Walk0
namespace Go.Proofs.YteepbfpcdhdgfaaDoor
open Go.RowKit

/-- The first cache for a key; empty: there is none. -/
def fstL (k : ByteArray) (L : List ByteArray) : ByteArray := (pickL k L).headD ⟨#[]⟩
theorem fstL_nil (k : ByteArray) : fstL k [] = ⟨#[]⟩ := rfl
set_option maxHeartbeats 1000000 in
theorem firstE_any (w : World) (L : List ByteArray) (v : Value) (k : ByteArray) (hl : Sl w 1 encN v L) (hn : L.length ≤ 30) (hL : ∀ a, a ∈ L → a.size ≤ 40) (hk : k.size ≤ 300) (hpl : (pickL k L).length = L.length) :
    Calls Tryd.prog 18 #[v, .string k] w fun e w' => e = .returned (.string (fstL k L)) ∧ Below w.heap.size w w' := by
  have HP := Lib.hid (pick_any w L v k hl hn hL hk)
  obtain ⟨ao, cap, rfl, -, -, -, -⟩ := hl
  by_cases h0 : L.length = 0
  · have hv : Hid (⟨#[]⟩ = fstL k L) := Lib.hid (by rw [List.length_eq_zero_iff.1 h0]; rfl)
    have e0 : ((L.length : Int) == 0) = true := by simp [h0]
    clear h0
    go_enter Tryd.func18, Tryd.ntmps18
    go_wp2_with fail
    go_ret
    exact ⟨ret_str hv.out, Below.refl _ _⟩
  · have e0 : ((L.length : Int) == 0) = false := by simp [h0]
    have hne : pickL k L ≠ [] := fun h => by rw [h] at hpl; simp at hpl; omega
    have hlz : (0 : Int) < (L.length : Int) := by omega
    obtain ⟨x, hx⟩ : ∃ x, (pickL k L)[0]? = some x := ⟨(pickL k L)[0]'(by omega), by simp⟩
    have hv : Hid (x = fstL k L) := Lib.hid (by unfold fstL; cases hq : pickL k L with
      | nil => exact absurd hq hne
      | cons a r => rw [hq] at hx; simpa using hx.symm)
    clear h0
    unfold PikP at HP
    go_enter Tryd.func18, Tryd.ntmps18
    go_wp2_with fail
    refine HP.out.mono ?_
    rintro e w1 ⟨v1, rfl, ho1, hb1⟩
    obtain ⟨g, cap1, rfl, hg1, hg2, hc1, hc2, hcc, -⟩ := Own.getk encN_len ho1 hne
    have c0 : w1.cell? ⟨g, 0, none⟩ = some (.string x) := hcc 0 x 0 _ hx rfl
    have HB1 := Lib.hid hb1
    rw [hpl]
    clear hcc ho1 hb1 hx
    go_wp2_with fail
    go_ret
    exact ⟨ret_str hv.out, HB1.out⟩

/-- The fault of Pick. -/
def pkF (L : List ByteArray) (k : ByteArray) (m : Int) : Int := if naF L ≠ 0 then naF L else if reqB k = false then 3 else if outB m 0 30 = true then 1 else 0
/-- What Pick returns. -/
def pkL (L : List ByteArray) (k : ByteArray) (m : Int) : List ByteArray := if pkF L k m = 0 then (pickL k L).take m.toNat else []
theorem nameB_40 {s : ByteArray} (h : nameB s = true) : s.size ≤ 40 := by
  unfold nameB at h
  simp only [Bool.and_eq_true, decide_eq_true_eq] at h
  exact h.1.1.2
def PkP (w : World) (L : List ByteArray) (k : ByteArray) (m : Int) : Ending → World → Prop := fun e w' => ∃ v', e = .returned (.tuple #[v', .int .i64 (pkF L k m)]) ∧ Sl w' 1 encN v' (pkL L k m) ∧ Below w.heap.size w w'
set_option maxHeartbeats 1000000 in
theorem pickE_any (w : World) (L : List ByteArray) (v : Value) (k : ByteArray) (m : Int) (hl : Sl w 1 encN v L) (hw : ∀ x, x ∈ L → x.size ≤ 9223372036854775807) (hk : k.size ≤ 9223372036854775807) (hpl : (pickL k L).length = L.length) :
    Calls Tryd.prog 11 #[v, .string k, .int .i64 m] w (PkP w L k m) := by
  have HN := Lib.hid (namesFault_any w L v hl hw)
  have HPW := Lib.hid (fun (w1 : World) (hb : Below w.heap.size w w1) h1 h2 h3 => pick_any w1 L v k (hl.below hb (Nat.le_refl _)) h1 h2 h3)
  obtain ⟨ao, cap, rfl, -, -, -, -⟩ := hl
  go_enter Tryd.func11, Tryd.ntmps11
  go_wp2_with fail
  refine HN.out.mono ?_
  rintro e w1 ⟨rfl, hb1⟩
  have HB1 := Lib.hid hb1
  by_cases h0 : naF L = 0
  · obtain ⟨q1, q2, -⟩ := naF_zero h0
    have e0 : (naF L == 0) = true := by simp [h0]
    have hP0 : Hid (pkF L k m = if reqB k = false then 3 else if outB m 0 30 = true then 1 else 0) := Lib.hid (by unfold pkF; rw [if_neg (by simp [h0])])
    have hreq := Lib.hid (fun W => isReq_any k W hk)
    clear hb1
    rw [h0]
    cases e1 : reqB k
    case false =>
      have hv : Hid (3 = pkF L k m) := Lib.hid (by rw [hP0.out, if_pos e1])
      have hvl : Hid (pkL L k m = []) := Lib.hid (by unfold pkL; rw [if_neg (by rw [← hv.out]; decide)])
      go_wp2_with (go_at_call 21; refine (hreq.out _).mono ?_; rintro e w' ⟨rfl, rfl⟩; rw [e1])
      go_ret2
      exact ⟨_, by rw [← hv.out]; rfl, by rw [hvl.out]; exact Sl.nil, HB1.out⟩
    cases e2 : outB m 0 30
    case true =>
      have hv : Hid (1 = pkF L k m) := Lib.hid (by rw [hP0.out, if_neg (by simp [e1]), if_pos e2])
      have hvl : Hid (pkL L k m = []) := Lib.hid (by unfold pkL; rw [if_neg (by rw [← hv.out]; decide)])
      go_wp2_with (first | (go_at_call 21; refine (hreq.out _).mono ?_; rintro e w' ⟨rfl, rfl⟩; rw [e1]) | (go_at_call 22; refine (out_any _ _ _ _).mono ?_; rintro e w' ⟨rfl, rfl⟩; rw [e2]))
      go_ret2
      exact ⟨_, by rw [← hv.out]; rfl, by rw [hvl.out]; exact Sl.nil, HB1.out⟩
    have hv : Hid (0 = pkF L k m) := Lib.hid (by rw [hP0.out, if_neg (by simp [e1]), if_neg (by simp [e2])])
    have hvl : Hid (pkL L k m = (pickL k L).take m.toNat) := Lib.hid (by unfold pkL; rw [if_pos hv.out.symm])
    have hm0 : 0 ≤ m ∧ m ≤ 30 := by
      unfold outB at e2
      simp only [Bool.or_eq_false_iff, decide_eq_false_iff_not] at e2
      omega
    have HP := Lib.hid (HPW.out w1 HB1.out q1 (fun a ha => nameB_40 (q2 a ha)) (reqB_true e1).2.1)
    clear q2 hk
    go_wp2_with (first | (go_at_call 21; refine (hreq.out _).mono ?_; rintro e w' ⟨rfl, rfl⟩; rw [e1]) | (go_at_call 22; refine (out_any _ _ _ _).mono ?_; rintro e w' ⟨rfl, rfl⟩; rw [e2]))
    unfold PikP at HP
    refine HP.out.mono ?_
    rintro e w2 ⟨v2, rfl, ho2, hb2⟩
    have hsl := ho2.sl encN_len
    obtain ⟨a2, c2, hv2, r2⟩ := hsl
    subst hv2
    have HS := Lib.hid (show Sl w2 1 encN (.slice a2 (pickL k L).length c2) (pickL k L) from ⟨a2, c2, rfl, r2⟩)
    have HB2 := Lib.hid (HB1.out.thru hb2)
    have hc2 : L.length ≤ c2 := by have := r2.1; omega
    have hcm : c2 ≤ 9223372036854775807 := by have := r2.2.1; unfold maxLen at this; omega
    obtain ⟨n, hn⟩ : ∃ n, n = min m (L.length : Int) := ⟨_, rfl⟩
    have hn0 : 0 ≤ n := by omega
    have hnL : n ≤ (L.length : Int) := by omega
    have HNN := Lib.hid hn
    clear r2 ho2 hb2
    rw [hpl]
    go_wp2_with fail
    go_ret2
    refine ⟨_, by rw [← hv.out]; rfl, ?_, HB2.out⟩
    have h1 := HS.out.take rfl (min m (L.length : Int)).toNat (by omega)
    have h2 : (pickL k L).take m.toNat = (pickL k L).take (min m (L.length : Int)).toNat := by
      by_cases hml : m ≤ (L.length : Int)
      · rw [show (min m (L.length : Int)).toNat = m.toNat by omega]
      · rw [List.take_of_length_le (by omega), List.take_of_length_le (by omega)]
    rw [hvl.out, h2]
    exact h1
  · have hv : Hid (naF L = pkF L k m) := Lib.hid (by unfold pkF; rw [if_pos h0])
    have hvl : Hid (pkL L k m = []) := Lib.hid (by unfold pkL; rw [if_neg (by rw [← hv.out]; exact h0)])
    have e0 : (naF L == 0) = false := by simp [h0]
    clear hb1
    go_wp2_with fail
    go_ret2
    exact ⟨_, by rw [← hv.out]; rfl, by rw [hvl.out]; exact Sl.nil, HB1.out⟩
end Go.Proofs.YteepbfpcdhdgfaaDoor

/- The plain law of pick: what it returns is in order. -/
namespace Go.Proofs.YteepbfpcdhdgfaaDoor
open Go.RowKit

theorem u8_tri (a b : UInt8) : a < b ∨ a = b ∨ b < a := by
  rcases Nat.lt_trichotomy a.toNat b.toNat with h | h | h
  · exact .inl h
  · exact .inr (.inl (UInt8.toNat_inj.1 h))
  · exact .inr (.inr h)
theorem cb_swap : ∀ a b : List UInt8, Lib.compareBytes b a = - Lib.compareBytes a b
  | [], [] => rfl
  | [], _ :: _ => rfl
  | _ :: _, [] => rfl
  | a :: r, b :: s => by
    unfold Lib.compareBytes
    by_cases h1 : a < b
    · have h2 : ¬ b < a := fun h => absurd (UInt8.lt_trans h1 h) (UInt8.lt_irrefl _)
      simp [h1, h2]
    · by_cases h2 : b < a
      · simp [h1, h2]
      · simp [h1, h2, cb_swap r s]
theorem cb_zero : ∀ {a b : List UInt8}, Lib.compareBytes a b = 0 → a = b
  | [], [], _ => rfl
  | [], _ :: _, h => by simp [Lib.compareBytes] at h
  | _ :: _, [], h => by simp [Lib.compareBytes] at h
  | a :: r, b :: s, h => by
    unfold Lib.compareBytes at h
    by_cases h1 : a < b
    · simp [h1] at h
    · by_cases h2 : b < a
      · simp [h1, h2] at h
      · simp only [h1, h2, if_false] at h
        rw [cb_zero h, UInt8.le_antisymm (UInt8.not_lt.1 h2) (UInt8.not_lt.1 h1)]
theorem cb_tr : ∀ {a b c : List UInt8}, Lib.compareBytes a b < 0 → Lib.compareBytes b c < 0 → Lib.compareBytes a c < 0
  | [], [], _, h, _ => by simp [Lib.compareBytes] at h
  | [], _ :: _, [], _, h => by simp [Lib.compareBytes] at h
  | [], _ :: _, _ :: _, _, _ => by simp [Lib.compareBytes]
  | _ :: _, [], _, h, _ => by simp [Lib.compareBytes] at h
  | _ :: _, _ :: _, [], _, h => by simp [Lib.compareBytes] at h
  | a :: r, b :: s, c :: t, h, g => by
    unfold Lib.compareBytes at h g ⊢
    rcases u8_tri a b with h1 | h1 | h1
    · rcases u8_tri b c with h2 | h2 | h2
      · simp [UInt8.lt_trans h1 h2]
      · subst h2; simp [h1]
      · have h3 : ¬ b < c := fun h => absurd (UInt8.lt_trans h2 h) (UInt8.lt_irrefl _)
        simp [h2, h3] at g
    · subst h1
      simp only [UInt8.lt_irrefl, if_false] at h
      rcases u8_tri a c with h2 | h2 | h2
      · simp [h2]
      · subst h2
        simp only [UInt8.lt_irrefl, if_false] at g ⊢
        exact cb_tr h g
      · have h3 : ¬ a < c := fun h => absurd (UInt8.lt_trans h2 h) (UInt8.lt_irrefl _)
        simp [h2, h3] at g
    · have h3 : ¬ a < b := fun h => absurd (UInt8.lt_trans h1 h) (UInt8.lt_irrefl _)
      simp [h1, h3] at h
/-- The order of picks. -/
def pkT (k x y : ByteArray) : Prop := cmpK k x y < 0
theorem pkT_iff (k x y : ByteArray) : pkT k x y ↔ (wgtK y k < wgtK x k ∨ (wgtK x k = wgtK y k ∧ Lib.compareBytes x.data.toList y.data.toList < 0)) := by
  unfold pkT cmpK
  by_cases h1 : wgtK y k < wgtK x k
  · simp [h1]
  · rw [if_neg h1]
    by_cases h2 : wgtK x k < wgtK y k
    · rw [if_pos h2]; omega
    · rw [if_neg h2]; omega
theorem pk_ord (k : ByteArray) : Ord (ltI (cmpK k)) (pkT k) (fun x y => x ≠ y) where
  tr x y z h g := by
    rw [pkT_iff] at h g ⊢
    rcases h with h | ⟨h, h'⟩ <;> rcases g with g | ⟨g, g'⟩
    · exact .inl (by omega)
    · exact .inl (by omega)
    · exact .inl (by omega)
    · exact .inr ⟨by omega, cb_tr h' g'⟩
  asy x y h g := by
    rw [pkT_iff] at h g
    have := cb_swap x.data.toList y.data.toList
    omega
  cmp x y _ := by unfold ltI pkT; exact decide_eq_true_iff
  tot x y h := by
    rw [pkT_iff, pkT_iff]
    have h1 := cb_swap x.data.toList y.data.toList
    have h2 : Lib.compareBytes x.data.toList y.data.toList ≠ 0 := fun e => h (by
      have := cb_zero e
      exact ByteArray.ext (Array.ext' this))
    omega
theorem pickL_ok (k : ByteArray) {L : List ByteArray} (h : L.Pairwise (fun x y => x ≠ y)) : (pickL k L).Perm L ∧ (pickL k L).Pairwise (pkT k) := stR_ok (pk_ord k) h
theorem sleN_no {x p : ByteArray} (h : sleN x p = false) : p.toList < x.toList := by
  unfold sleN at h
  rw [Bool.or_eq_false_iff, bytesLess_eq] at h
  obtain ⟨h1, h2⟩ := h
  have h3 : ¬ x.toList < p.toList := by simpa using h1
  have h4 : x.toList ≠ p.toList := by simpa using h2
  rcases List.le_iff_lt_or_eq.1 (List.not_lt.1 h3) with h5 | h5
  · exact h5
  · exact absurd h5.symm h4
theorem rise_lt {L : List ByteArray} (h : ∀ i, 0 < i → i < L.length → sleN (L.getD i ⟨#[]⟩) (L.getD (i - 1) ⟨#[]⟩) = false) : L.Pairwise (fun x y => x.toList < y.toList) := by
  rw [List.pairwise_iff_getElem]
  intro i j hi hj hij
  obtain ⟨d, rfl⟩ : ∃ d, j = i + 1 + d := ⟨j - (i + 1), by omega⟩
  have step : ∀ m (hm : m + 1 < L.length), (L[m]'(by omega)).toList < L[m + 1].toList := fun m hm => by
    have := sleN_no (h (m + 1) (by omega) hm)
    rw [List.getD_eq_getElem?_getD, List.getD_eq_getElem?_getD, List.getElem?_eq_getElem hm, Nat.add_sub_cancel, List.getElem?_eq_getElem (by omega : m < L.length)] at this
    exact this
  clear hij
  induction d with
  | zero => exact step i hj
  | succ d ih => exact List.lt_trans (ih (by omega) step) (step (i + 1 + d) hj)
theorem naF_diff {L : List ByteArray} (h : naF L = 0) : L.Pairwise (fun x y => x ≠ y) := by
  obtain ⟨-, -, h3⟩ := naF_zero h
  exact (rise_lt h3).imp fun {a b} h e => by subst e; exact absurd h (List.lt_irrefl _)
theorem pickL_len {L : List ByteArray} (h : naF L = 0) (k : ByteArray) : (pickL k L).length = L.length := (pickL_ok k (naF_diff h)).1.length_eq
/-- The first one is the least. -/
theorem fstL_ok {L : List ByteArray} (h : naF L = 0) (k : ByteArray) (hne : L ≠ []) : fstL k L ∈ L ∧ ∀ y, y ∈ L → y ≠ fstL k L → pkT k (fstL k L) y := by
  obtain ⟨h1, h2⟩ := pickL_ok k (naF_diff h)
  unfold fstL
  cases hq : pickL k L with
  | nil => rw [hq] at h1; exact absurd (List.nil_perm.1 h1) hne
  | cons a r =>
    rw [hq] at h1 h2
    refine ⟨h1.subset (List.mem_cons_self ..), fun y hy hn => ?_⟩
    have := h1.symm.subset hy
    rcases List.mem_cons.1 this with e | e
    · exact absurd e hn
    · exact (List.pairwise_cons.1 h2).1 y e
theorem fstL_one {L : List ByteArray} (h : naF L = 0) (k x : ByteArray) (hx : x ∈ L) (hl : ∀ y, y ∈ L → y ≠ x → pkT k x y) : fstL k L = x := by
  obtain ⟨h1, h2⟩ := fstL_ok h k (List.ne_nil_of_mem hx)
  by_cases e : fstL k L = x
  · exact e
  · exact absurd (h2 x hx (fun h => e h.symm)) ((pk_ord k).asy _ _ (hl _ h1 e))
/-- A cache is taken away: just the keys move whose first one it was. -/
theorem fstL_del {L : List ByteArray} (h : naF L = 0) {i : Nat} (hi : i < L.length) (h' : naF (L.eraseIdx i) = 0) (k : ByteArray) : fstL k L ≠ fstL k (L.eraseIdx i) ↔ fstL k L = L[i] := by
  have hne : L ≠ [] := fun e => by rw [e] at hi; simp at hi
  obtain ⟨h1, h2⟩ := fstL_ok h k hne
  have hd := naF_diff h
  have hdd := hd
  rw [List.pairwise_iff_getElem] at hd
  have hni : L[i] ∉ L.eraseIdx i := fun hm => by
    obtain ⟨j, hj, e1, e2⟩ := List.mem_eraseIdx_iff_getElem.1 hm
    rcases Nat.lt_or_gt_of_ne e1 with h3 | h3
    · exact hd j i hj hi h3 e2
    · exact hd i j hi hj h3 e2.symm
  constructor
  · intro hn
    refine Decidable.byContradiction fun hc => hn ?_
    refine (fstL_one h' k _ ?_ fun y hy hyn => h2 y (List.mem_of_mem_eraseIdx hy) hyn).symm
    obtain ⟨j, hj, e⟩ := List.mem_iff_getElem.1 h1
    refine List.mem_eraseIdx_iff_getElem.2 ⟨j, hj, ?_, e⟩
    rintro rfl
    exact hc e.symm
  · intro he hn
    by_cases hz : L.eraseIdx i = []
    · rw [hz, fstL_nil] at hn
      obtain ⟨-, q, -⟩ := naF_zero h
      have := q _ h1
      rw [hn] at this
      exact absurd this (by decide)
    · have := (fstL_ok h' k hz).1
      rw [← hn, he] at this
      exact hni this
end Go.Proofs.YteepbfpcdhdgfaaDoor

/- The plain law of the reference's pick: it is the program's. -/
namespace Go.Proofs.YteepbfpcdhdgfaaDoor
open Go.RowKit

/-- A cache is put behind all that weigh as much or more. -/
def pkB (k s o : ByteArray) : Bool := decide (wgtK s k ≤ wgtK o k)
def insW (k s : ByteArray) (out : List ByteArray) : List ByteArray := out.takeWhile (pkB k s) ++ s :: out.dropWhile (pkB k s)
def pickR (k : ByteArray) (L : List ByteArray) : List ByteArray := L.foldl (fun out s => insW k s out) []
theorem tw_cut {α : Type} (p : α → Bool) : ∀ (l : List α) (j : Nat), j ≤ l.length → (∀ x, x ∈ l.take j → p x = true) → (∀ x, l[j]? = some x → p x = false) → l.takeWhile p = l.take j ∧ l.dropWhile p = l.drop j
  | [], j, h, _, _ => by simp
  | a :: r, 0, _, _, h => by
    have := h a rfl
    simp [List.takeWhile, List.dropWhile, this]
  | a :: r, j + 1, hj, h1, h2 => by
    have ha := h1 a (by simp)
    obtain ⟨q1, q2⟩ := tw_cut p r j (by simpa using hj) (fun x hx => h1 x (by simp [hx])) (fun x hx => h2 x (by simpa using hx))
    simp [List.takeWhile, List.dropWhile, ha, q1, q2]
theorem insW_cut (k s : ByteArray) (out : List ByteArray) (j : Nat) (hj : j ≤ out.length) (h1 : ∀ x, x ∈ out.take j → pkB k s x = true) (h2 : ∀ x, out[j]? = some x → pkB k s x = false) : insW k s out = out.take j ++ s :: out.drop j := by
  obtain ⟨q1, q2⟩ := tw_cut (pkB k s) out j hj h1 h2
  unfold insW
  rw [q1, q2]
theorem pickR_snoc (k : ByteArray) (L : List ByteArray) (s : ByteArray) : pickR k (L ++ [s]) = insW k s (pickR k L) := by
  unfold pickR
  rw [List.foldl_append]
  rfl
theorem insW_perm (k s : ByteArray) (out : List ByteArray) : (insW k s out).Perm (s :: out) := by
  unfold insW
  refine List.perm_middle.trans ?_
  rw [List.takeWhile_append_dropWhile]
theorem cb_lt : ∀ {a b : List UInt8}, a < b → Lib.compareBytes a b < 0
  | [], [], h => absurd h (List.lt_irrefl _)
  | [], _ :: _, _ => by simp [Lib.compareBytes]
  | _ :: _, [], h => by cases h
  | a :: r, b :: s, h => by
    rcases List.cons_lt_cons_iff.1 h with h3 | ⟨h2, h3⟩
    · simp [Lib.compareBytes, h3]
    · subst h2
      simp only [Lib.compareBytes, UInt8.lt_irrefl, if_false]
      exact cb_lt h3
theorem insW_ok (k s : ByteArray) {out : List ByteArray} (h : out.Pairwise (pkT k)) (hs : ∀ x, x ∈ out → x.toList < s.toList) : (insW k s out).Pairwise (pkT k) := by
  have hT : ∀ x, x ∈ out.takeWhile (pkB k s) → pkT k x s := fun x hx => by
    have h1 := List.all_eq_true.1 (List.all_takeWhile (l := out) (p := pkB k s)) x hx
    have h2 := cb_lt (hs x ((List.takeWhile_prefix _).subset hx))
    rw [pkT_iff]
    have h3 : wgtK s k ≤ wgtK x k := by simpa [pkB] using h1
    rw [ByteArray.toList_eq, ByteArray.toList_eq] at h2
    by_cases e : wgtK x k = wgtK s k
    · exact .inr ⟨e, h2⟩
    · exact .inl (by omega)
  have hsplit : out.takeWhile (pkB k s) ++ out.dropWhile (pkB k s) = out := List.takeWhile_append_dropWhile
  have hp := h
  rw [← hsplit, List.pairwise_append] at hp
  obtain ⟨p1, p2, p3⟩ := hp
  have hD : ∀ y, y ∈ out.dropWhile (pkB k s) → pkT k s y := by
    cases hd : out.dropWhile (pkB k s) with
    | nil => intro y hy; cases hy
    | cons d r =>
      rw [hd] at p2
      have hdw : pkB k s d = false := by
        have := List.head?_dropWhile_not (pkB k s) out
        rw [hd] at this
        simpa using this
      have h4 : wgtK d k < wgtK s k := by simpa [pkB] using hdw
      intro y hy
      rw [pkT_iff]
      rcases List.mem_cons.1 hy with rfl | hy
      · exact .inl h4
      · have := (List.pairwise_cons.1 p2).1 y hy
        rw [pkT_iff] at this
        exact .inl (by omega)
  unfold insW
  rw [List.pairwise_append]
  refine ⟨p1, List.pairwise_cons.2 ⟨hD, p2⟩, fun x hx y hy => ?_⟩
  rcases List.mem_cons.1 hy with rfl | hy
  · exact hT x hx
  · exact (pk_ord k).tr _ _ _ (hT x hx) (hD y hy)
theorem pickR_ok (k : ByteArray) : ∀ (L out : List ByteArray), L.Pairwise (fun x y => x.toList < y.toList) → out.Pairwise (pkT k) → (∀ x, x ∈ out → ∀ y, y ∈ L → x.toList < y.toList) →
    (L.foldl (fun out s => insW k s out) out).Perm (out ++ L) ∧ (L.foldl (fun out s => insW k s out) out).Pairwise (pkT k)
  | [], out, _, h, _ => by simp [h]
  | s :: r, out, hL, h, hx => by
    obtain ⟨h1, h2⟩ := List.pairwise_cons.1 hL
    obtain ⟨q1, q2⟩ := pickR_ok k r (insW k s out) h2 (insW_ok k s h (fun x hxo => hx x hxo s (List.mem_cons_self ..))) (fun x hxi y hy => by
      rcases List.mem_cons.1 ((insW_perm k s out).subset hxi) with rfl | h3
      · exact h1 y hy
      · exact hx x h3 y (List.mem_cons_of_mem _ hy))
    refine ⟨q1.trans ?_, q2⟩
    refine ((insW_perm k s out).append_right r).trans ?_
    exact List.perm_middle.symm
theorem pickR_eq {L : List ByteArray} (h : naF L = 0) (k : ByteArray) : pickR k L = pickL k L := by
  obtain ⟨-, -, h3⟩ := naF_zero h
  obtain ⟨q1, q2⟩ := pickR_ok k L [] (rise_lt h3) List.Pairwise.nil (fun x hx => by cases hx)
  obtain ⟨p1, p2⟩ := pickL_ok k (naF_diff h)
  exact sorted_one (pk_ord k).asy ((by have h5 := q1; rw [List.nil_append] at h5; exact h5 : (pickR k L).Perm L).trans p1.symm) q2 p2
end Go.Proofs.YteepbfpcdhdgfaaDoor

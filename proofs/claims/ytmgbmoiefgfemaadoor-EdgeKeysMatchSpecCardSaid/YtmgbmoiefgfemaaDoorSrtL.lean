/- Sorting parts by their names, plain: a stable sort by ghosts is the insertion of each behind all that are not greater. -/
import Derived.Test.YtmgbmoiefgfemaaDoorSrtS
import Derived.Test.YtmgbmoiefgfemaaDoorStbM
namespace Go.Proofs.YtmgbmoiefgfemaaDoor
open Go.RowKit

theorem u8_tri (a b : UInt8) : a < b ∨ a = b ∨ b < a := by
  rcases Nat.lt_trichotomy a.toNat b.toNat with h | h | h
  · exact .inl h
  · exact .inr (.inl (UInt8.toNat_inj.1 h))
  · exact .inr (.inr h)
theorem cb_swap : ∀ a b : List UInt8, Lib.compareBytes b a = - Lib.compareBytes a b
  | [], [] => rfl
  | [], _ :: _ => rfl
  | _ :: _, [] => rfl
  | a :: r, b :: s => by
    unfold Lib.compareBytes
    by_cases h1 : a < b
    · have h2 : ¬ b < a := fun h => absurd (UInt8.lt_trans h1 h) (UInt8.lt_irrefl _)
      simp [h1, h2]
    · by_cases h2 : b < a
      · simp [h1, h2]
      · simp [h1, h2, cb_swap r s]
theorem cb_zero : ∀ {a b : List UInt8}, Lib.compareBytes a b = 0 → a = b
  | [], [], _ => rfl
  | [], _ :: _, h => by simp [Lib.compareBytes] at h
  | _ :: _, [], h => by simp [Lib.compareBytes] at h
  | a :: r, b :: s, h => by
    unfold Lib.compareBytes at h
    by_cases h1 : a < b
    · simp [h1] at h
    · by_cases h2 : b < a
      · simp [h1, h2] at h
      · simp only [h1, h2, if_false] at h
        rw [cb_zero h, UInt8.le_antisymm (UInt8.not_lt.1 h2) (UInt8.not_lt.1 h1)]
theorem cb_tr : ∀ {a b c : List UInt8}, Lib.compareBytes a b < 0 → Lib.compareBytes b c < 0 → Lib.compareBytes a c < 0
  | [], [], _, h, _ => by simp [Lib.compareBytes] at h
  | [], _ :: _, [], _, h => by simp [Lib.compareBytes] at h
  | [], _ :: _, _ :: _, _, _ => by simp [Lib.compareBytes]
  | _ :: _, [], _, h, _ => by simp [Lib.compareBytes] at h
  | _ :: _, _ :: _, [], _, h => by simp [Lib.compareBytes] at h
  | a :: r, b :: s, c :: t, h, g => by
    unfold Lib.compareBytes at h g ⊢
    rcases u8_tri a b with h1 | h1 | h1
    · rcases u8_tri b c with h2 | h2 | h2
      · simp [UInt8.lt_trans h1 h2]
      · subst h2; simp [h1]
      · have h3 : ¬ b < c := fun h => absurd (UInt8.lt_trans h2 h) (UInt8.lt_irrefl _)
        simp [h2, h3] at g
    · subst h1
      simp only [UInt8.lt_irrefl, if_false] at h
      rcases u8_tri a c with h2 | h2 | h2
      · simp [h2]
      · subst h2
        simp only [UInt8.lt_irrefl, if_false] at g ⊢
        exact cb_tr h g
      · have h3 : ¬ a < c := fun h => absurd (UInt8.lt_trans h2 h) (UInt8.lt_irrefl _)
        simp [h2, h3] at g
    · have h3 : ¬ a < b := fun h => absurd (UInt8.lt_trans h1 h) (UInt8.lt_irrefl _)
      simp [h1, h3] at h
theorem cb_self (a : List UInt8) : Lib.compareBytes a a = 0 := by
  have := cb_swap a a
  omega
theorem cmpP_swap (a b : ByteArray) : cmpP b a = - cmpP a b := cb_swap _ _
theorem cmpP_le {a b c : ByteArray} (h : cmpP a b ≤ 0) (g : cmpP b c ≤ 0) : cmpP a c ≤ 0 := by
  unfold cmpP at *
  by_cases h1 : Lib.compareBytes (nameP a).data.toList (nameP b).data.toList = 0
  · rw [cb_zero h1]; exact g
  · by_cases h2 : Lib.compareBytes (nameP b).data.toList (nameP c).data.toList = 0
    · rw [← cb_zero h2]; exact h
    · have := cb_tr (a := (nameP a).data.toList) (b := (nameP b).data.toList) (c := (nameP c).data.toList) (by omega) (by omega)
      omega
theorem cmpP_lt_le {a b c : ByteArray} (h : cmpP a b < 0) (g : cmpP b c ≤ 0) : cmpP a c < 0 := by
  unfold cmpP at *
  by_cases h2 : Lib.compareBytes (nameP b).data.toList (nameP c).data.toList = 0
  · rw [← cb_zero h2]; exact h
  · exact cb_tr h (by omega)
theorem cmpP_le_lt {a b c : ByteArray} (h : cmpP a b ≤ 0) (g : cmpP b c < 0) : cmpP a c < 0 := by
  unfold cmpP at *
  by_cases h2 : Lib.compareBytes (nameP a).data.toList (nameP b).data.toList = 0
  · rw [cb_zero h2]; exact g
  · exact cb_tr (by omega) g
theorem tw_all {α : Type} (p : α → Bool) : ∀ (l : List α) (x : α), x ∈ l.takeWhile p → p x = true
  | [], x, h => by simp at h
  | a :: r, x, h => by
    cases ha : p a with
    | false => simp [List.takeWhile, ha] at h
    | true =>
      simp only [List.takeWhile, ha] at h
      rcases List.mem_cons.1 h with h | h
      · rw [h]; exact ha
      · exact tw_all p r x h
theorem tw_self {α : Type} {p : α → Bool} : ∀ {l : List α}, (∀ x, x ∈ l → p x = true) → l.takeWhile p = l ∧ l.dropWhile p = []
  | [], _ => ⟨rfl, rfl⟩
  | a :: r, h => by
    have ha := h a (List.mem_cons_self ..)
    obtain ⟨q1, q2⟩ := tw_self (p := p) (l := r) (fun x hx => h x (List.mem_cons_of_mem _ hx))
    simp [List.takeWhile, List.dropWhile, ha, q1, q2]
/-- Parts with the places where they stood. -/
abbrev Gh := ByteArray × Nat
def ghT (x y : Gh) : Prop := cmpP x.1 y.1 < 0 ∨ (cmpP x.1 y.1 = 0 ∧ x.2 < y.2)
def ghC (x y : Gh) : Int := cmpP x.1 y.1
instance : Inhabited Gh := ⟨(⟨#[]⟩, 0)⟩
theorem gh_ord : Ord (ltI ghC) ghT (fun x y : Gh => x.2 < y.2) where
  tr x y z h g := by
    unfold ghT at *
    rcases h with h | ⟨h, h'⟩
    · rcases g with g | ⟨g, g'⟩
      · exact .inl (cmpP_lt_le h (by omega))
      · exact .inl (cmpP_lt_le h (by omega))
    · rcases g with g | ⟨g, g'⟩
      · exact .inl (cmpP_le_lt (by omega) g)
      · have h1 := cmpP_le (a := x.1) (b := y.1) (c := z.1) (by omega) (by omega)
        have h2 := cmpP_le (a := z.1) (b := y.1) (c := x.1) (by have := cmpP_swap y.1 z.1; omega) (by have := cmpP_swap x.1 y.1; omega)
        have := cmpP_swap x.1 z.1
        exact .inr ⟨by omega, by omega⟩
  asy x y h g := by
    unfold ghT at *
    have := cmpP_swap x.1 y.1
    omega
  cmp x y h := by
    unfold ltI ghT ghC
    rw [decide_eq_true_iff]
    omega
  tot x y h := by
    unfold ghT
    have := cmpP_swap x.1 y.1
    omega
/-- A part is put behind all whose names are not greater. -/
def leP (p o : ByteArray) : Bool := decide (cmpP o p ≤ 0)
def insQ (p : ByteArray) (out : List ByteArray) : List ByteArray := out.takeWhile (leP p) ++ p :: out.dropWhile (leP p)
def refS (L : List ByteArray) : List ByteArray := L.foldl (fun out p => insQ p out) []
def insH (p : Gh) (out : List Gh) : List Gh := out.takeWhile (fun o => leP p.1 o.1) ++ p :: out.dropWhile (fun o => leP p.1 o.1)
theorem insH_fst (p : Gh) (out : List Gh) : (insH p out).map Prod.fst = insQ p.1 (out.map Prod.fst) := by
  unfold insH insQ
  rw [List.map_append, List.map_cons, List.takeWhile_map, List.dropWhile_map]
  rfl
theorem insH_perm (p : Gh) (out : List Gh) : (insH p out).Perm (p :: out) := by
  unfold insH
  refine List.perm_middle.trans ?_
  rw [List.takeWhile_append_dropWhile]
theorem insH_ok (p : Gh) {out : List Gh} (h : out.Pairwise ghT) (hs : ∀ x, x ∈ out → x.2 < p.2) : (insH p out).Pairwise ghT := by
  have hT : ∀ x, x ∈ out.takeWhile (fun o => leP p.1 o.1) → ghT x p := fun x hx => by
    have h1 : leP p.1 x.1 = true := tw_all (fun o : Gh => leP p.1 o.1) out x hx
    have h2 := hs x ((List.takeWhile_prefix _).subset hx)
    have h3 : cmpP x.1 p.1 ≤ 0 := by simpa [leP] using h1
    unfold ghT
    omega
  have hsplit : out.takeWhile (fun o => leP p.1 o.1) ++ out.dropWhile (fun o => leP p.1 o.1) = out := List.takeWhile_append_dropWhile
  have hp := h
  rw [← hsplit, List.pairwise_append] at hp
  obtain ⟨p1, p2, p3⟩ := hp
  have hD : ∀ y, y ∈ out.dropWhile (fun o => leP p.1 o.1) → ghT p y := by
    cases hd : out.dropWhile (fun o => leP p.1 o.1) with
    | nil => intro y hy; cases hy
    | cons d r =>
      rw [hd] at p2
      have hdw : leP p.1 d.1 = false := by
        have := List.head?_dropWhile_not (fun o : Gh => leP p.1 o.1) out
        rw [hd] at this
        simpa using this
      have h4 : ghT p d := by
        have h5 : ¬ cmpP d.1 p.1 ≤ 0 := by simpa [leP] using hdw
        have := cmpP_swap d.1 p.1
        unfold ghT
        omega
      intro y hy
      rcases List.mem_cons.1 hy with rfl | hy
      · exact h4
      · exact gh_ord.tr _ _ _ h4 ((List.pairwise_cons.1 p2).1 y hy)
  unfold insH
  rw [List.pairwise_append]
  refine ⟨p1, List.pairwise_cons.2 ⟨hD, p2⟩, fun x hx y hy => ?_⟩
  rcases List.mem_cons.1 hy with rfl | hy
  · exact hT x hx
  · exact gh_ord.tr _ _ _ (hT x hx) (hD y hy)
theorem refH_ok : ∀ (L out : List Gh), L.Pairwise (fun x y => x.2 < y.2) → out.Pairwise ghT → (∀ x, x ∈ out → ∀ y, y ∈ L → x.2 < y.2) →
    (L.foldl (fun out s => insH s out) out).Perm (out ++ L) ∧ (L.foldl (fun out s => insH s out) out).Pairwise ghT
  | [], out, _, h, _ => by simp [h]
  | s :: r, out, hL, h, hx => by
    obtain ⟨h1, h2⟩ := List.pairwise_cons.1 hL
    obtain ⟨q1, q2⟩ := refH_ok r (insH s out) h2 (insH_ok s h (fun x hxo => hx x hxo s (List.mem_cons_self ..))) (fun x hxi y hy => by
      rcases List.mem_cons.1 ((insH_perm s out).subset hxi) with rfl | h3
      · exact h1 y hy
      · exact hx x h3 y (List.mem_cons_of_mem _ hy))
    refine ⟨q1.trans ?_, q2⟩
    refine ((insH_perm s out).append_right r).trans ?_
    exact List.perm_middle.symm
theorem refH_fst : ∀ (L out : List Gh), (L.foldl (fun out s => insH s out) out).map Prod.fst = (L.map Prod.fst).foldl (fun out p => insQ p out) (out.map Prod.fst)
  | [], out => rfl
  | s :: r, out => by
    rw [List.foldl_cons, refH_fst r, insH_fst, List.map_cons, List.foldl_cons]
theorem zip_pw (L : List ByteArray) : L.zipIdx.Pairwise (fun x y : Gh => x.2 < y.2) := by
  rw [List.pairwise_iff_getElem]
  intro i j hi hj hij
  simp
  exact hij
/-- The parts as the program sorts them. -/
def sortG (L : List ByteArray) : List ByteArray := (stR (ltI ghC) L.zipIdx).map Prod.fst
theorem sortG_eq (L : List ByteArray) : sortG L = refS L := by
  obtain ⟨p1, p2⟩ := stR_ok gh_ord (zip_pw L)
  obtain ⟨q1, q2⟩ := refH_ok L.zipIdx [] (zip_pw L) List.Pairwise.nil (fun x hx => by cases hx)
  rw [List.nil_append] at q1
  have h := sorted_one gh_ord.asy (p1.trans q1.symm) p2 q2
  unfold sortG
  rw [h, refH_fst]
  unfold refS
  rw [List.zipIdx_map_fst]
  rfl
theorem insQ_perm (p : ByteArray) (out : List ByteArray) : (insQ p out).Perm (p :: out) := by
  unfold insQ
  refine List.perm_middle.trans ?_
  rw [List.takeWhile_append_dropWhile]
theorem refS_snoc (L : List ByteArray) (p : ByteArray) : refS (L ++ [p]) = insQ p (refS L) := by
  unfold refS
  rw [List.foldl_append]
  rfl
theorem refS_perm : ∀ (n : Nat) (L : List ByteArray), L.length = n → (refS L).Perm L
  | 0, L, h => by rw [List.length_eq_zero_iff.1 h]; exact List.Perm.refl _
  | n + 1, L, h => by
    have hne : L ≠ [] := fun e => by rw [e] at h; simp at h
    have e := List.dropLast_concat_getLast hne
    rw [← e, refS_snoc]
    have ih := refS_perm n L.dropLast (by rw [List.length_dropLast]; omega)
    exact (insQ_perm _ _).trans ((ih.cons _).trans (List.perm_append_singleton _ _).symm)
theorem insQ_sorted (p : ByteArray) {out : List ByteArray} (h : out.Pairwise (fun x y => cmpP x y ≤ 0)) : (insQ p out).Pairwise (fun x y => cmpP x y ≤ 0) := by
  have hT : ∀ x, x ∈ out.takeWhile (leP p) → cmpP x p ≤ 0 := fun x hx => by
    have h1 : leP p x = true := tw_all (leP p) out x hx
    simpa [leP] using h1
  have hsplit : out.takeWhile (leP p) ++ out.dropWhile (leP p) = out := List.takeWhile_append_dropWhile
  have hp := h
  rw [← hsplit, List.pairwise_append] at hp
  obtain ⟨p1, p2, p3⟩ := hp
  have hD : ∀ y, y ∈ out.dropWhile (leP p) → cmpP p y ≤ 0 := by
    cases hd : out.dropWhile (leP p) with
    | nil => intro y hy; cases hy
    | cons d r =>
      rw [hd] at p2
      have hdw : leP p d = false := by
        have := List.head?_dropWhile_not (leP p) out
        rw [hd] at this
        simpa using this
      have h4 : cmpP p d ≤ 0 := by
        have h5 : ¬ cmpP d p ≤ 0 := by simpa [leP] using hdw
        have := cmpP_swap d p
        omega
      intro y hy
      rcases List.mem_cons.1 hy with rfl | hy
      · exact h4
      · exact cmpP_le h4 ((List.pairwise_cons.1 p2).1 y hy)
  unfold insQ
  rw [List.pairwise_append]
  refine ⟨p1, List.pairwise_cons.2 ⟨hD, p2⟩, fun x hx y hy => ?_⟩
  rcases List.mem_cons.1 hy with rfl | hy
  · exact hT x hx
  · exact cmpP_le (hT x hx) (hD y hy)
theorem refS_sorted : ∀ (n : Nat) (L : List ByteArray), L.length = n → (refS L).Pairwise (fun x y => cmpP x y ≤ 0)
  | 0, L, h => by rw [List.length_eq_zero_iff.1 h]; exact List.Pairwise.nil
  | n + 1, L, h => by
    have hne : L ≠ [] := fun e => by rw [e] at h; simp at h
    have e := List.dropLast_concat_getLast hne
    rw [← e, refS_snoc]
    exact insQ_sorted _ (refS_sorted n L.dropLast (by rw [List.length_dropLast]; omega))
/-- A row that is sorted stays. -/
theorem refS_id : ∀ (n : Nat) (L : List ByteArray), L.length = n → L.Pairwise (fun x y => cmpP x y ≤ 0) → refS L = L
  | 0, L, h, _ => by rw [List.length_eq_zero_iff.1 h]; rfl
  | n + 1, L, h, hp => by
    have hne : L ≠ [] := fun e => by rw [e] at h; simp at h
    have e := List.dropLast_concat_getLast hne
    rw [← e] at hp ⊢
    rw [List.pairwise_append] at hp
    rw [refS_snoc, refS_id n L.dropLast (by rw [List.length_dropLast]; omega) hp.1]
    have hall : ∀ x, x ∈ L.dropLast → leP (L.getLast hne) x = true := fun x hx => by
      unfold leP
      exact decide_eq_true (hp.2.2 x hx _ (List.mem_singleton.2 rfl))
    unfold insQ
    rw [(tw_self hall).1, (tw_self hall).2]
end Go.Proofs.YtmgbmoiefgfemaaDoor

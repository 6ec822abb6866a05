/- MarkTimesAgree: the plain law, and the walk. -/
import Derived.Test.YtpdeodoidlcdoaaG18
import Derived.Test.YtpdeodoidlcdoaaG01
import Derived.Test.YtpdeodoidlcdoaaG17
import Derived.Test.YtpdeodoidlcdoaaG09
import Derived.OneCell
namespace Go.Proofs.Ytpdeodoidlcdoaa
open Go.RowKit

def adsI (l : List Prt) : Nat → List Int
  | 0 => []
  | k + 1 => adsI l k ++ (if noAd (l.getD k default) = true then [] else [(k : Int)])
theorem adsI_len (l : List Prt) : ∀ k, (adsI l k).length ≤ k
  | 0 => by simp [adsI]
  | k + 1 => by
    have := adsI_len l k
    rw [adsI, List.length_append]
    split <;> simp <;> omega
theorem adsI_mem (l : List Prt) (x : Int) : ∀ k, x ∈ adsI l k ↔ ∃ j : Nat, j < k ∧ x = j ∧ noAd (l.getD j default) = false
  | 0 => by simp [adsI]
  | k + 1 => by
    rw [adsI, List.mem_append, adsI_mem l x k]
    constructor
    · rintro (⟨j, h1, h2, h3⟩ | h)
      · exact ⟨j, by omega, h2, h3⟩
      · split at h
        · simp at h
        · rename_i h1
          simp only [List.mem_singleton] at h
          exact ⟨k, by omega, h, by simpa using h1⟩
    · rintro ⟨j, h1, h2, h3⟩
      by_cases e : j = k
      · subst e
        rw [h3]
        exact .inr (by simp [h2])
      · exact .inl ⟨j, by omega, h2, h3⟩
theorem seenF_ads (l : List Prt) : seenF l (adsI l l.length) = 0 := by
  refine FF_zero fun j hj => ?_
  have hm : (adsI l l.length).getD j 0 ∈ adsI l l.length := by
    rw [List.getD_eq_getElem?_getD, List.getElem?_eq_getElem hj]
    exact List.getElem_mem hj
  obtain ⟨k, h1, h2, h3⟩ := (adsI_mem l _ l.length).1 hm
  rw [h2]
  have ho : outB (k : Int) 0 ((l.length : Int) - 1) = false := by simp [outB]; omega
  unfold seF1
  rw [ho, Int.toNat_natCast, h3]
  rfl
theorem seenF_nil (l : List Prt) : seenF l [] = 0 := rfl
theorem unsee_none {s : List Int} : ∀ {n a : Nat}, (∀ k : Nat, a ≤ k → k < a + n → seenB s k = true) → unsee s a n = none
  | 0, _, _ => rfl
  | n + 1, a, h => by
    rw [unsee, if_pos (h a (Nat.le_refl _) (by omega))]
    exact unsee_none fun k h1 h2 => h k (by omega) (by omega)
theorem fst1_ads (l : List Prt) : ∀ i k, fst1 l i ≤ k → k < i → noAd (l.getD k default) = false
  | 0, k, _, h => by omega
  | i + 1, k, h1, h2 => by
    unfold fst1 at h1
    split at h1
    · omega
    · rename_i h3
      by_cases e : k = i
      · subst e; simpa using h3
      · exact fst1_ads l i k h1 (by omega)

theorem placeN_sum : ∀ {l : List Prt} {t : Int}, (placeN l t).1 < l.length → sumL (l.take (placeN l t).1) + (placeN l t).2 = t
  | [], _, h => by simp at h
  | p :: r, t, h => by
    unfold placeN at h ⊢
    split at h
    · rename_i h1
      rw [if_pos h1]
      simp [sumL]
    · rename_i h1
      rw [if_neg h1]
      simp only [List.length_cons] at h
      have := placeN_sum (l := r) (t := t - p.ln) (by omega)
      simp only [List.take_succ_cons, sumL]
      omega
theorem stF_of {l : List Prt} {t : Int} {i : Nat} {p : Prt} (h : checkP l = 0) (hx : l[i]? = some p) (hp : stHit p t = true) : stF l t = [sumL (l.take i) + (t - p.fr)] := by
  have hi : i < l.length := (List.getElem?_eq_some_iff.1 hx).1
  have hk : ∀ k, k ≤ i → StAt l t k := by
    intro k
    induction k with
    | zero => exact fun _ => StAt.start l t
    | succ k ih =>
      intro hk
      obtain ⟨q, hq⟩ : ∃ x, l[k]? = some x := ⟨l[k]'(by omega), by simp⟩
      refine (ih (by omega)).next hq ?_
      cases e : stHit q t
      · rfl
      · have := hits_one h hq hx (by omega) e
        rw [hp] at this
        cases this
  exact (hk i (Nat.le_refl _)).hit hx hp
theorem cp_from {l : List Prt} (h : checkP l = 0) {i : Nat} {p : Prt} (hx : l[i]? = some p) (hn : noAd p = true) : endL 0 (l.take i) ≤ p.fr := by
  have hi : i < l.length := (List.getElem?_eq_some_iff.1 hx).1
  have hc := (checkP_parts h).2.2.2 i hi
  unfold cpAt cpOf at hc
  rw [List.getD_eq_getElem?_getD, hx, Option.getD_some] at hc
  split at hc
  · rename_i h1; exact absurd hc h1
  split at hc
  · simp at hc
  rename_i h2
  rw [hn] at h2
  simp at h2
  omega
theorem resI_eq {l : List Prt} {t : Int} {i : Nat} {p : Prt} (h : checkP l = 0) (hx : l[i]? = some p) (hn : noAd p = true) (h1 : p.fr ≤ t) (h2 : t < p.fr + p.ln) : resI l t = i := by
  obtain ⟨hi, rfl⟩ := List.getElem?_eq_some_iff.1 hx
  unfold resI
  rw [List.findIdx_eq hi]
  refine ⟨by simp [reHit, hn, h2], fun j hj => ?_⟩
  have hj' : l[j]? = some (l[j]'(by omega)) := List.getElem?_eq_getElem (by omega)
  unfold reHit
  cases e : noAd (l[j]'(by omega))
  · rfl
  · have h3 := ends_le h i (by omega) j _ hj' hj e
    have h4 := cp_from h hx hn
    simp
    omega
theorem sumL_mono {l : List Prt} (h : ∀ p, p ∈ l → 1 ≤ p.ln ∧ p.ln ≤ 1000000000000000) {a b : Nat} (hab : a ≤ b) : sumL (l.take a) ≤ sumL (l.take b) := by
  have e : l.take b = l.take a ++ (l.drop a).take (b - a) := by
    rw [← List.take_add, Nat.add_sub_cancel' hab]
  rw [e, sumL_append]
  have := (sumL_bd (l := (l.drop a).take (b - a)) fun q hq => h q (List.mem_of_mem_drop (List.mem_of_mem_take hq))).1
  omega

/-- What is known of a tick at which the programme is played. -/
theorem agree {l : List Prt} {t : Int} (hF : placeF l t = 0) (hB : progB l t = true) :
    timeF l (progV l t) = 0 ∧ stitL l (progV l t) = [t] ∧ resF l (adsI l l.length) (progV l t) = 0 ∧ resV l (adsI l l.length) (progV l t) = t ∧ resF l [] (progV l t) = 0 ∧ resV l [] (progV l t) ≤ t := by
  have hT : placeF l t = if timeF l t ≠ 0 then timeF l t else if (placeN l t).1 = l.length then 9 else 0 := rfl
  rw [hF] at hT
  obtain ⟨hz0, hi0⟩ : timeF l t = 0 ∧ (placeN l t).1 ≠ l.length := by
    split at hT
    · rename_i h2; exact absurd hT.symm h2
    rename_i h2
    split at hT
    · simp at hT
    rename_i h3
    exact ⟨by simpa using h2, h3⟩
  obtain ⟨hch, ht0, ht1⟩ := timeF_zero hz0
  have hi : (placeN l t).1 < l.length := by have := placeN_le l t; omega
  have hsum := placeN_sum hi
  have hbd := placeN_bd ht0 hi
  have hV : progV l t = if placeF l t = 0 then (if noAd (l.getD (placeN l t).1 default) = true then (l.getD (placeN l t).1 default).fr + (placeN l t).2 else (firstP (l.drop (placeN l t).1)).getD (endL 0 l)) else 0 := rfl
  have hn : noAd (l.getD (placeN l t).1 default) = true := by
    have h := hB
    unfold progB at h
    simp only [Bool.and_eq_true] at h
    exact h.2
  rw [if_pos hF, if_pos hn] at hV
  generalize placeN l t = n at hi hsum hbd hV hn hi0
  obtain ⟨i, bef⟩ := n
  simp only at hi hsum hbd hV hn hi0
  obtain ⟨p, hx⟩ : ∃ x, l[i]? = some x := ⟨l[i], by simp [hi]⟩
  have hg : l.getD i default = p := by rw [List.getD_eq_getElem?_getD, hx]; rfl
  rw [hg] at hbd hV hn
  obtain ⟨hp0, hp1, hp2⟩ := pf_all hch p (List.mem_of_getElem? hx)
  generalize progV l t = N at hV ⊢
  have htf : timeF l N = 0 := by
    unfold timeF
    rw [if_neg (by simp [hch]), if_neg (by simp [outB]; omega)]
  have hst : stHit p N = true := by simp [stHit, hn]; omega
  have hri := resI_eq hch hx hn (t := N) (by omega) (by omega)
  have hb := checkP_bd hch
  have r1 : resF l (adsI l l.length) N = 0 := by rw [resF, if_neg (by simp [htf]), seenF_ads]
  have r2 : resF l [] N = 0 := by rw [resF, if_neg (by simp [htf]), seenF_nil]
  have hmx : max 0 (N - p.fr) = bef := by omega
  refine ⟨htf, ?_, r1, ?_, r2, ?_⟩
  · rw [stitL, if_pos htf, stF_of hch hx hst]
    congr 1
    omega
  · rw [resV, if_neg (by simp [r1]), hri, if_neg hi0, unsee_none, hg]
    · show sumL _ + max 0 (N - p.fr) = t
      rw [hmx]; exact hsum
    · intro k h1 h2
      have hk := fst1_ads l i k h1 (by have := fst1_le l i; omega)
      refine List.any_eq_true.2 ⟨(k : Int), (adsI_mem l _ _).2 ⟨k, by have := fst1_le l i; omega, rfl, hk⟩, by simp⟩
  · rw [resV, if_neg (by simp [r2]), hri, if_neg hi0, hg]
    cases e : unsee [] (fst1 l i) (i - fst1 l i) with
    | none =>
      show sumL _ + max 0 (N - p.fr) ≤ t
      omega
    | some k =>
      show sumL (l.take k) ≤ t
      have h1 := unsee_lt _ _ _ _ e
      have h2 := sumL_mono hb (a := k) (b := i) (by omega)
      omega

theorem Sl.one {w : World} {v : Value} {t : Int} (h : Sl w 1 encI v [t]) : ∃ b off cap, v = .slice (some ⟨b, off, none⟩) 1 cap ∧ 1 ≤ cap ∧ cap ≤ maxLen ∧ w.cell? ⟨b, off, none⟩ = some (.int .i64 t) := by
  obtain ⟨ao, cap, rfl, h2, h3, h4, h5⟩ := h
  obtain ⟨b, off, rfl, hc⟩ := h5 0 t rfl
  exact ⟨b, off, cap, rfl, h2, h3, by simpa using hc 0 _ rfl⟩

end Go.Proofs.Ytpdeodoidlcdoaa

/- Advertisements, and timelines that are built: plain. -/
namespace Go.Proofs.Ytpdeodoidlcdoaa
open Go.RowKit
def WfA (a : Adv) : Prop := a.na.size ≤ 9223372036854775807 ∧ a.ri.size ≤ 9223372036854775807 ∧ (-9223372036854775808 ≤ a.ln ∧ a.ln ≤ 9223372036854775807) ∧ (-9223372036854775808 ≤ a.va ∧ a.va ≤ 9223372036854775807)

/-- The fault of an advertisement that is put in. -/
def adF (a : Adv) : Int := if nameB a.na = false then 5 else if outB a.ln 1 1000000000000000 = true then 1 else 0
def adsF (l : List Adv) : Int := FF (fun j => adF (l.getD j default)) l.length
theorem adF_zero {a : Adv} (h : adF a = 0) : nameB a.na = true ∧ 1 ≤ a.ln ∧ a.ln ≤ 1000000000000000 := by
  unfold adF at h
  split at h
  · simp at h
  rename_i h1
  split at h
  · simp at h
  rename_i h2
  simp [outB] at h2
  exact ⟨by simpa using h1, by omega, by omega⟩
theorem adsF_zero {l : List Adv} (h : adsF l = 0) : ∀ a, a ∈ l → nameB a.na = true ∧ 1 ≤ a.ln ∧ a.ln ≤ 1000000000000000 := fun a ha => by
  obtain ⟨i, hi, rfl⟩ := List.mem_iff_getElem.1 ha
  have := FF_eq_zero h i hi
  rw [List.getD_eq_getElem?_getD, List.getElem?_eq_getElem hi, Option.getD_some] at this
  exact adF_zero this

def adP (a : Adv) : Prt := ⟨a.na, 0, a.ln⟩
def sumA : List Adv → Int
  | [] => 0
  | a :: r => a.ln + sumA r
theorem sumA_append : ∀ a b : List Adv, sumA (a ++ b) = sumA a + sumA b
  | [], b => by simp [sumA]
  | p :: r, b => by simp [sumA, sumA_append r b]; omega
theorem sumA_take {l : List Adv} {k : Nat} {a : Adv} (hx : l[k]? = some a) : sumA (l.take (k + 1)) = sumA (l.take k) + a.ln := by
  rw [take_next hx, sumA_append]; simp [sumA]
theorem sumA_nn {l : List Adv} (h : ∀ a, a ∈ l → 1 ≤ a.ln ∧ a.ln ≤ 1000000000000000) : 0 ≤ sumA l := by
  induction l with
  | nil => simp [sumA]
  | cons p r ih =>
    have h1 := h p (by simp)
    have h2 := ih (fun q hq => h q (by simp [hq]))
    simp only [sumA]
    omega
theorem sumL_adP (l : List Adv) : sumL (l.map adP) = sumA l := by
  induction l with
  | nil => rfl
  | cons p r ih => simp [sumA, sumL, ih, adP]

def emp : ByteArray := ⟨#[]⟩
/-- Does the last part go on at a tick? -/
def mrg (l : List Prt) (a : Int) : Bool := match l[l.length - 1]? with
  | some p => noAd p && (p.fr + p.ln == a)
  | none => false
/-- Ticks of the programme added. -/
def prg (l : List Prt) (a b : Int) : List Prt :=
  if b ≤ a then l else if mrg l a = true then l.set (l.length - 1) ⟨(l.getD (l.length - 1) default).ad, (l.getD (l.length - 1) default).fr, (l.getD (l.length - 1) default).ln + (b - a)⟩ else l ++ [⟨emp, a, b - a⟩]

theorem prg_len (l : List Prt) (a b : Int) : (prg l a b).length ≤ l.length + 1 := by
  unfold prg
  split
  · omega
  · split <;> simp

/-- A part that is right by itself. -/
def PB (p : Prt) : Prop := 0 ≤ p.fr ∧ 1 ≤ p.ln ∧ p.fr + p.ln ≤ 1000000000000000 ∧ p.ad.size ≤ 40
theorem emp_size : emp.size = 0 := rfl
theorem noAd_emp (a b : Int) : noAd ⟨emp, a, b⟩ = true := by
  show emp.toList.isEmpty = true
  decide +kernel
theorem mrg_some {l : List Prt} {a : Int} (h : mrg l a = true) : ∃ p, l[l.length - 1]? = some p ∧ noAd p = true ∧ p.fr + p.ln = a := by
  unfold mrg at h
  split at h
  · rename_i p hp
    simp at h
    exact ⟨p, hp, h.1, h.2⟩
  · cases h
theorem prg_PB {l : List Prt} {a b : Int} (h : ∀ p, p ∈ l → PB p) (h0 : 0 ≤ a) (h1 : b ≤ 1000000000000000) : ∀ p, p ∈ prg l a b → PB p := by
  unfold prg
  split
  · exact h
  · rename_i hab
    split
    · rename_i hm
      obtain ⟨q, hq, hq1, hq2⟩ := mrg_some hm
      have hg : l.getD (l.length - 1) default = q := by rw [List.getD_eq_getElem?_getD, hq]; rfl
      rw [hg]
      intro p hp
      rcases List.mem_or_eq_of_mem_set hp with h2 | rfl
      · exact h p h2
      · have := h q (List.mem_of_getElem? hq)
        unfold PB at this ⊢
        simp only
        omega
    · intro p hp
      rcases List.mem_append.1 hp with h2 | h2
      · exact h p h2
      · simp only [List.mem_singleton] at h2
        subst h2
        unfold PB
        simp only [emp_size]
        omega
theorem nameB_size {s : ByteArray} (h : nameB s = true) : s.size ≤ 40 := by
  unfold nameB at h
  simp only [Bool.and_eq_true, decide_eq_true_eq] at h
  omega
theorem ads_PB {l : List Prt} {ads : List Adv} (h : ∀ p, p ∈ l → PB p) (ha : adsF ads = 0) : ∀ p, p ∈ l ++ ads.map adP → PB p := by
  intro p hp
  rcases List.mem_append.1 hp with h2 | h2
  · exact h p h2
  · obtain ⟨a, h3, rfl⟩ := List.mem_map.1 h2
    have h4 := adsF_zero ha a h3
    have h5 := nameB_size h4.1
    unfold PB adP
    simp only
    omega
theorem PB_wf {l : List Prt} (h : ∀ p, p ∈ l → PB p) : ∀ p, p ∈ l → WfP p := fun p hp => by
  have := h p hp
  unfold PB at this
  unfold WfP
  omega

/-- The sum of lengths, at most the greatest time. -/
def capA (n : Int) : List Adv → Int
  | [] => n
  | a :: r => capA (min (n + a.ln) 1000000000000000) r
theorem capA_append (n : Int) : ∀ a b : List Adv, capA n (a ++ b) = capA (capA n a) b
  | [], b => rfl
  | p :: r, b => by simp [capA, capA_append _ r b]
theorem capA_take {l : List Adv} {k : Nat} {a : Adv} (hx : l[k]? = some a) : capA 0 (l.take (k + 1)) = min (capA 0 (l.take k) + a.ln) 1000000000000000 := by
  rw [take_next hx, capA_append]; rfl
theorem capA_eq {l : List Adv} (h : ∀ a, a ∈ l → 1 ≤ a.ln ∧ a.ln ≤ 1000000000000000) : ∀ {n : Int}, 0 ≤ n → n ≤ 1000000000000000 → capA n l = min (n + sumA l) 1000000000000000 := by
  induction l with
  | nil => intro n h0 h1; simp [capA, sumA]; omega
  | cons p r ih =>
    intro n h0 h1
    have h2 := h p (by simp)
    have h3 := sumA_nn (l := r) fun q hq => h q (by simp [hq])
    rw [capA, ih (fun q hq => h q (by simp [hq])) (by omega) (by omega)]
    simp only [sumA]
    omega
theorem capA_bd {l : List Adv} (h : ∀ a, a ∈ l → 1 ≤ a.ln ∧ a.ln ≤ 1000000000000000) : 0 ≤ capA 0 l ∧ capA 0 l ≤ 1000000000000000 := by
  have := sumA_nn h
  rw [capA_eq h (Int.le_refl _) (by omega)]
  omega
end Go.Proofs.Ytpdeodoidlcdoaa

/- The builder of a timeline: programme, ads, done. -/
namespace Go.Proofs.Ytpdeodoidlcdoaa
open Go.RowKit

theorem infoP : (Try.prog.info? 52).map (fun i => (i.zero, i.size, i.bytes)) = some (some (.agg #[.string ⟨#[]⟩, .int .i64 0, .int .i64 0]), 3, 32) := by kernel_rfl
theorem slP : SlT Try.prog 48 52 3 32 := by
  obtain ⟨i0, hi, hz0, hz1, hz2⟩ := info_parts infoP
  exact ⟨i0, _, Try.underlying48, hi, hz0, hz1, hz2, rfl, by decide, by decide⟩

/-- Block B is a builder whose timeline reads as l. -/
def Bld (w : World) (B : Nat) (l : List Prt) : Prop := ∃ v, w.heap[B]? = some (.cells #[v] 90 (0, 0)) ∧ Own w (B + 1) 52 3 encP v l
/-- Blocks that are no builder's are kept. -/
def KeepB (B : Nat) (w w' : World) : Prop := ∀ (b : Nat) (c : Array Value) (T : TypeId) (fr : Nat × Nat), w.heap[b]? = some (Obj.cells c T fr) → T ≠ 52 → b ≠ B → w'.heap[b]? = some (Obj.cells c T fr)
theorem KeepB.refl (B : Nat) (w : World) : KeepB B w w := fun _ _ _ _ h _ _ => h
theorem KeepB.trans {B : Nat} {a b c : World} (h : KeepB B a b) (k : KeepB B b c) : KeepB B a c := fun i d T fr h1 h2 h3 => k i d T fr (h i d T fr h1 h2 h3) h2 h3
theorem KeepB.of_keepT {B : Nat} {w w' : World} (h : KeepT 52 w w') : KeepB B w w' := fun i d T fr h1 h2 _ => h i d T fr h1 h2
theorem KeepB.alloc {B : Nat} {a w : World} (h : KeepB B a w) (o : Obj) : KeepB B a (w.alloc o) := h.trans (KeepB.of_keepT ((KeepT.refl _ _).alloc o))
theorem KeepB.setB {B : Nat} {a w : World} (h : KeepB B a w) (j : Nat) (u : Value) : KeepB B a (w.setCell ⟨B, j, none⟩ u) := fun i d T fr h1 h2 h3 => (Below.heap_setCell w ⟨B, j, none⟩ u i h3).trans (h i d T fr h1 h2 h3)
theorem KeepB.setOwn {B : Nat} {a w : World} {g j : Nat} {c : Array Value} {fr : Nat × Nat} (h : KeepB B a w) (hg : w.heap[g]? = some (Obj.cells c 52 fr)) (u : Value) : KeepB B a (w.setCell ⟨g, j, none⟩ u) := fun i d T fr h1 h2 h3 => by
  have h4 := h i d T fr h1 h2 h3
  rw [Below.heap_setCell w ⟨g, j, none⟩ u i (fun e => by
    have e : i = g := e
    subst e
    rw [hg] at h4
    simp only [Option.some.injEq, Obj.cells.injEq] at h4
    exact h2 h4.2.1.symm)]
  exact h4
/-- What a call on a builder leaves. -/
def BldPost (w : World) (B : Nat) (l : List Prt) (r : Ending) : Ending → World → Prop := fun e w' => e = r ∧ Bld w' B l ∧ Below B w w' ∧ KeepB B w w'
theorem BldPost.mk {w w' : World} {B : Nat} {l : List Prt} {r e : Ending} (he : e = r) (h : Bld w' B l) (hb : Below B w w') (hk : KeepB B w w') : BldPost w B l r e w' := ⟨he, h, hb, hk⟩

theorem Bld.drewN {w : World} {B : Nat} {l : List Prt} (h : Bld w B l) (n : Nat) : Bld (w.drewN n) B l := h

set_option maxRecDepth 100000 in
set_option maxHeartbeats 4000000 in
theorem bprog_any (w : World) (B : Nat) (l : List Prt) (a b : Int) (h : Bld w B l) (hB : B < w.heap.size) (hp : ∀ p, p ∈ l → PB p) (hlen : l.length ≤ 1000000000000) (ha : 0 ≤ a) (ha1 : a ≤ 1000000000000000) (hb0 : 0 ≤ b) (hb : b ≤ 1000000000000000) :
    Calls Try.prog 26 #[.pointer (some ⟨B, 0, none⟩), .int .i64 a, .int .i64 b] w (BldPost w B (prg l a b) (.returned (.tuple #[]))) := by
  have HP : Hid (prg l a b = if b ≤ a then l else if mrg l a = true then l.set (l.length - 1) ⟨(l.getD (l.length - 1) default).ad, (l.getD (l.length - 1) default).fr, (l.getD (l.length - 1) default).ln + (b - a)⟩ else l ++ [⟨emp, a, b - a⟩]) := Lib.hid rfl
  have HBD := Lib.hid h
  obtain ⟨v, hblk, hown⟩ := h
  have hcB := cell_of_one hblk
  have hfB := free_of_one hblk
  have HOWN := Lib.hid hown
  have HBLK := Lib.hid hblk
  have HPB := Lib.hid hp
  clear hblk hown hp
  by_cases hab : b ≤ a
  · have hv : Hid (prg l a b = l) := Lib.hid (by rw [HP.out, if_pos hab])
    go_enter Try.func26, Try.ntmps26
    go_wp2
    go_end0
    exact BldPost.mk rfl (by rw [hv.out]; exact HBD.out) (Below.refl _ _) (KeepB.refl _ _)
  have hP2 : Hid (prg l a b = if mrg l a = true then l.set (l.length - 1) ⟨(l.getD (l.length - 1) default).ad, (l.getD (l.length - 1) default).fr, (l.getD (l.length - 1) default).ln + (b - a)⟩ else l ++ [⟨emp, a, b - a⟩]) := Lib.hid (by rw [HP.out, if_neg hab])
  have hab' : ¬ (a ≥ b) := by omega
  clear HP
  obtain ⟨ao, cap, rfl, hcap, hmax, hnil, hel⟩ := HOWN.out.sl encP_len
  unfold maxLen at hmax
  have HEL := Lib.hid hel
  clear hel
  go_enter Try.func26, Try.ntmps26
  go_upto_region 2 with (fail)
  go_cut [6, 49] (fun s6 s49 w2 => s6 = .int .i64 ((l.length : Int) - 1) ∧ s49 = .bool (mrg l a) ∧ ∃ n, w2 = w.drewN n)
  case first =>
    by_cases hne : l.length = 0
    · have hm : Hid (mrg l a = false) := Lib.hid (by
        obtain rfl : l = [] := List.length_eq_zero_iff.1 hne
        rfl)
      have hz : decide ((0 : Int) ≤ (l.length : Int) - 1) = false := by simp; omega
      have hz2 : decide (1 ≤ (l.length : Int)) = false := by simp; omega
      have hz3 : ¬ (0 : Int) ≤ (l.length : Int) - 1 := by omega
      clear hne
      go_quiet (fail)
      go_wp2
      go_meet
      exact ⟨rfl, by rw [hm.out], _, rfl⟩
    · obtain ⟨p, hx⟩ : ∃ x, l[l.length - 1]? = some x := ⟨l[l.length - 1]'(by omega), by simp⟩
      obtain ⟨g, off, hao, hc⟩ := HEL.out _ p hx
      subst hao
      have c0 : w.cell? ⟨g, off + (l.length - 1) * 3, none⟩ = some (.string p.ad) := hc 0 _ rfl
      have c1 := hc 1 _ rfl
      have c2 := hc 2 _ rfl
      obtain ⟨hp0, hp1, hp2, _⟩ := HPB.out p (List.mem_of_getElem? hx)
      have hm : Hid (mrg l a = (p.ad.toList.isEmpty && (p.fr + p.ln == a))) := Lib.hid (by unfold mrg; rw [hx]; rfl)
      have hz : decide ((0 : Int) ≤ (l.length : Int) - 1) = true := by simp; omega
      have hz2 : decide (1 ≤ (l.length : Int)) = true := by simp; omega
      have hz3 : (0 : Int) ≤ (l.length : Int) - 1 := by omega
      have hz4 : (l.length : Int) - 1 < (l.length : Int) := by omega
      have hz5 : (1 : Int) ≤ (l.length : Int) := by omega
      have hz6 : 0 < l.length := by omega
      have ez : ((l.length : Int) - 1).toNat = l.length - 1 := by omega
      have hwr : IntKind.i64.wrap (p.fr + p.ln) = p.fr + p.ln := IntWalk.i64_in _ (by omega)
      clear hx hc hne
      cases e5 : p.ad.toList.isEmpty
      · have e6 : ¬ p.ad.toList = [] := by simpa using e5
        go_quiet (fail)
        go_wp2
        go_meet
        exact ⟨rfl, by rw [hm.out, e5]; rfl, _, rfl⟩
      · have e6 : p.ad.toList = [] := by simpa using e5
        go_quiet (fail)
        go_wp2
        go_meet
        exact ⟨rfl, by rw [hm.out, e5]; rfl, _, rfl⟩
  obtain ⟨rfl, rfl, nq, rfl⟩ := hcut
  obtain ⟨w2, hw2⟩ : ∃ w2, w2 = w.drewN nq := ⟨_, rfl⟩
  have HB2 : Hid (Below B w w2) := Lib.hid (by rw [hw2]; exact below_drewN (Below.refl _ _) _)
  have HK2 : Hid (KeepB B w w2) := Lib.hid (by rw [hw2]; exact KeepB.refl _ _)
  have HO2 : Hid (Own w2 (B + 1) 52 3 encP (.slice ao l.length cap) l) := Lib.hid (by rw [hw2]; exact HOWN.out.drewN _)
  have hblk2 : w2.heap[B]? = some (.cells #[.slice ao l.length cap] 90 (0, 0)) := by rw [hw2]; exact HBLK.out
  have hcB2 := cell_of_one hblk2
  have hfB2 := free_of_one hblk2
  have hB2 : B < w2.heap.size := by rw [hw2]; exact hB
  have HBLK2 := Lib.hid hblk2
  rw [← hw2]
  clear hw2 hcB hfB HOWN HBLK HBD HEL hblk2 hB
  cases hM : mrg l a
  case true =>
    obtain ⟨p, hx, hp1, hp2⟩ := mrg_some hM
    have hne : l ≠ [] := fun e => by rw [e] at hx; simp at hx
    obtain ⟨g, cg, hv, hg1, hg2, hg3, hg4, hgc, hgf⟩ := Own.getk encP_len HO2.out hne
    simp only [Value.slice.injEq, true_and] at hv
    obtain ⟨rfl, rfl⟩ := hv
    have hgd : Hid (l.getD (l.length - 1) default = p) := Lib.hid (by rw [List.getD_eq_getElem?_getD, hx]; rfl)
    have hv : Hid (prg l a b = l.set (l.length - 1) ⟨p.ad, p.fr, p.ln + (b - a)⟩) := Lib.hid (by rw [hP2.out, hM, if_pos rfl, hgd.out])
    have hl0 : 0 < l.length := List.length_pos_iff.2 hne
    have c2 := hgc _ p 2 _ hx rfl
    have f2 := hgf ((l.length - 1) * 3 + 2)
    obtain ⟨hq0, hq1, hq2, _⟩ := HPB.out p (List.mem_of_getElem? hx)
    have hz3 : (0 : Int) ≤ (l.length : Int) - 1 := by omega
    have hz4 : (l.length : Int) - 1 < (l.length : Int) := by omega
    have hz5 : (1 : Int) ≤ (l.length : Int) := by omega
    have ez : ((l.length : Int) - 1).toNat = l.length - 1 := by omega
    have HST := Lib.hid (Own.store (i := l.length - 1) (j := 2) (x := p) (y := ⟨p.ad, p.fr, p.ln + (b - a)⟩) (u := .int .i64 (p.ln + (b - a))) encP_len HO2.out rfl hx (by decide) rfl)
    have HBg := Lib.hid ((Below.heap_setCell w2 ⟨g, (l.length - 1) * 3 + 2, none⟩ (.int .i64 (p.ln + (b - a))) B (by show B ≠ g; omega)).trans HBLK2.out)
    have HX := Lib.hid hx
    clear hx hne hgc hgf hM hp1 hp2
    go_wp2
    go_end0
    obtain ⟨cur, hcur⟩ := Own.blk HO2.out
    exact BldPost.mk rfl (by rw [hv.out]; exact ⟨_, HBg.out, HST.out⟩) (HB2.out.setCell (by show B ≤ g; omega) _) (HK2.out.setOwn hcur _)
  case false =>
    have hv : Hid (prg l a b = l ++ [⟨emp, a, b - a⟩]) := Lib.hid (by rw [hP2.out, hM]; rfl)
    have hln := Lib.hid hlen
    have hne := Lib.hid hnil
    clear hM hlen hnil hP2
    go_wp2_with (at_builtin; go_loud (refine wpList_pushK rfl _ _ 48 rfl slP rfl rfl ⟨emp, a, b - a⟩ rfl rfl rfl HO2.out rfl (by have := hln.out; omega) (by omega) ?_); intro v5 w5 ho5 hb5 hk5; rw [← hv.out] at ho5; obtain ⟨ao5, cap5, rfl, _, _, _, _⟩ := Own.sl ho5 encP_len; have HO5 := Lib.hid ho5; have HB5 := Lib.hid hb5; have HK5 := Lib.hid hk5; have hblk5 := hk5 _ _ _ _ HBLK2.out (by decide); have hc5 := cell_of_one hblk5; have hf5 := free_of_one hblk5; have HBLK5 := Lib.hid hblk5; clear ho5 hb5 hk5 hblk5)
    go_end0
    exact BldPost.mk rfl ⟨_, one_setCell HBLK5.out, ownsRow_setCell_below HO5.out (by show B < B + 1; omega) _⟩ ((HB2.out.trans (HB5.out.mono (by omega))).setCell (Nat.le_refl _) _) ((HK2.out.trans (KeepB.of_keepT HK5.out)).setB _ _)
end Go.Proofs.Ytpdeodoidlcdoaa

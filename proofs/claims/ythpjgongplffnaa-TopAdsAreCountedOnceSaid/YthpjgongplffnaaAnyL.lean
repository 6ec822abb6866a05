/- Counts do not change when events come in another order, or twice: plain. -/
import Derived.Test.YthpjgongplffnaaCntP
namespace Go.Proofs.Ythpjgongplffnaa
open Go.RowKit

/-- What is told is told by some event that concerns the timeline. -/
theorem told_st {l : List Prt} {es : List Ev} (v : Vk) (k : Int) : ∀ n, n ≤ es.length → (toldL (stN l es n).1 v.se v.pl k = true ↔ ∃ j e, j < n ∧ es[j]? = some e ∧ conc l e = true ∧ keyE e = v ∧ e.ki = k)
  | 0, _ => by
    constructor
    · intro h; cases h
    · rintro ⟨j, _, hj, _⟩; omega
  | n + 1, hn => by
    have ih := told_st (l := l) (es := es) v k n (by omega)
    obtain ⟨x, hx⟩ : ∃ x, es[n]? = some x := ⟨es[n]'(by omega), by simp⟩
    have step : (∃ j e, j < n + 1 ∧ es[j]? = some e ∧ conc l e = true ∧ keyE e = v ∧ e.ki = k) ↔ (∃ j e, j < n ∧ es[j]? = some e ∧ conc l e = true ∧ keyE e = v ∧ e.ki = k) ∨ (conc l x = true ∧ keyE x = v ∧ x.ki = k) := by
      constructor
      · rintro ⟨j, e, hj, he, h⟩
        by_cases e2 : j = n
        · subst e2
          rw [hx] at he
          cases he
          exact Or.inr h
        · exact Or.inl ⟨j, e, by omega, he, h⟩
      · rintro (⟨j, e, hj, h⟩ | h)
        · exact ⟨j, e, by omega, h⟩
        · exact ⟨n, x, by omega, hx, h⟩
    rw [step, ← ih]
    cases hT : (!conc l x || toldL (stN l es n).1 x.se x.pl x.ki)
    · rw [stN_good hx hT]
      rw [Bool.or_eq_false_iff, Bool.not_eq_false'] at hT
      show toldL ((stN l es n).1 ++ [x]) v.se v.pl k = true ↔ _
      rw [toldL_snoc, Bool.or_eq_true, isE_iff]
      constructor
      · rintro (h | h)
        · exact Or.inl h
        · exact Or.inr ⟨hT.1, h⟩
      · rintro (h | h)
        · exact Or.inl h
        · exact Or.inr h.2
    · rw [stN_idle hx hT]
      show toldL (stN l es n).1 v.se v.pl k = true ↔ _
      constructor
      · exact Or.inl
      · rintro (h | ⟨h1, h2, h3⟩)
        · exact h
        · rw [h1, Bool.not_true, Bool.false_or] at hT
          subst h2 h3
          exact hT
/-- Two hands tell the same. -/
def SameT (G H : List Ev) : Prop := ∀ (v : Vk) (k : Int), toldL G v.se v.pl k = toldL H v.se v.pl k
theorem st_same {l : List Prt} {es ft : List Ev} (h : ∀ e, e ∈ es ↔ e ∈ ft) : SameT (stN l es es.length).1 (stN l ft ft.length).1 := by
  have key : ∀ {a b : List Ev}, (∀ e, e ∈ a → e ∈ b) → ∀ (v : Vk) (k : Int), toldL (stN l a a.length).1 v.se v.pl k = true → toldL (stN l b b.length).1 v.se v.pl k = true := by
    intro a b hab v k ht
    obtain ⟨j, e, hj, he, hr⟩ := (told_st v k a.length (Nat.le_refl _)).1 ht
    have hm := hab e (List.mem_of_getElem? he)
    obtain ⟨i, hi, hx⟩ := List.mem_iff_getElem.1 hm
    exact (told_st v k b.length (Nat.le_refl _)).2 ⟨i, e, hi, by rw [List.getElem?_eq_getElem hi, hx], hr⟩
  intro v k
  rw [Bool.eq_iff_iff]
  exact ⟨key (fun e he => (h e).1 he) v k, key (fun e he => (h e).2 he) v k⟩
theorem upTo_same {G H : List Ev} (h : SameT G H) (v : Vk) : ∀ n, upTo G v n = upTo H v n
  | 0 => h v 1
  | n + 1 => by
    show (upTo G v n && toldL G v.se v.pl (n + 2)) = (upTo H v n && toldL H v.se v.pl (n + 2))
    rw [upTo_same h v n, h v]
theorem keys_told {G : List Ev} {v : Vk} : v ∈ keysG G ↔ ∃ k, toldL G v.se v.pl k = true := by
  rw [mem_keysG]
  constructor
  · rintro ⟨e, he, hk⟩
    exact ⟨e.ki, toldL_iff.2 ⟨e, he, hk, rfl⟩⟩
  · rintro ⟨k, h⟩
    obtain ⟨e, he, hk, _⟩ := toldL_iff.1 h
    exact ⟨e, he, hk⟩
theorem keys_perm {G H : List Ev} (h : SameT G H) : (keysG G).Perm (keysG H) :=
  (List.perm_ext_iff_of_nodup (keysG_nodup G) (keysG_nodup H)).2 fun v => by
    rw [keys_told, keys_told]
    constructor
    · rintro ⟨k, hk⟩; exact ⟨k, by rw [← h v k]; exact hk⟩
    · rintro ⟨k, hk⟩; exact ⟨k, by rw [h v k]; exact hk⟩
theorem cK_same {l : List Prt} {G H : List Ev} (hG : GoodG l G) (hH : GoodG l H) (h : SameT G H) (ad : ByteArray) (n : Nat) : cK G ad n G = cK H ad n H := by
  rw [← cV_keys hG, ← cV_keys hH]
  unfold cV
  rw [(keys_perm h).countP_eq]
  refine List.countP_congr fun v _ => ?_
  unfold isV
  rw [upTo_same h v n]
theorem cntL_same {l : List Prt} {G H : List Ev} (hG : GoodG l G) (hH : GoodG l H) (h : SameT G H) : cntL l G = cntL l H := by
  unfold cntL
  refine List.map_congr_left fun ad _ => ?_
  unfold cntS
  rw [cK_same hG hH h, cK_same hG hH h, cK_same hG hH h, cK_same hG hH h, cK_same hG hH h]
theorem len_same {l : List Prt} {G H : List Ev} (hG : GoodG l G) (hH : GoodG l H) (h : SameT G H) : G.length = H.length := by
  have nd : ∀ {A : List Ev}, GoodG l A → (A.map fun e => (keyE e, e.ki)).Nodup := by
    intro A hA
    unfold List.Nodup
    rw [List.pairwise_map]
    refine hA.2.imp ?_
    intro a b hab e
    simp only [Prod.mk.injEq] at e
    exact hab e
  have mem : ∀ {A : List Ev} (p : Vk × Int), p ∈ (A.map fun e => (keyE e, e.ki)) ↔ toldL A p.1.se p.1.pl p.2 = true := by
    intro A p
    rw [toldL_iff, List.mem_map]
    constructor
    · rintro ⟨e, he, rfl⟩; exact ⟨e, he, rfl, rfl⟩
    · rintro ⟨e, he, h1, h2⟩; exact ⟨e, he, by rw [h1, h2]⟩
  have hp : (G.map fun e => (keyE e, e.ki)).Perm (H.map fun e => (keyE e, e.ki)) := (List.perm_ext_iff_of_nodup (nd hG) (nd hH)).2 fun p => by rw [mem, mem, h]
  have := hp.length_eq
  simpa using this
/-- No fault: what that says. -/
theorem cntF_ok {l : List Prt} {es : List Ev} : cntF l es = 0 ↔ checkP l = 0 ∧ es.length ≤ 5000 ∧ ∀ e ∈ es, evF e = 0 := by
  unfold cntF
  constructor
  · intro h
    by_cases h1 : checkP l = 0
    · rw [if_neg (by simp [h1])] at h
      by_cases h2 : 5000 < es.length
      · rw [if_pos h2] at h; cases h
      · rw [if_neg h2] at h
        refine ⟨h1, by omega, fun e he => ?_⟩
        obtain ⟨i, hi, hx⟩ := List.mem_iff_getElem.1 he
        have := FF_eq_zero h i hi
        rw [evA_of (e := e) (by rw [List.getElem?_eq_getElem hi, hx])] at this
        exact this
    · rw [if_pos h1] at h
      exact absurd h h1
  · rintro ⟨h1, h2, h3⟩
    rw [if_neg (by simp [h1]), if_neg (by omega)]
    refine FF_zero fun j hj => ?_
    rw [evA_of (e := es[j]) (List.getElem?_eq_getElem hj)]
    exact h3 _ (List.getElem_mem hj)
theorem any_order {l : List Prt} {es : List Ev} (h0 : cntF l es = 0) (h2 : 2 * es.length ≤ 5000) :
    cntF l (es.reverse ++ es) = 0 ∧ cntA l (es.reverse ++ es) = cntA l es ∧ (cntI l (es.reverse ++ es)).length = (cntI l es).length + es.length := by
  obtain ⟨a1, a2, a3⟩ := cntF_ok.1 h0
  have hT : cntF l (es.reverse ++ es) = 0 := cntF_ok.2 ⟨a1, by simp; omega, fun e he => a3 e (by simpa using he)⟩
  have hs : SameT (stN l (es.reverse ++ es) (es.reverse ++ es).length).1 (stN l es es.length).1 := st_same fun e => by simp
  have g1 := stN_goodG l (es.reverse ++ es) (es.reverse ++ es).length
  have g2 := stN_goodG l es es.length
  refine ⟨hT, ?_, ?_⟩
  · unfold cntA
    rw [if_neg (by simp [hT]), if_neg (by simp [h0])]
    exact cntL_same g1 g2 hs
  · unfold cntI
    rw [if_neg (by simp [hT]), if_neg (by simp [h0])]
    have e1 := len_same g1 g2 hs
    have e2 := stN_len l (es.reverse ++ es) (es.reverse ++ es).length
    have e3 := stN_len l es es.length
    have e4 : (es.reverse ++ es).length = es.length + es.length := by simp
    omega
theorem cK_down (G : List Ev) (ad : ByteArray) (n : Nat) (S : List Ev) : cK G ad (n + 1) S ≤ cK G ad n S := by
  unfold cK
  refine List.countP_mono_left fun e _ h => ?_
  unfold isK at *
  rw [Bool.and_eq_true] at *
  refine ⟨h.1, ?_⟩
  have : (upTo G (keyE e) n && toldL G (keyE e).se (keyE e).pl (n + 2)) = true := h.2
  rw [Bool.and_eq_true] at this
  exact this.1
theorem kinds_down {l : List Prt} {es : List Ev} {c : Cnt} (h : c ∈ cntA l es) : c.k1 ≤ c.k0 ∧ c.k2 ≤ c.k1 ∧ c.k3 ≤ c.k2 ∧ c.k4 ≤ c.k3 := by
  unfold cntA at h
  split at h
  · cases h
  · unfold cntL at h
    obtain ⟨ad, _, rfl⟩ := List.mem_map.1 h
    unfold cntS
    exact ⟨Int.ofNat_le.2 (cK_down _ ad 0 _), Int.ofNat_le.2 (cK_down _ ad 1 _), Int.ofNat_le.2 (cK_down _ ad 2 _), Int.ofNat_le.2 (cK_down _ ad 3 _)⟩
end Go.Proofs.Ythpjgongplffnaa

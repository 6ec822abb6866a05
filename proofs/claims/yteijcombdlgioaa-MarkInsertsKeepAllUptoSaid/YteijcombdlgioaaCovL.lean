/- What is played of the programme when advertisements are put in: plain. -/
import Derived.Test.YteijcombdlgioaaTimes
import Derived.Test.YteijcombdlgioaaIns0
namespace Go.Proofs.Yteijcombdlgioaa
open Go.RowKit

def sumAS : List AdS → Int
  | [] => 0
  | y :: r => sumA y.l + sumAS r
theorem sumAS_append : ∀ a b, sumAS (a ++ b) = sumAS a + sumAS b
  | [], b => by simp [sumAS]
  | p :: r, b => by simp [sumAS, sumAS_append r b]; omega
theorem sumAS_take {l : List AdS} {k : Nat} {y : AdS} (hx : l[k]? = some y) : sumAS (l.take (k + 1)) = sumAS (l.take k) + sumA y.l := by
  rw [take_next hx, sumAS_append]; simp [sumAS]

theorem sumL_set : ∀ {l : List Prt} {i : Nat} {p q : Prt}, l[i]? = some p → sumL (l.set i q) = sumL l - p.ln + q.ln
  | [], i, p, q, h => by simp at h
  | z :: r, 0, p, q, h => by
    simp at h; subst h
    simp [sumL]; omega
  | z :: r, i + 1, p, q, h => by
    have := sumL_set (l := r) (i := i) (q := q) (by simpa using h)
    simp only [List.set_cons_succ, sumL, this]
    omega
theorem sumL_prg (l : List Prt) (a b : Int) (h : a ≤ b) : sumL (prg l a b) = sumL l + (b - a) := by
  unfold prg
  split
  · omega
  · split
    · rename_i hm
      obtain ⟨q, hq, _⟩ := mrg_some hm
      rw [getD_of hq, sumL_set hq]
      simp only
      omega
    · rw [sumL_append]; simp [sumL]
theorem insL_sum {P : Int} {at_ : List Int} {ads : List AdS} (hlen : at_.length = ads.length) : ∀ k, k ≤ at_.length → (∀ j, j < k → insF1 P at_ ads j = 0) → sumL (insL at_ ads k) = lastI at_ k + sumAS (ads.take k)
  | 0, _, _ => by simp [insL, sumL, lastI, sumAS]
  | k + 1, hk, h => by
    obtain ⟨y, hy⟩ : ∃ x, ads[k]? = some x := ⟨ads[k]'(by omega), by simp⟩
    have ih := insL_sum hlen k (by omega) fun j hj => h j (by omega)
    have h1 := insF1_zero (h k (by omega))
    have h2 : lastI at_ k ≤ at_.getD k 0 := by
      unfold lastI
      split
      · omega
      · have := h1.2.2.1 (by omega); omega
    rw [insL, sumL_append, sumL_prg _ _ _ h2, ih, sumL_adP, getD_of hy, sumAS_take hy]
    have : lastI at_ (k + 1) = at_.getD k 0 := by rw [lastI, if_neg (by omega), Nat.add_sub_cancel]
    rw [this]
    omega

/-- Each tick from 0 up to b at which Q does not hold is played. -/
def Cov (Q : Int → Prop) (l : List Prt) (b : Int) : Prop := ∀ t, 0 ≤ t → t < b → ¬ Q t → ∃ (i : Nat) (p : Prt), l[i]? = some p ∧ stHit p t = true
theorem Cov.append {Q : Int → Prop} {l m : List Prt} {b : Int} (h : Cov Q l b) : Cov Q (l ++ m) b := fun t h0 h1 h2 => by
  obtain ⟨i, p, hx, hp⟩ := h t h0 h1 h2
  have hi : i < l.length := (List.getElem?_eq_some_iff.1 hx).1
  exact ⟨i, p, by rw [List.getElem?_append_left hi]; exact hx, hp⟩
theorem Cov.prg {Q : Int → Prop} {l : List Prt} {a b : Int} (h : Cov Q l a) (hpb : ∀ p, p ∈ l → PB p) : Cov Q (prg l a b) b := fun t h0 h1 h2 => by
  unfold Go.Proofs.Yteijcombdlgioaa.prg
  split
  · exact h t h0 (by omega) h2
  · rename_i hab
    split
    · rename_i hm
      obtain ⟨q, hq, hq1, hq2⟩ := mrg_some hm
      rw [getD_of hq]
      have hlt : l.length - 1 < l.length := (List.getElem?_eq_some_iff.1 hq).1
      by_cases hta : t < a
      · obtain ⟨i, p, hx, hp⟩ := h t h0 hta h2
        by_cases e : i = l.length - 1
        · subst e
          have := hq.symm.trans hx
          simp only [Option.some.injEq] at this
          subst this
          refine ⟨_, _, List.getElem?_set_self hlt, ?_⟩
          unfold stHit at hp ⊢
          simp only [Bool.and_eq_true, decide_eq_true_eq] at hp ⊢
          refine ⟨⟨hq1, hp.1.2⟩, by omega⟩
        · exact ⟨i, p, by rw [List.getElem?_set_ne (by omega)]; exact hx, hp⟩
      · refine ⟨_, _, List.getElem?_set_self hlt, ?_⟩
        have hq3 := (hpb q (List.mem_of_getElem? hq)).2.1
        unfold stHit
        simp only [Bool.and_eq_true, decide_eq_true_eq]
        exact ⟨⟨hq1, by omega⟩, by omega⟩
    · by_cases hta : t < a
      · exact (h.append (m := [⟨emp, a, b - a⟩])) t h0 hta h2
      · refine ⟨l.length, _, by rw [List.getElem?_append_right (Nat.le_refl _), Nat.sub_self]; rfl, ?_⟩
        unfold stHit
        rw [noAd_emp]
        simp
        omega

theorem insL_cov {P : Int} {at_ : List Int} {ads : List AdS} (hP : P ≤ 1000000000000000) (hP0 : 0 ≤ P) : ∀ k, (∀ j, j < k → insF1 P at_ ads j = 0) → Cov (fun _ => False) (insL at_ ads k) (lastI at_ k)
  | 0, _ => fun t h0 h1 => by simp [lastI] at h1; omega
  | k + 1, h => by
    have ih := insL_cov hP hP0 k fun j hj => h j (by omega)
    have hpb := insL_PB hP hP0 k fun j hj => h j (by omega)
    have e : lastI at_ (k + 1) = at_.getD k 0 := by rw [lastI, if_neg (by omega), Nat.add_sub_cancel]
    rw [insL, e]
    exact (ih.prg hpb).append

/-- Is a tick in one of the first k breaks? -/
def inBr (l : List Brk) (k : Nat) (t : Int) : Prop := ∃ i, i < k ∧ (l.getD i default).be ≤ t ∧ (t < (l.getD i default).en ∨ (l.getD i default).en = -1)
theorem repL_cov {P : Int} {l : List Brk} {ads : List AdS} (hP : P ≤ 1000000000000000) (hP0 : 0 ≤ P) (hc : checkB l = 0) : ∀ k, k ≤ l.length → (∀ j, j < k → repF1 P l ads j = 0) → Cov (inBr l k) (repL P l ads k) (repS P l ads k)
  | 0, _, _ => fun t h0 h1 => by simp [repS] at h1; omega
  | k + 1, hk, h => by
    have ih := repL_cov hP hP0 hc k (by omega) fun j hj => h j (by omega)
    have hpb := repL_PB hP hP0 hc k (by omega) fun j hj => h j (by omega)
    have h2 := (ih.prg (b := (l.getD k default).be) hpb).append (m := ((ads.getD k default).l).map adP)
    intro t h0 h1 hq
    by_cases ht : t < (l.getD k default).be
    · exact h2 t h0 ht fun ⟨i, hi, hr⟩ => hq ⟨i, by omega, hr⟩
    · exfalso
      refine hq ⟨k, by omega, by omega, ?_⟩
      have h3 : t < repE P (l.getD k default) := by
        have h4 : repS P l ads (k + 1) = min ((l.getD k default).be + sumA (ads.getD k default).l) (repE P (l.getD k default)) := rfl
        rw [h4] at h1; omega
      unfold repE at h3
      split at h3
      · rename_i h5
        rcases h5 with h5 | h5
        · exact .inr h5
        · left; omega
      · exact .inl h3

theorem placeN_at : ∀ {l : List Prt} {i : Nat} {p : Prt} {d : Int}, l[i]? = some p → 0 ≤ d → d < p.ln → (∀ q, q ∈ l → 1 ≤ q.ln) → placeN l (sumL (l.take i) + d) = (i, d)
  | [], i, p, d, h, _, _, _ => by simp at h
  | z :: r, 0, p, d, h, h0, h1, _ => by
    simp at h; subst h
    simp only [List.take_zero, sumL, Int.zero_add]
    rw [placeN, if_pos h1]
  | z :: r, i + 1, p, d, h, h0, h1, h2 => by
    have ih := placeN_at (l := r) (i := i) (p := p) (d := d) (by simpa using h) h0 h1 (fun q hq => h2 q (by simp [hq]))
    have hz := h2 z (by simp)
    have hs : 0 ≤ sumL (r.take i) := by
      have : ∀ m : List Prt, (∀ q, q ∈ m → 1 ≤ q.ln) → 0 ≤ sumL m := by
        intro m
        induction m with
        | nil => intro _; simp [sumL]
        | cons a b ihm => intro hm; have := ihm (fun q hq => hm q (by simp [hq])); have := hm a (by simp); simp only [sumL]; omega
      exact this _ fun q hq => h2 q (by simp [List.mem_of_mem_take hq])
    simp only [List.take_succ_cons, sumL]
    rw [placeN, if_neg (by omega), show z.ln + sumL (r.take i) + d - z.ln = sumL (r.take i) + d by omega, ih]

/-- What is known of a tick that is played. -/
theorem played_at {l : List Prt} {t : Int} {i : Nat} {p : Prt} (hc : checkP l = 0) (h0 : 0 ≤ t) (h1 : t ≤ 1000000000000000) (hx : l[i]? = some p) (hp : stHit p t = true) :
    ∃ s, timeF l t = 0 ∧ stitL l t = [s] ∧ placeF l s = 0 ∧ progB l s = true ∧ progV l s = t := by
  have hn := hp
  unfold stHit at hn
  simp only [Bool.and_eq_true, decide_eq_true_eq] at hn
  have hi : i < l.length := (List.getElem?_eq_some_iff.1 hx).1
  have htf : timeF l t = 0 := by
    unfold timeF
    rw [if_neg (by simp [hc]), if_neg (by simp [outB]; omega)]
  have hb := checkP_bd hc
  have hpl := placeN_at hx (d := t - p.fr) (by omega) (by omega) (fun q hq => (hb q hq).1)
  have hs0 := (sumL_bd (l := l.take i) fun q hq => hb q (List.mem_of_mem_take hq)).1
  have hs1 : sumL (l.take i) + (t - p.fr) ≤ 1000000000000000 := by
    have h2 := sumL_take hx
    have h3 := sumL_mono hb (a := i + 1) (b := l.length) (by omega)
    rw [List.take_length] at h3
    have h4 := (checkP_parts hc).2.2.1
    omega
  have htf2 : timeF l (sumL (l.take i) + (t - p.fr)) = 0 := by
    unfold timeF
    rw [if_neg (by simp [hc]), if_neg (by simp [outB]; omega)]
  have hpf : placeF l (sumL (l.take i) + (t - p.fr)) = 0 := by
    unfold placeF
    rw [if_neg (by simp [htf2]), hpl, if_neg (by simp; omega)]
  refine ⟨_, htf, by rw [stitL, if_pos htf, stF_of hc hx hp], hpf, ?_, ?_⟩
  · unfold progB
    rw [hpf, hpl]
    simp only [getD_of hx, hn.1.1]
    rfl
  · unfold progV
    rw [if_pos hpf, hpl]
    simp only [getD_of hx, hn.1.1, if_true]
    omega

theorem stF_len (l : List Prt) (t : Int) : (stF l t).length ≤ 1 := by
  have : ∀ (m : List Prt) (b : Int), (stL t b m).length ≤ 1 := by
    intro m
    induction m with
    | nil => intro b; simp [stL]
    | cons p r ih =>
      intro b
      unfold stL
      split
      · simp
      · exact ih _
  exact this l 0

/-- What Inserted makes sure of. -/
theorem keeps_all {P : Int} {at_ : List Int} {ads : List AdS} (h : insRF P at_ ads = 0) :
    insRL P at_ ads = insZ P at_ ads ∧ checkP (insZ P at_ ads) = 0 ∧ sumL (insZ P at_ ads) = P + sumAS ads ∧ 0 ≤ P ∧ P ≤ 1000000000000000 ∧ (∀ y, y ∈ ads → ∀ a, a ∈ y.l → 1 ≤ a.ln ∧ a.ln ≤ 1000000000000000) ∧
      ∀ t, 0 ≤ t → t < P → ∃ s, timeF (insZ P at_ ads) t = 0 ∧ stitL (insZ P at_ ads) t = [s] ∧ placeF (insZ P at_ ads) s = 0 ∧ progB (insZ P at_ ads) s = true ∧ progV (insZ P at_ ads) s = t := by
  have hf0 : insF0 P at_ ads = 0 := by
    unfold insRF at h
    split at h
    · rename_i h1; exact absurd h h1
    · rename_i h1; simpa using h1
  have hch : checkP (insZ P at_ ads) = 0 := by
    unfold insRF at h
    rw [if_neg (by simp [hf0])] at h
    exact h
  have hl : insRL P at_ ads = insZ P at_ ads := by
    unfold insRL rightL
    rw [if_neg (by simp [hf0]), if_pos hch]
  unfold insF0 at hf0
  split at hf0
  · simp at hf0
  rename_i h1
  have hP := outB_no' h1
  split at hf0
  · simp at hf0
  rename_i h2
  have hlen : at_.length = ads.length := by simpa using h2
  split at hf0
  · simp at hf0
  have hz := FF_eq_zero hf0
  have hla := lastI_bd hP.1 hz
  have hsum := insL_sum hlen at_.length (Nat.le_refl _) hz
  have hpb := insL_PB hP.2 hP.1 _ hz
  have hcov := (insL_cov hP.2 hP.1 _ hz).prg (b := P) hpb
  refine ⟨hl, hch, ?_, hP.1, hP.2, ?_, fun t h0 h1 => ?_⟩
  · rw [insZ, sumL_prg _ _ _ hla.2, hsum, hlen, List.take_length]
    omega
  · intro y hy a ha
    obtain ⟨j, hj, rfl⟩ := List.mem_iff_getElem.1 hy
    have h3 := insF1_zero (hz j (by omega))
    rw [getD_of (List.getElem?_eq_getElem hj)] at h3
    exact (adsF_zero h3.2.2.2 a ha).2
  · obtain ⟨i, p, hx, hp⟩ := hcov t h0 h1 (fun h => h)
    exact played_at hch h0 (by omega) hx hp

/-- What Replaced makes sure of. -/
theorem goes_on {P : Int} {l : List Brk} {ads : List AdS} (h : repRF P l ads = 0) :
    repRL P l ads = repZ P l ads ∧ checkP (repZ P l ads) = 0 ∧ 0 ≤ P ∧ P ≤ 1000000000000000 ∧
      ∀ t, 0 ≤ t → t < P → timeF (repZ P l ads) t = 0 ∧ (stitL (repZ P l ads) t).length ≤ 1 ∧ (¬ inBr l l.length t → (stitL (repZ P l ads) t).length = 1) := by
  have hf0 : repF0 P l ads = 0 := by
    unfold repRF at h
    split at h
    · rename_i h1; exact absurd h h1
    · rename_i h1; simpa using h1
  have hch : checkP (repZ P l ads) = 0 := by
    unfold repRF at h
    rw [if_neg (by simp [hf0])] at h
    exact h
  have hl : repRL P l ads = repZ P l ads := by
    unfold repRL rightL
    rw [if_neg (by simp [hf0]), if_pos hch]
  unfold repF0 at hf0
  split at hf0
  · simp at hf0
  rename_i h1
  have hP := outB_no' h1
  split at hf0
  · simp at hf0
  split at hf0
  · rename_i h3; exact absurd hf0 h3
  rename_i h3
  have hcb : checkB l = 0 := by simpa using h3
  have hz := FF_eq_zero hf0
  have hpb := repL_PB hP.2 hP.1 hcb _ (Nat.le_refl _) hz
  have hcov := (repL_cov hP.2 hP.1 hcb _ (Nat.le_refl _) hz).prg (b := P) hpb
  refine ⟨hl, hch, hP.1, hP.2, fun t h0 h1 => ?_⟩
  have htf : timeF (repZ P l ads) t = 0 := by
    unfold timeF
    rw [if_neg (by simp [hch]), if_neg (by simp [outB]; omega)]
  refine ⟨htf, ?_, fun hq => ?_⟩
  · rw [stitL, if_pos htf]; exact stF_len _ _
  · obtain ⟨i, p, hx, hp⟩ := hcov t h0 h1 hq
    obtain ⟨s, _, h5, _⟩ := played_at hch h0 (by omega) hx hp
    rw [h5]; rfl
end Go.Proofs.Yteijcombdlgioaa

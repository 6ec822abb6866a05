/- Breaks have no tick in common, and a cue that comes twice does nothing the second time: plain. -/
import Derived.Test.YtaknkldbdijkeaaBrkV
namespace Go.Proofs.Ytaknkldbdijkeaa
open Go.RowKit

def RG (a b : Evn) : Prop := a.op = false ∧ a.en ≤ b.be
def PG (g : Evn) : Prop := g.op = true ∨ g.be < g.en
def goodG (G : List Evn) : Prop := G.Pairwise RG ∧ ∀ g, g ∈ G → PG g
theorem goodG.sub {G H : List Evn} (h : goodG G) (hs : H.Sublist G) : goodG H := ⟨h.1.sublist hs, fun g hg => h.2 g (hs.subset hg)⟩
theorem goodG.set {G : List Evn} (h : goodG G) {j : Nat} {g : Evn} {tm : Int} (hj : G[j]? = some g) (hb : g.be < tm) (hn : ¬ (g.op = false ∧ g.en ≤ tm)) : goodG (G.set j { g with en := tm, op := false }) := by
  obtain ⟨h1, h2⟩ := h
  obtain ⟨hjl, hjg⟩ := List.getElem?_eq_some_iff.1 hj
  refine ⟨?_, fun x hx => ?_⟩
  · rw [List.pairwise_iff_getElem] at h1 ⊢
    intro i k hi hk hik
    rw [List.length_set] at hi hk
    have hr := h1 i k hi hk hik
    rw [List.getElem_set, List.getElem_set]
    by_cases e1 : j = i
    · subst e1
      rw [if_pos rfl, if_neg (by omega)]
      rw [hjg] at hr
      obtain ⟨r1, r2⟩ := hr
      refine ⟨rfl, ?_⟩
      have : ¬ g.en ≤ tm := fun h => hn ⟨r1, h⟩
      show tm ≤ _
      omega
    · rw [if_neg e1]
      by_cases e2 : j = k
      · subst e2
        rw [if_pos rfl]
        rw [hjg] at hr
        exact hr
      · rw [if_neg e2]; exact hr
  · rcases List.mem_or_eq_of_mem_set hx with hx | hx
    · exact h2 x hx
    · subst hx; exact .inr hb
theorem hear_good {l : List Evn} {h : Hrd} (hd : idsE l) (hc : checkC h.cu = 0) (hg : goodG (gapsE l)) : goodG (gapsE (hear1 l h).1) := by
  by_cases hk1 : h.cu.ki = 1
  · rw [(hear_out (l := l) hk1).2.1]
    unfold outG
    generalize wholeZ h.at_ h.cu.ti h.cu.no = tm
    cases hb : (canE l h.cu.ev || blk (gapsE l) h.cu.ev tm)
    · rw [if_neg (by simp)]
      rw [Bool.or_eq_false_iff] at hb
      have hb2 := hb.2
      unfold blk at hb2
      rw [List.any_eq_false] at hb2
      refine ⟨?_, fun x hx => ?_⟩
      · rw [List.pairwise_append]
        refine ⟨hg.1, by simp, fun a ha b hb' => ?_⟩
        simp at hb'
        subst hb'
        have h1 := hb2 a ha
        simp only [Bool.or_eq_true, Bool.and_eq_true, beq_iff_eq, decide_eq_true_eq, Bool.not_eq_true'] at h1
        have hop : a.op = false := by
          cases ho : a.op
          · rfl
          · exfalso
            by_cases hb : a.be ≤ tm
            · exact h1 (.inl (.inl (.inr ⟨ho, hb⟩)))
            · exact h1 (.inl (.inr (by omega)))
        refine ⟨hop, ?_⟩
        by_cases he : a.en ≤ tm
        · exact he
        · exact absurd (.inr ⟨hop, by omega⟩) h1
      · rcases List.mem_append.1 hx with hx | hx
        · exact hg.2 x hx
        · simp at hx
          subst hx
          obtain ⟨_, _, ⟨_, _, h3⟩, h4⟩ := checkC_zero hc
          cases hau : h.cu.au
          · exact .inl (by simp)
          · right
            rw [hau] at h4
            simp at h4
            show tm < tm + h.cu.le
            omega
    · rw [if_pos rfl]; exact hg
  rcases fidxV_cases (gapsE l) h.cu.ev with ⟨_, e2⟩ | ⟨j, g, hj, hgi, _, e2⟩
  · rw [(hear_none (h := h) hd hk1 e2).2.1]; exact hg
  · by_cases hk2 : h.cu.ki = 2
    · obtain ⟨r1, r2⟩ := hear_end hd hk2 e2 hj hgi
      by_cases hq : g.op = false ∧ g.en ≤ wholeZ h.at_ h.cu.ti h.cu.no
      · rw [r1 hq]; exact hg
      · obtain ⟨_, r3, r4⟩ := r2 hq
        by_cases hb : g.be < wholeZ h.at_ h.cu.ti h.cu.no
        · rw [(r3 hb).1]; exact hg.set hj hb hq
        · rw [(r4 (by omega)).1]; exact hg.sub (List.eraseIdx_sublist _ _)
    by_cases hk3 : h.cu.ki = 3
    · obtain ⟨r1, r2⟩ := hear_cancel (h := h) hd hk3 e2 hj hgi
      by_cases hb : g.be ≤ h.at_
      · rw [r1 hb]; exact hg
      · rw [(r2 hb).2.1]; exact hg.sub (List.eraseIdx_sublist _ _)
    · rw [hear_other hk1 hk2 hk3]; exact hg
theorem err_check {l : List Hrd} {j : Nat} {h : Hrd} (hj : l[j]? = some h) (he : errH l j = 0) : checkC h.cu = 0 := by
  obtain ⟨_, h2⟩ := err_ok hj he
  rw [errH_at hj] at he
  unfold errOf at he
  split at he
  · cases he
  · rw [if_neg (by rw [h2]; decide)] at he; exact he
theorem stE_good {l : List Hrd} : ∀ {k : Nat}, (∀ j, j < k → errH l j = 0) → goodG (gapsE (stE l k))
  | 0, _ => ⟨List.Pairwise.nil, fun g hg => by simp [stE, gapsE] at hg⟩
  | k + 1, hz => by
    have ih := stE_good (l := l) (k := k) (fun j hj => hz j (by omega))
    cases hk : l[k]? with
    | none => rw [stE, hk]; exact ih
    | some h =>
      rw [stE_at hk]
      exact hear_good (stE_ids l k) (err_check hk (hz k (by omega))) ih
theorem checkB_good {G : List Evn} (hg : goodG G) (hi : idsE G) (hok : ∀ g, g ∈ G → okE g) (hb : ∀ g, g ∈ G → badG g = false) (hl : ¬ 200 < G.length) : checkB (G.map toB) = 0 := by
  unfold checkB
  rw [List.length_map, if_neg hl]
  apply FF_zero
  intro i hi'
  obtain ⟨g, hgi⟩ : ∃ g, G[i]? = some g := ⟨G[i], by simp [hi']⟩
  have hm := List.mem_of_getElem? hgi
  have hx : (G.map toB).getD i default = toB g := by rw [List.getD_eq_getElem?_getD, List.getElem?_map, hgi]; rfl
  have hbg := hb g hm
  have hkg := hok g hm
  unfold badG at hbg
  rw [Bool.or_eq_false_iff] at hbg
  obtain ⟨hb1, hb2⟩ := hbg
  have hb1' := outB_no hb1
  have htw : ((G.map toB).take i).any (fun o => o.ev == (toB g).ev) = false := by
    rw [← List.map_take, List.any_map, List.any_eq_false]
    intro a ha
    obtain ⟨k, hk, hka⟩ := List.mem_iff_getElem.1 ha
    rw [List.length_take] at hk
    have hkl : k < G.length := by omega
    have h1 := (List.pairwise_iff_getElem.1 hi) k i hkl hi' (by omega)
    rw [List.getElem_take] at hka
    have h2 : G[i] = g := (List.getElem?_eq_some_iff.1 hgi).2
    rw [hka, h2] at h1
    simpa [toB] using h1
  unfold cbAt
  rw [hx, htw]
  unfold cbOf
  have hen : (toB g).en = if g.op = true then -1 else g.en := rfl
  have hbe : (toB g).be = g.be := rfl
  have hev : (toB g).ev = g.id := rfl
  have h1 : (outB (toB g).ev 0 4294967295 || outB (toB g).be 0 1000000000000000 || outB (toB g).en (-1) 1000000000000000) = false := by
    rw [hen, hbe, hev]
    have e1 : outB g.id 0 4294967295 = false := by have := hkg.1; simp [outB]; omega
    rw [e1, hb1]
    cases ho : g.op
    · rw [ho] at hb2
      have := outB_no (show outB g.en 0 1000000000000000 = false by simpa using hb2)
      simp [outB]; omega
    · simp [outB]
  rw [h1, if_neg (by simp)]
  have hp := hg.2 g hm
  have h2 : ¬ ((toB g).en ≠ -1 ∧ (toB g).en ≤ (toB g).be) := by
    rw [hen, hbe]
    rcases hp with hp | hp
    · rw [hp]; simp
    · cases ho : g.op
      · simp; omega
      · simp
  rw [if_neg h2]
  by_cases h0 : 0 < i
  · obtain ⟨p, hpi⟩ : ∃ p, G[i - 1]? = some p := ⟨G[i - 1]'(by omega), by simp [show i - 1 < G.length by omega]⟩
    have hpx : (G.map toB).getD (i - 1) default = toB p := by rw [List.getD_eq_getElem?_getD, List.getElem?_map, hpi]; rfl
    have hr := (List.pairwise_iff_getElem.1 hg.1) (i - 1) i (by omega) hi' (by omega)
    rw [(List.getElem?_eq_some_iff.1 hgi).2, (List.getElem?_eq_some_iff.1 hpi).2] at hr
    obtain ⟨r1, r2⟩ := hr
    have hbp := hb p (List.mem_of_getElem? hpi)
    unfold badG at hbp
    rw [Bool.or_eq_false_iff, r1] at hbp
    have hpe := outB_no (show outB p.en 0 1000000000000000 = false by simpa using hbp.2)
    have hpen : (toB p).en = p.en := by show (if p.op = true then -1 else p.en) = _; rw [r1]; rfl
    rw [hpx, if_neg (by rw [hpen]; omega), if_neg (by rw [hpen, hbe]; omega)]
    simp
  · rw [if_neg (by omega), if_neg (by omega)]
    simp

theorem find_mapId {E : List Evn} {ev : Int} {f : Evn → Evn} (hf : ∀ e, (f e).id = e.id) : findE (mapId E ev f) ev = (findE E ev).map f := by
  unfold findE mapId
  induction E with
  | nil => rfl
  | cons x r ih =>
    rw [List.map_cons, List.find?_cons, List.find?_cons, ih]
    by_cases hx : x.id = ev
    · rw [if_pos hx]
      have h1 : ((f x).id == ev) = true := by rw [hf]; simpa using hx
      have h2 : (x.id == ev) = true := by simpa using hx
      rw [h1, h2]; rfl
    · rw [if_neg hx]
      have h2 : (x.id == ev) = false := by simpa using hx
      rw [h2]
theorem find_snoc {E : List Evn} {ev : Int} {c : Evn} (h : findE E ev = none) (hc : c.id = ev) : findE (E ++ [c]) ev = some c := by
  unfold findE at *
  rw [List.find?_append, h]
  simp [hc]
/-- A cue that comes twice does nothing the second time. -/
theorem hear_twice (E : List Evn) (h : Hrd) : hear1 (hear1 E h).1 h = ((hear1 E h).1, false) := by
  unfold hear1
  generalize wholeZ h.at_ h.cu.ti h.cu.no = tm
  generalize h.cu.ev = ev
  by_cases k1 : h.cu.ki = 1
  · simp only [hearE, if_pos k1]
    by_cases hc : (E.any (fun e => e.id == ev) || !freeE E tm) = true
    · rw [if_pos hc]
      simp only
      rw [if_pos hc]
    · rw [if_neg hc]
      simp only
      rw [if_pos (by simp)]
  · by_cases k2 : h.cu.ki = 2
    · simp only [hearE, if_neg k1, if_pos k2]
      cases hf : findE E ev with
      | none => simp only [hf]
      | some e =>
        simp only
        by_cases hc : (e.ca || (!e.op && decide (e.en ≤ tm))) = true
        · rw [if_pos hc]
          simp only [hf]
          rw [if_pos hc]
        · rw [if_neg hc]
          simp only
          rw [find_mapId (f := fun e => { e with en := tm, op := false, ca := decide (tm ≤ e.be) }) (fun e => rfl), hf]
          simp only [Option.map_some]
          rw [if_pos (by simp)]
    · by_cases k3 : h.cu.ki = 3
      · simp only [hearE, if_neg k1, if_neg k2, if_pos k3]
        cases hf : findE E ev with
        | none =>
          simp only
          rw [find_snoc hf rfl]
          simp
        | some e =>
          simp only
          by_cases hc : (e.ca || decide (e.be ≤ h.at_)) = true
          · rw [if_pos hc]
            simp only [hf]
            rw [if_pos hc]
          · rw [if_neg hc]
            simp only
            rw [find_mapId (f := fun e => { e with ca := true }) (fun e => rfl), hf]
            simp
      · simp only [hearE, if_neg k1, if_neg k2, if_neg k3]

theorem brk_zero {l : List Hrd} (h : brkF l = 0) : (∀ j, j < l.length → errH l j = 0) ∧ (∀ g, g ∈ gapsE (stE l l.length) → badG g = false) ∧ ¬ 200 < (gapsE (stE l l.length)).length := by
  unfold brkF at h
  split at h
  · cases h
  · split at h
    · rename_i h1; exact absurd h h1
    · rename_i h1
      split at h
      · cases h
      · rename_i h2
        split at h
        · cases h
        · rename_i h3
          refine ⟨FF_eq_zero (by simpa using h1), fun g hg => ?_, h3⟩
          have h4 : (gapsE (stE l l.length)).any badG = false := by simpa using h2
          rw [List.any_eq_false] at h4
          simpa using h4 g hg
/-- What Breaks returns is right. -/
theorem brk_right {l : List Hrd} (h : brkF l = 0) : checkB (brkL l) = 0 := by
  obtain ⟨hz, hb, hm⟩ := brk_zero h
  have e : brkL l = (gapsE (stE l l.length)).map toB := by unfold brkL; rw [if_pos h]
  rw [e]
  exact checkB_good (stE_good hz) (stE_ids l _).gaps (fun g hg => stE_ok hz g (List.mem_filter.1 hg).1) hb hm
theorem stE_no {l : List Hrd} {k : Nat} (hk : l[k]? = none) : stE l (k + 1) = stE l k := by rw [stE, hk]
theorem idE_no {l : List Hrd} {k : Nat} (hk : l[k]? = none) : idE l (k + 1) = idE l k := by rw [idE, hk]
theorem ord_congr {l m : List Hrd} {j k : Nat} (h : l[j - 1]? = m[k - 1]?) (hd : decide (0 < j) = decide (0 < k)) (x : Hrd) : errOf l j x = errOf m k x := by
  have e : ordH l j x = ordH m k x := by unfold ordH; rw [h, hd]
  unfold errOf
  rw [e]
/-- A cue once more, behind itself. -/
def dupL (l : List Hrd) (a : Nat) (h : Hrd) : List Hrd := l.take (a + 1) ++ h :: l.drop (a + 1)
section
variable {l : List Hrd} {a : Nat} {h : Hrd}
theorem dup_len (ha : a < l.length) : (dupL l a h).length = l.length + 1 := by unfold dupL; simp; omega
theorem dup_lo (ha : a < l.length) {k : Nat} (hk : k ≤ a) : (dupL l a h)[k]? = l[k]? := by
  unfold dupL
  rw [List.getElem?_append_left (by simp; omega), List.getElem?_take, if_pos (by omega)]
theorem dup_at (ha : a < l.length) : (dupL l a h)[a + 1]? = some h := by
  unfold dupL
  rw [List.getElem?_append_right (by simp; omega)]
  simp
  have : a + 1 - min (a + 1) l.length = 0 := by omega
  rw [this]; rfl
theorem dup_hi (ha : a < l.length) {k : Nat} (hk : a + 1 ≤ k) : (dupL l a h)[k + 1]? = l[k]? := by
  unfold dupL
  rw [List.getElem?_append_right (by simp; omega)]
  have : k + 1 - (l.take (a + 1)).length = (k - (a + 1)) + 1 := by simp; omega
  rw [this, List.getElem?_cons_succ, List.getElem?_drop]
  congr 1; omega
theorem dup_err (hh : l[a]? = some h) (hz : ∀ j, j < l.length → errH l j = 0) : ∀ j, j < (dupL l a h).length → errH (dupL l a h) j = 0 := by
  have ha : a < l.length := (List.getElem?_eq_some_iff.1 hh).1
  intro j hj
  rw [dup_len ha] at hj
  rcases Nat.lt_trichotomy j (a + 1) with hlt | heq | hgt
  · have e : errH (dupL l a h) j = errH l j := by
      unfold errH
      rw [dup_lo ha (by omega)]
      cases hx : l[j]? with
      | none => rfl
      | some x => exact ord_congr (dup_lo ha (show j - 1 ≤ a by omega)) rfl x
    rw [e]; exact hz j (by omega)
  · subst heq
    rw [errH_at (dup_at ha)]
    have h0 := hz a ha
    have h1 := err_check hh h0
    obtain ⟨h2, _⟩ := err_ok hh h0
    unfold errOf
    rw [if_neg (by simp [outB]; exact h2.1), if_neg, h1]
    unfold ordH
    rw [show a + 1 - 1 = a from rfl, dup_lo ha (Nat.le_refl a), hh]
    simp
  · obtain ⟨k, rfl⟩ : ∃ k, j = k + 1 := ⟨j - 1, by omega⟩
    have e : errH (dupL l a h) (k + 1) = errH l k := by
      unfold errH
      rw [dup_hi ha (by omega)]
      cases hx : l[k]? with
      | none => rfl
      | some x =>
        refine ord_congr ?_ (by simp; omega) x
        rw [show k + 1 - 1 = k from rfl]
        by_cases e3 : k = a + 1
        · subst e3
          rw [dup_at ha, show a + 1 - 1 = a from rfl, hh]
        · obtain ⟨q, rfl⟩ : ∃ q, k = q + 1 := ⟨k - 1, by omega⟩
          rw [dup_hi ha (by omega)]; rfl
    rw [e]; exact hz k (by omega)
theorem dup_stE_lo (ha : a < l.length) : ∀ {k : Nat}, k ≤ a + 1 → stE (dupL l a h) k = stE l k ∧ idE (dupL l a h) k = idE l k
  | 0, _ => ⟨rfl, rfl⟩
  | k + 1, hk => by
    obtain ⟨i1, i2⟩ := dup_stE_lo ha (k := k) (by omega)
    have e := dup_lo (h := h) ha (k := k) (by omega)
    constructor
    · rw [stE, stE, e, i1]
    · rw [idE, idE, e, i1, i2]
theorem dup_stE_hi (hh : l[a]? = some h) : ∀ (d : Nat), stE (dupL l a h) (a + 1 + d + 1) = stE l (a + 1 + d) ∧ (idE (dupL l a h) (a + 1 + d + 1)).length = (idE l (a + 1 + d)).length + 1 ∧ ((a : Int) + 1) ∈ idE (dupL l a h) (a + 1 + d + 1)
  | 0 => by
    have ha : a < l.length := (List.getElem?_eq_some_iff.1 hh).1
    obtain ⟨i1, i2⟩ := dup_stE_lo (h := h) ha (Nat.le_refl (a + 1))
    have e : stE l (a + 1) = (hear1 (stE l a) h).1 := stE_at hh
    have ht := hear_twice (stE l a) h
    rw [← e] at ht
    refine ⟨?_, ?_, ?_⟩
    · rw [Nat.add_zero, stE_at (dup_at ha), i1, ht]
    · rw [Nat.add_zero, idE_at (dup_at ha), i1, ht, i2]; simp
    · rw [Nat.add_zero, idE_at (dup_at ha), i1, ht]; simp
  | d + 1 => by
    have ha : a < l.length := (List.getElem?_eq_some_iff.1 hh).1
    obtain ⟨i1, i2, i3⟩ := dup_stE_hi hh d
    have e := dup_hi (h := h) ha (k := a + 1 + d) (by omega)
    have e2 : a + 1 + (d + 1) = (a + 1 + d) + 1 := by omega
    rw [e2]
    cases hx : l[a + 1 + d]? with
    | none =>
      refine ⟨?_, ?_, ?_⟩
      · rw [stE_no (e.trans hx), stE_no hx]; exact i1
      · rw [idE_no (e.trans hx), idE_no hx]; exact i2
      · rw [idE_no (e.trans hx)]; exact i3
    | some x =>
      rw [hx] at e
      refine ⟨?_, ?_, ?_⟩
      · rw [stE_at e, stE_at hx, i1]
      · rw [idE_at e, idE_at hx, i1]
        split
        · exact i2
        · simp [i2]
      · rw [idE_at e]
        split
        · exact i3
        · exact List.mem_append_left _ i3
/-- With a cue once more the breaks are the same. -/
theorem dup_brk (hh : l[a]? = some h) (hl : l.length < 500) (hF : brkF l = 0) : brkF (dupL l a h) = 0 ∧ brkL (dupL l a h) = brkL l ∧ (brkI (dupL l a h)).length = (brkI l).length + 1 ∧ ((a : Int) + 1) ∈ brkI (dupL l a h) := by
  have ha : a < l.length := (List.getElem?_eq_some_iff.1 hh).1
  obtain ⟨hz, hb, hm⟩ := brk_zero hF
  have hlen := dup_len (h := h) ha
  obtain ⟨s1, s2, s3⟩ := dup_stE_hi hh (l.length - (a + 1))
  have e : a + 1 + (l.length - (a + 1)) = l.length := by omega
  rw [e] at s1 s2 s3
  obtain ⟨t1, t2, t3⟩ := brk_ok (l := l) (by omega) hz hb hm
  obtain ⟨u1, u2, u3⟩ := brk_ok (l := dupL l a h) (by rw [hlen]; omega) (dup_err hh hz) (by rw [hlen, s1]; exact hb) (by rw [hlen, s1]; exact hm)
  refine ⟨u1, ?_, ?_, ?_⟩
  · rw [u2, t2, hlen, s1]
  · rw [u3, t3, hlen, s2]
  · rw [u3, hlen]; exact s3
end
end Go.Proofs.Ytaknkldbdijkeaa

/- Breaks have no tick in common, and a cue that comes twice does nothing the second time: plain. -/
import Derived.Test.YtpdeodoidlcdoaaG08
import Derived.Test.YtpdeodoidlcdoaaG05
import Derived.Test.YtpdeodoidlcdoaaG01
namespace Go.Proofs.Ytpdeodoidlcdoaa
open Go.RowKit

def RG (a b : Evn) : Prop := a.op = false ∧ a.en ≤ b.be
def PG (g : Evn) : Prop := g.op = true ∨ g.be < g.en
def goodG (G : List Evn) : Prop := G.Pairwise RG ∧ ∀ g, g ∈ G → PG g
theorem goodG.sub {G H : List Evn} (h : goodG G) (hs : H.Sublist G) : goodG H := ⟨h.1.sublist hs, fun g hg => h.2 g (hs.subset hg)⟩
theorem goodG.set {G : List Evn} (h : goodG G) {j : Nat} {g : Evn} {tm : Int} (hj : G[j]? = some g) (hb : g.be < tm) (hn : ¬ (g.op = false ∧ g.en ≤ tm)) : goodG (G.set j { g with en := tm, op := false }) := by
  obtain ⟨h1, h2⟩ := h
  obtain ⟨hjl, hjg⟩ := List.getElem?_eq_some_iff.1 hj
  refine ⟨?_, fun x hx => ?_⟩
  · rw [List.pairwise_iff_getElem] at h1 ⊢
    intro i k hi hk hik
    rw [List.length_set] at hi hk
    have hr := h1 i k hi hk hik
    rw [List.getElem_set, List.getElem_set]
    by_cases e1 : j = i
    · subst e1
      rw [if_pos rfl, if_neg (by omega)]
      rw [hjg] at hr
      obtain ⟨r1, r2⟩ := hr
      refine ⟨rfl, ?_⟩
      have : ¬ g.en ≤ tm := fun h => hn ⟨r1, h⟩
      show tm ≤ _
      omega
    · rw [if_neg e1]
      by_cases e2 : j = k
      · subst e2
        rw [if_pos rfl]
        rw [hjg] at hr
        exact hr
      · rw [if_neg e2]; exact hr
  · rcases List.mem_or_eq_of_mem_set hx with hx | hx
    · exact h2 x hx
    · subst hx; exact .inr hb
theorem hear_good {l : List Evn} {h : Hrd} (hd : idsE l) (hc : checkC h.cu = 0) (hg : goodG (gapsE l)) : goodG (gapsE (hear1 l h).1) := by
  by_cases hk1 : h.cu.ki = 1
  · rw [(hear_out (l := l) hk1).2.1]
    unfold outG
    generalize wholeZ h.at_ h.cu.ti h.cu.no = tm
    cases hb : (canE l h.cu.ev || blk (gapsE l) h.cu.ev tm)
    · rw [if_neg (by simp)]
      rw [Bool.or_eq_false_iff] at hb
      have hb2 := hb.2
      unfold blk at hb2
      rw [List.any_eq_false] at hb2
      refine ⟨?_, fun x hx => ?_⟩
      · rw [List.pairwise_append]
        refine ⟨hg.1, by simp, fun a ha b hb' => ?_⟩
        simp at hb'
        subst hb'
        have h1 := hb2 a ha
        simp only [Bool.or_eq_true, Bool.and_eq_true, beq_iff_eq, decide_eq_true_eq, Bool.not_eq_true'] at h1
        have hop : a.op = false := by
          cases ho : a.op
          · rfl
          · exfalso
            by_cases hb : a.be ≤ tm
            · exact h1 (.inl (.inl (.inr ⟨ho, hb⟩)))
            · exact h1 (.inl (.inr (by omega)))
        refine ⟨hop, ?_⟩
        by_cases he : a.en ≤ tm
        · exact he
        · exact absurd (.inr ⟨hop, by omega⟩) h1
      · rcases List.mem_append.1 hx with hx | hx
        · exact hg.2 x hx
        · simp at hx
          subst hx
          obtain ⟨_, _, ⟨_, _, h3⟩, h4⟩ := checkC_zero hc
          cases hau : h.cu.au
          · exact .inl (by simp)
          · right
            rw [hau] at h4
            simp at h4
            show tm < tm + h.cu.le
            omega
    · rw [if_pos rfl]; exact hg
  rcases fidxV_cases (gapsE l) h.cu.ev with ⟨_, e2⟩ | ⟨j, g, hj, hgi, _, e2⟩
  · rw [(hear_none (h := h) hd hk1 e2).2.1]; exact hg
  · by_cases hk2 : h.cu.ki = 2
    · obtain ⟨r1, r2⟩ := hear_end hd hk2 e2 hj hgi
      by_cases hq : g.op = false ∧ g.en ≤ wholeZ h.at_ h.cu.ti h.cu.no
      · rw [r1 hq]; exact hg
      · obtain ⟨_, r3, r4⟩ := r2 hq
        by_cases hb : g.be < wholeZ h.at_ h.cu.ti h.cu.no
        · rw [(r3 hb).1]; exact hg.set hj hb hq
        · rw [(r4 (by omega)).1]; exact hg.sub (List.eraseIdx_sublist _ _)
    by_cases hk3 : h.cu.ki = 3
    · obtain ⟨r1, r2⟩ := hear_cancel (h := h) hd hk3 e2 hj hgi
      by_cases hb : g.be ≤ h.at_
      · rw [r1 hb]; exact hg
      · rw [(r2 hb).2.1]; exact hg.sub (List.eraseIdx_sublist _ _)
    · rw [hear_other hk1 hk2 hk3]; exact hg
theorem err_check {l : List Hrd} {j : Nat} {h : Hrd} (hj : l[j]? = some h) (he : errH l j = 0) : checkC h.cu = 0 := by
  obtain ⟨_, h2⟩ := err_ok hj he
  rw [errH_at hj] at he
  unfold errOf at he
  split at he
  · cases he
  · rw [if_neg (by rw [h2]; decide)] at he; exact he
theorem stE_good {l : List Hrd} : ∀ {k : Nat}, (∀ j, j < k → errH l j = 0) → goodG (gapsE (stE l k))
  | 0, _ => ⟨List.Pairwise.nil, fun g hg => by simp [stE, gapsE] at hg⟩
  | k + 1, hz => by
    have ih := stE_good (l := l) (k := k) (fun j hj => hz j (by omega))
    cases hk : l[k]? with
    | none => rw [stE, hk]; exact ih
    | some h =>
      rw [stE_at hk]
      exact hear_good (stE_ids l k) (err_check hk (hz k (by omega))) ih
theorem checkB_good {G : List Evn} (hg : goodG G) (hi : idsE G) (hok : ∀ g, g ∈ G → okE g) (hb : ∀ g, g ∈ G → badG g = false) (hl : ¬ 200 < G.length) : checkB (G.map toB) = 0 := by
  unfold checkB
  rw [List.length_map, if_neg hl]
  apply FF_zero
  intro i hi'
  obtain ⟨g, hgi⟩ : ∃ g, G[i]? = some g := ⟨G[i], by simp [hi']⟩
  have hm := List.mem_of_getElem? hgi
  have hx : (G.map toB).getD i default = toB g := by rw [List.getD_eq_getElem?_getD, List.getElem?_map, hgi]; rfl
  have hbg := hb g hm
  have hkg := hok g hm
  unfold badG at hbg
  rw [Bool.or_eq_false_iff] at hbg
  obtain ⟨hb1, hb2⟩ := hbg
  have hb1' := outB_no hb1
  have htw : ((G.map toB).take i).any (fun o => o.ev == (toB g).ev) = false := by
    rw [← List.map_take, List.any_map, List.any_eq_false]
    intro a ha
    obtain ⟨k, hk, hka⟩ := List.mem_iff_getElem.1 ha
    rw [List.length_take] at hk
    have hkl : k < G.length := by omega
    have h1 := (List.pairwise_iff_getElem.1 hi) k i hkl hi' (by omega)
    rw [List.getElem_take] at hka
    have h2 : G[i] = g := (List.getElem?_eq_some_iff.1 hgi).2
    rw [hka, h2] at h1
    simpa [toB] using h1
  unfold cbAt
  rw [hx, htw]
  unfold cbOf
  have hen : (toB g).en = if g.op = true then -1 else g.en := rfl
  have hbe : (toB g).be = g.be := rfl
  have hev : (toB g).ev = g.id := rfl
  have h1 : (outB (toB g).ev 0 4294967295 || outB (toB g).be 0 1000000000000000 || outB (toB g).en (-1) 1000000000000000) = false := by
    rw [hen, hbe, hev]
    have e1 : outB g.id 0 4294967295 = false := by have := hkg.1; simp [outB]; omega
    rw [e1, hb1]
    cases ho : g.op
    · rw [ho] at hb2
      have := outB_no (show outB g.en 0 1000000000000000 = false by simpa using hb2)
      simp [outB]; omega
    · simp [outB]
  rw [h1, if_neg (by simp)]
  have hp := hg.2 g hm
  have h2 : ¬ ((toB g).en ≠ -1 ∧ (toB g).en ≤ (toB g).be) := by
    rw [hen, hbe]
    rcases hp with hp | hp
    · rw [hp]; simp
    · cases ho : g.op
      · simp; omega
      · simp
  rw [if_neg h2]
  by_cases h0 : 0 < i
  · obtain ⟨p, hpi⟩ : ∃ p, G[i - 1]? = some p := ⟨G[i - 1]'(by omega), by simp [show i - 1 < G.length by omega]⟩
    have hpx : (G.map toB).getD (i - 1) default = toB p := by rw [List.getD_eq_getElem?_getD, List.getElem?_map, hpi]; rfl
    have hr := (List.pairwise_iff_getElem.1 hg.1) (i - 1) i (by omega) hi' (by omega)
    rw [(List.getElem?_eq_some_iff.1 hgi).2, (List.getElem?_eq_some_iff.1 hpi).2] at hr
    obtain ⟨r1, r2⟩ := hr
    have hbp := hb p (List.mem_of_getElem? hpi)
    unfold badG at hbp
    rw [Bool.or_eq_false_iff, r1] at hbp
    have hpe := outB_no (show outB p.en 0 1000000000000000 = false by simpa using hbp.2)
    have hpen : (toB p).en = p.en := by show (if p.op = true then -1 else p.en) = _; rw [r1]; rfl
    rw [hpx, if_neg (by rw [hpen]; omega), if_neg (by rw [hpen, hbe]; omega)]
    simp
  · rw [if_neg (by omega), if_neg (by omega)]
    simp

theorem find_mapId {E : List Evn} {ev : Int} {f : Evn → Evn} (hf : ∀ e, (f e).id = e.id) : findE (mapId E ev f) ev = (findE E ev).map f := by
  unfold findE mapId
  induction E with
  | nil => rfl
  | cons x r ih =>
    rw [List.map_cons, List.find?_cons, List.find?_cons, ih]
    by_cases hx : x.id = ev
    · rw [if_pos hx]
      have h1 : ((f x).id == ev) = true := by rw [hf]; simpa using hx
      have h2 : (x.id == ev) = true := by simpa using hx
      rw [h1, h2]; rfl
    · rw [if_neg hx]
      have h2 : (x.id == ev) = false := by simpa using hx
      rw [h2]
theorem find_snoc {E : List Evn} {ev : Int} {c : Evn} (h : findE E ev = none) (hc : c.id = ev) : findE (E ++ [c]) ev = some c := by
  unfold findE at *
  rw [List.find?_append, h]
  simp [hc]
/-- A cue that comes twice does nothing the second time. -/
theorem hear_twice (E : List Evn) (h : Hrd) : hear1 (hear1 E h).1 h = ((hear1 E h).1, false) := by
  unfold hear1
  generalize wholeZ h.at_ h.cu.ti h.cu.no = tm
  generalize h.cu.ev = ev
  by_cases k1 : h.cu.ki = 1
  · simp only [hearE, if_pos k1]
    by_cases hc : (E.any (fun e => e.id == ev) || !freeE E tm) = true
    · rw [if_pos hc]
      simp only
      rw [if_pos hc]
    · rw [if_neg hc]
      simp only
      rw [if_pos (by simp)]
  · by_cases k2 : h.cu.ki = 2
    · simp only [hearE, if_neg k1, if_pos k2]
      cases hf : findE E ev with
      | none => simp only [hf]
      | some e =>
        simp only
        by_cases hc : (e.ca || (!e.op && decide (e.en ≤ tm))) = true
        · rw [if_pos hc]
          simp only [hf]
          rw [if_pos hc]
        · rw [if_neg hc]
          simp only
          rw [find_mapId (f := fun e => { e with en := tm, op := false, ca := decide (tm ≤ e.be) }) (fun e => rfl), hf]
          simp only [Option.map_some]
          rw [if_pos (by simp)]
    · by_cases k3 : h.cu.ki = 3
      · simp only [hearE, if_neg k1, if_neg k2, if_pos k3]
        cases hf : findE E ev with
        | none =>
          simp only
          rw [find_snoc hf rfl]
          simp
        | some e =>
          simp only
          by_cases hc : (e.ca || decide (e.be ≤ h.at_)) = true
          · rw [if_pos hc]
            simp only [hf]
            rw [if_pos hc]
          · rw [if_neg hc]
            simp only
            rw [find_mapId (f := fun e => { e with ca := true }) (fun e => rfl), hf]
            simp
      · simp only [hearE, if_neg k1, if_neg k2, if_neg k3]

theorem brk_zero {l : List Hrd} (h : brkF l = 0) : (∀ j, j < l.length → errH l j = 0) ∧ (∀ g, g ∈ gapsE (stE l l.length) → badG g = false) ∧ ¬ 200 < (gapsE (stE l l.length)).length := by
  unfold brkF at h
  split at h
  · cases h
  · split at h
    · rename_i h1; exact absurd h h1
    · rename_i h1
      split at h
      · cases h
      · rename_i h2
        split at h
        · cases h
        · rename_i h3
          refine ⟨FF_eq_zero (by simpa using h1), fun g hg => ?_, h3⟩
          have h4 : (gapsE (stE l l.length)).any badG = false := by simpa using h2
          rw [List.any_eq_false] at h4
          simpa using h4 g hg
/-- What Breaks returns is right. -/
theorem brk_right {l : List Hrd} (h : brkF l = 0) : checkB (brkL l) = 0 := by
  obtain ⟨hz, hb, hm⟩ := brk_zero h
  have e : brkL l = (gapsE (stE l l.length)).map toB := by unfold brkL; rw [if_pos h]
  rw [e]
  exact checkB_good (stE_good hz) (stE_ids l _).gaps (fun g hg => stE_ok hz g (List.mem_filter.1 hg).1) hb hm
theorem stE_no {l : List Hrd} {k : Nat} (hk : l[k]? = none) : stE l (k + 1) = stE l k := by rw [stE, hk]
theorem idE_no {l : List Hrd} {k : Nat} (hk : l[k]? = none) : idE l (k + 1) = idE l k := by rw [idE, hk]
theorem ord_congr {l m : List Hrd} {j k : Nat} (h : l[j - 1]? = m[k - 1]?) (hd : decide (0 < j) = decide (0 < k)) (x : Hrd) : errOf l j x = errOf m k x := by
  have e : ordH l j x = ordH m k x := by unfold ordH; rw [h, hd]
  unfold errOf
  rw [e]
/-- A cue once more, behind itself. -/
def dupL (l : List Hrd) (a : Nat) (h : Hrd) : List Hrd := l.take (a + 1) ++ h :: l.drop (a + 1)
section
variable {l : List Hrd} {a : Nat} {h : Hrd}
theorem dup_len (ha : a < l.length) : (dupL l a h).length = l.length + 1 := by unfold dupL; simp; omega
theorem dup_lo (ha : a < l.length) {k : Nat} (hk : k ≤ a) : (dupL l a h)[k]? = l[k]? := by
  unfold dupL
  rw [List.getElem?_append_left (by simp; omega), List.getElem?_take, if_pos (by omega)]
theorem dup_at (ha : a < l.length) : (dupL l a h)[a + 1]? = some h := by
  unfold dupL
  rw [List.getElem?_append_right (by simp; omega)]
  simp
  have : a + 1 - min (a + 1) l.length = 0 := by omega
  rw [this]; rfl
theorem dup_hi (ha : a < l.length) {k : Nat} (hk : a + 1 ≤ k) : (dupL l a h)[k + 1]? = l[k]? := by
  unfold dupL
  rw [List.getElem?_append_right (by simp; omega)]
  have : k + 1 - (l.take (a + 1)).length = (k - (a + 1)) + 1 := by simp; omega
  rw [this, List.getElem?_cons_succ, List.getElem?_drop]
  congr 1; omega
theorem dup_err (hh : l[a]? = some h) (hz : ∀ j, j < l.length → errH l j = 0) : ∀ j, j < (dupL l a h).length → errH (dupL l a h) j = 0 := by
  have ha : a < l.length := (List.getElem?_eq_some_iff.1 hh).1
  intro j hj
  rw [dup_len ha] at hj
  rcases Nat.lt_trichotomy j (a + 1) with hlt | heq | hgt
  · have e : errH (dupL l a h) j = errH l j := by
      unfold errH
      rw [dup_lo ha (by omega)]
      cases hx : l[j]? with
      | none => rfl
      | some x => exact ord_congr (dup_lo ha (show j - 1 ≤ a by omega)) rfl x
    rw [e]; exact hz j (by omega)
  · subst heq
    rw [errH_at (dup_at ha)]
    have h0 := hz a ha
    have h1 := err_check hh h0
    obtain ⟨h2, _⟩ := err_ok hh h0
    unfold errOf
    rw [if_neg (by simp [outB]; exact h2.1), if_neg, h1]
    unfold ordH
    rw [show a + 1 - 1 = a from rfl, dup_lo ha (Nat.le_refl a), hh]
    simp
  · obtain ⟨k, rfl⟩ : ∃ k, j = k + 1 := ⟨j - 1, by omega⟩
    have e : errH (dupL l a h) (k + 1) = errH l k := by
      unfold errH
      rw [dup_hi ha (by omega)]
      cases hx : l[k]? with
      | none => rfl
      | some x =>
        refine ord_congr ?_ (by simp; omega) x
        rw [show k + 1 - 1 = k from rfl]
        by_cases e3 : k = a + 1
        · subst e3
          rw [dup_at ha, show a + 1 - 1 = a from rfl, hh]
        · obtain ⟨q, rfl⟩ : ∃ q, k = q + 1 := ⟨k - 1, by omega⟩
          rw [dup_hi ha (by omega)]; rfl
    rw [e]; exact hz k (by omega)
theorem dup_stE_lo (ha : a < l.length) : ∀ {k : Nat}, k ≤ a + 1 → stE (dupL l a h) k = stE l k ∧ idE (dupL l a h) k = idE l k
  | 0, _ => ⟨rfl, rfl⟩
  | k + 1, hk => by
    obtain ⟨i1, i2⟩ := dup_stE_lo ha (k := k) (by omega)
    have e := dup_lo (h := h) ha (k := k) (by omega)
    constructor
    · rw [stE, stE, e, i1]
    · rw [idE, idE, e, i1, i2]
theorem dup_stE_hi (hh : l[a]? = some h) : ∀ (d : Nat), stE (dupL l a h) (a + 1 + d + 1) = stE l (a + 1 + d) ∧ (idE (dupL l a h) (a + 1 + d + 1)).length = (idE l (a + 1 + d)).length + 1 ∧ ((a : Int) + 1) ∈ idE (dupL l a h) (a + 1 + d + 1)
  | 0 => by
    have ha : a < l.length := (List.getElem?_eq_some_iff.1 hh).1
    obtain ⟨i1, i2⟩ := dup_stE_lo (h := h) ha (Nat.le_refl (a + 1))
    have e : stE l (a + 1) = (hear1 (stE l a) h).1 := stE_at hh
    have ht := hear_twice (stE l a) h
    rw [← e] at ht
    refine ⟨?_, ?_, ?_⟩
    · rw [Nat.add_zero, stE_at (dup_at ha), i1, ht]
    · rw [Nat.add_zero, idE_at (dup_at ha), i1, ht, i2]; simp
    · rw [Nat.add_zero, idE_at (dup_at ha), i1, ht]; simp
  | d + 1 => by
    have ha : a < l.length := (List.getElem?_eq_some_iff.1 hh).1
    obtain ⟨i1, i2, i3⟩ := dup_stE_hi hh d
    have e := dup_hi (h := h) ha (k := a + 1 + d) (by omega)
    have e2 : a + 1 + (d + 1) = (a + 1 + d) + 1 := by omega
    rw [e2]
    cases hx : l[a + 1 + d]? with
    | none =>
      refine ⟨?_, ?_, ?_⟩
      · rw [stE_no (e.trans hx), stE_no hx]; exact i1
      · rw [idE_no (e.trans hx), idE_no hx]; exact i2
      · rw [idE_no (e.trans hx)]; exact i3
    | some x =>
      rw [hx] at e
      refine ⟨?_, ?_, ?_⟩
      · rw [stE_at e, stE_at hx, i1]
      · rw [idE_at e, idE_at hx, i1]
        split
        · exact i2
        · simp [i2]
      · rw [idE_at e]
        split
        · exact i3
        · exact List.mem_append_left _ i3
/-- With a cue once more the breaks are the same. -/
theorem dup_brk (hh : l[a]? = some h) (hl : l.length < 500) (hF : brkF l = 0) : brkF (dupL l a h) = 0 ∧ brkL (dupL l a h) = brkL l ∧ (brkI (dupL l a h)).length = (brkI l).length + 1 ∧ ((a : Int) + 1) ∈ brkI (dupL l a h) := by
  have ha : a < l.length := (List.getElem?_eq_some_iff.1 hh).1
  obtain ⟨hz, hb, hm⟩ := brk_zero hF
  have hlen := dup_len (h := h) ha
  obtain ⟨s1, s2, s3⟩ := dup_stE_hi hh (l.length - (a + 1))
  have e : a + 1 + (l.length - (a + 1)) = l.length := by omega
  rw [e] at s1 s2 s3
  obtain ⟨t1, t2, t3⟩ := brk_ok (l := l) (by omega) hz hb hm
  obtain ⟨u1, u2, u3⟩ := brk_ok (l := dupL l a h) (by rw [hlen]; omega) (dup_err hh hz) (by rw [hlen, s1]; exact hb) (by rw [hlen, s1]; exact hm)
  refine ⟨u1, ?_, ?_, ?_⟩
  · rw [u2, t2, hlen, s1]
  · rw [u3, t3, hlen, s2]
  · rw [u3, hlen]; exact s3
end
end Go.Proofs.Ytpdeodoidlcdoaa

/- Lists of bits, and the bytes that hold them; plain. -/
namespace Go.Proofs.Ytpdeodoidlcdoaa
open Go.RowKit

def b01 (b : Bool) : Nat := if b then 1 else 0
theorem b01_lt (b : Bool) : b01 b < 2 := by cases b <;> decide
/-- The byte number i of bits; d: what stands behind the last one. -/
def byD (d : Bool) (L : List Bool) (i : Nat) : Nat :=
  b01 (L.getD (8 * i) d) * 128 + b01 (L.getD (8 * i + 1) d) * 64 + b01 (L.getD (8 * i + 2) d) * 32 + b01 (L.getD (8 * i + 3) d) * 16 + b01 (L.getD (8 * i + 4) d) * 8 + b01 (L.getD (8 * i + 5) d) * 4 + b01 (L.getD (8 * i + 6) d) * 2 + b01 (L.getD (8 * i + 7) d)
theorem byD_lt (d : Bool) (L : List Bool) (i : Nat) : byD d L i < 256 := by
  unfold byD
  have h0 := b01_lt (L.getD (8 * i) d)
  have h1 := b01_lt (L.getD (8 * i + 1) d)
  have h2 := b01_lt (L.getD (8 * i + 2) d)
  have h3 := b01_lt (L.getD (8 * i + 3) d)
  have h4 := b01_lt (L.getD (8 * i + 4) d)
  have h5 := b01_lt (L.getD (8 * i + 5) d)
  have h6 := b01_lt (L.getD (8 * i + 6) d)
  have h7 := b01_lt (L.getD (8 * i + 7) d)
  omega
/-- The bytes of bits. -/
def pkD (d : Bool) (L : List Bool) : List UInt8 := (List.range ((L.length + 7) / 8)).map fun i => UInt8.ofNat (byD d L i)
theorem pkD_len (d : Bool) (L : List Bool) : (pkD d L).length = (L.length + 7) / 8 := by simp [pkD]
theorem pkD_get {d : Bool} {L : List Bool} {i : Nat} (h : i < (L.length + 7) / 8) : (pkD d L)[i]? = some (UInt8.ofNat (byD d L i)) := by
  unfold pkD
  rw [List.getElem?_map, List.getElem?_range h]
  rfl
theorem getD_out {L : List Bool} {d : Bool} {i : Nat} (h : L.length ≤ i) : L.getD i d = d := by
  rw [List.getD_eq_getElem?_getD, List.getElem?_eq_none h]; rfl
theorem getD_app {L : List Bool} {d t : Bool} {i : Nat} (h : i ≠ L.length) : (L ++ [t]).getD i d = L.getD i d := by
  rcases Nat.lt_or_ge i L.length with h1 | h1
  · simp only [List.getD_eq_getElem?_getD, List.getElem?_append_left h1]
  · rw [getD_out h1, getD_out (by simp; omega)]
theorem getD_last {L : List Bool} {d t : Bool} : (L ++ [t]).getD L.length d = t := by
  simp [List.getD_eq_getElem?_getD]
/-- The byte of a bit that is set alone. -/
def onB (t : Bool) (r : Nat) : Nat := b01 t * 2 ^ (7 - r)
theorem or_add {a b k : Nat} (ha : a % 2 ^ k = 0) (hb : b < 2 ^ k) : a ||| b = a + b := by
  have h := Nat.two_pow_add_eq_or_of_lt hb (a / 2 ^ k)
  have e : 2 ^ k * (a / 2 ^ k) = a := by rw [Nat.mul_comm]; exact Nat.div_mul_cancel (Nat.dvd_of_mod_eq_zero ha)
  rw [e] at h
  exact h.symm
theorem byD_other {d t : Bool} {L : List Bool} {i : Nat} (h : i ≠ L.length / 8) : byD d (L ++ [t]) i = byD d L i := by
  unfold byD
  rw [getD_app (by omega), getD_app (by omega), getD_app (by omega), getD_app (by omega), getD_app (by omega), getD_app (by omega), getD_app (by omega), getD_app (by omega)]
theorem byD_last {t : Bool} {L : List Bool} : byD false (L ++ [t]) (L.length / 8) = byD false L (L.length / 8) ||| onB t (L.length % 8) := by
  have hz : ∀ i, L.length ≤ i → b01 (L.getD i false) = 0 := fun i hi => by rw [getD_out hi]; rfl
  have hr : L.length % 8 < 8 := Nat.mod_lt _ (by omega)
  have hl : L.length = 8 * (L.length / 8) + L.length % 8 := by omega
  generalize hq : L.length / 8 = q at *
  generalize hrr : L.length % 8 = r at *
  have hs := fun i (h : i ≠ L.length) => getD_app (L := L) (d := false) (t := t) h
  have ht : (L ++ [t]).getD (8 * q + r) false = t := by rw [← hl]; exact getD_last
  have h0 := b01_lt (L.getD (8 * q) false)
  have h1 := b01_lt (L.getD (8 * q + 1) false)
  have h2 := b01_lt (L.getD (8 * q + 2) false)
  have h3 := b01_lt (L.getD (8 * q + 3) false)
  have h4 := b01_lt (L.getD (8 * q + 4) false)
  have h5 := b01_lt (L.getD (8 * q + 5) false)
  have h6 := b01_lt (L.getD (8 * q + 6) false)
  have hb := b01_lt t
  have hR : r = 0 ∨ r = 1 ∨ r = 2 ∨ r = 3 ∨ r = 4 ∨ r = 5 ∨ r = 6 ∨ r = 7 := by omega
  unfold byD onB
  rcases hR with rfl | rfl | rfl | rfl | rfl | rfl | rfl | rfl
  · rw [hs (8 * q + 1) (by omega), hs (8 * q + 2) (by omega), hs (8 * q + 3) (by omega), hs (8 * q + 4) (by omega), hs (8 * q + 5) (by omega), hs (8 * q + 6) (by omega), hs (8 * q + 7) (by omega), show 8 * q = 8 * q + 0 by omega, ht,
      hz (8 * q + 0) (by omega), hz (8 * q + 0 + 1) (by omega), hz (8 * q + 0 + 2) (by omega), hz (8 * q + 0 + 3) (by omega), hz (8 * q + 0 + 4) (by omega), hz (8 * q + 0 + 5) (by omega), hz (8 * q + 0 + 6) (by omega), hz (8 * q + 0 + 7) (by omega),
      or_add (k := 8) (by omega) (by simp; omega)]
    simp
  · rw [hs (8 * q) (by omega), hs (8 * q + 2) (by omega), hs (8 * q + 3) (by omega), hs (8 * q + 4) (by omega), hs (8 * q + 5) (by omega), hs (8 * q + 6) (by omega), hs (8 * q + 7) (by omega), ht,
      hz (8 * q + 1) (by omega), hz (8 * q + 2) (by omega), hz (8 * q + 3) (by omega), hz (8 * q + 4) (by omega), hz (8 * q + 5) (by omega), hz (8 * q + 6) (by omega), hz (8 * q + 7) (by omega),
      or_add (k := 7) (by omega) (by simp; omega)]
    simp
  · rw [hs (8 * q) (by omega), hs (8 * q + 1) (by omega), hs (8 * q + 3) (by omega), hs (8 * q + 4) (by omega), hs (8 * q + 5) (by omega), hs (8 * q + 6) (by omega), hs (8 * q + 7) (by omega), ht,
      hz (8 * q + 2) (by omega), hz (8 * q + 3) (by omega), hz (8 * q + 4) (by omega), hz (8 * q + 5) (by omega), hz (8 * q + 6) (by omega), hz (8 * q + 7) (by omega),
      or_add (k := 6) (by omega) (by simp; omega)]
    simp
  · rw [hs (8 * q) (by omega), hs (8 * q + 1) (by omega), hs (8 * q + 2) (by omega), hs (8 * q + 4) (by omega), hs (8 * q + 5) (by omega), hs (8 * q + 6) (by omega), hs (8 * q + 7) (by omega), ht,
      hz (8 * q + 3) (by omega), hz (8 * q + 4) (by omega), hz (8 * q + 5) (by omega), hz (8 * q + 6) (by omega), hz (8 * q + 7) (by omega),
      or_add (k := 5) (by omega) (by simp; omega)]
    simp
  · rw [hs (8 * q) (by omega), hs (8 * q + 1) (by omega), hs (8 * q + 2) (by omega), hs (8 * q + 3) (by omega), hs (8 * q + 5) (by omega), hs (8 * q + 6) (by omega), hs (8 * q + 7) (by omega), ht,
      hz (8 * q + 4) (by omega), hz (8 * q + 5) (by omega), hz (8 * q + 6) (by omega), hz (8 * q + 7) (by omega),
      or_add (k := 4) (by omega) (by simp; omega)]
    simp
  · rw [hs (8 * q) (by omega), hs (8 * q + 1) (by omega), hs (8 * q + 2) (by omega), hs (8 * q + 3) (by omega), hs (8 * q + 4) (by omega), hs (8 * q + 6) (by omega), hs (8 * q + 7) (by omega), ht,
      hz (8 * q + 5) (by omega), hz (8 * q + 6) (by omega), hz (8 * q + 7) (by omega),
      or_add (k := 3) (by omega) (by simp; omega)]
    simp
  · rw [hs (8 * q) (by omega), hs (8 * q + 1) (by omega), hs (8 * q + 2) (by omega), hs (8 * q + 3) (by omega), hs (8 * q + 4) (by omega), hs (8 * q + 5) (by omega), hs (8 * q + 7) (by omega), ht,
      hz (8 * q + 6) (by omega), hz (8 * q + 7) (by omega),
      or_add (k := 2) (by omega) (by simp; omega)]
    simp
  · rw [hs (8 * q) (by omega), hs (8 * q + 1) (by omega), hs (8 * q + 2) (by omega), hs (8 * q + 3) (by omega), hs (8 * q + 4) (by omega), hs (8 * q + 5) (by omega), hs (8 * q + 6) (by omega), ht,
      hz (8 * q + 7) (by omega),
      or_add (k := 1) (by omega) (by simp; omega)]
    simp
theorem byD_new {L : List Bool} (h : L.length % 8 = 0) : byD false L (L.length / 8) = 0 := by
  have hz : ∀ i, L.length ≤ i → b01 (L.getD i false) = 0 := fun i hi => by rw [getD_out hi]; rfl
  unfold byD
  rw [hz _ (by omega), hz _ (by omega), hz _ (by omega), hz _ (by omega), hz _ (by omega), hz _ (by omega), hz _ (by omega), hz _ (by omega)]

/-- Before a bit is put: room for it. -/
def roomB (L : List Bool) : List UInt8 := if L.length % 8 = 0 then pkD false L ++ [0] else pkD false L
theorem roomB_get (L : List Bool) : (roomB L)[L.length / 8]? = some (UInt8.ofNat (byD false L (L.length / 8))) ∧ (roomB L).length = L.length / 8 + 1 := by
  unfold roomB
  split
  · rename_i h
    have hl := pkD_len false L
    rw [byD_new h, List.getElem?_append_right (by omega), List.length_append]
    have e : L.length / 8 - (pkD false L).length = 0 := by omega
    rw [e]
    exact ⟨rfl, by simp; omega⟩
  · have hl := pkD_len false L
    exact ⟨pkD_get (by omega), by omega⟩
theorem put_bit (L : List Bool) (t : Bool) : (roomB L).set (L.length / 8) (UInt8.ofNat (byD false L (L.length / 8) ||| onB t (L.length % 8))) = pkD false (L ++ [t]) := by
  have hr := roomB_get L
  apply List.ext_getElem?
  intro i
  have hlen : (L ++ [t]).length = L.length + 1 := by simp
  rcases Nat.lt_trichotomy i (L.length / 8) with h | h | h
  · rw [List.getElem?_set_ne (by omega), pkD_get (by omega), byD_other (by omega)]
    unfold roomB
    split
    · rw [List.getElem?_append_left (by rw [pkD_len]; omega), pkD_get (by omega)]
    · rw [pkD_get (by omega)]
  · subst h
    rw [List.getElem?_set_self (by omega), pkD_get (by omega), byD_last]
  · rw [List.getElem?_eq_none (by rw [List.length_set]; omega), List.getElem?_eq_none (by rw [pkD_len]; omega)]

/-- The last so many bits of a number, the highest first. -/
def bitsN (n : Nat) : Nat → List Bool
  | 0 => []
  | k + 1 => n.testBit k :: bitsN n k
theorem bitsN_len (n : Nat) : ∀ k, (bitsN n k).length = k
  | 0 => rfl
  | k + 1 => by simp [bitsN, bitsN_len n k]
end Go.Proofs.Ytpdeodoidlcdoaa

/- Plain laws of the check sum. -/
namespace Go.Proofs.Ytpdeodoidlcdoaa
open Go.RowKit

theorem xor_top (n : Nat) : n ^^^ (n / 16777216 * 16777216) = n % 16777216 := by
  have h1 : (n ^^^ (n / 16777216 * 16777216)) / 2 ^ 24 = n / 2 ^ 24 ^^^ (n / 16777216 * 16777216) / 2 ^ 24 := Nat.xor_div_two_pow
  have h2 : (n ^^^ (n / 16777216 * 16777216)) % 2 ^ 24 = n % 2 ^ 24 ^^^ (n / 16777216 * 16777216) % 2 ^ 24 := Nat.xor_mod_two_pow
  have e1 : (n / 16777216 * 16777216) / 2 ^ 24 = n / 2 ^ 24 := by
    rw [show (2 : Nat) ^ 24 = 16777216 from rfl]; omega
  have e2 : (n / 16777216 * 16777216) % 2 ^ 24 = 0 := by
    rw [show (2 : Nat) ^ 24 = 16777216 from rfl]; omega
  rw [e1, Nat.xor_self] at h1
  rw [e2, Nat.xor_zero] at h2
  rw [show (2 : Nat) ^ 24 = 16777216 from rfl] at h1 h2
  omega

theorem bitStep_small {n : Nat} (h : n < 2147483648) : bitStep n = n * 2 := by
  unfold bitStep
  rw [if_neg (by omega)]
  omega

theorem iter_small {n : Nat} (h : n < 16777216) : iterN bitStep 8 n = n * 256 := by
  simp only [iterN]
  rw [bitStep_small (n := n) (by omega), bitStep_small (n := n * 2) (by omega), bitStep_small (n := n * 2 * 2) (by omega), bitStep_small (n := n * 2 * 2 * 2) (by omega),
    bitStep_small (n := n * 2 * 2 * 2 * 2) (by omega), bitStep_small (n := n * 2 * 2 * 2 * 2 * 2) (by omega), bitStep_small (n := n * 2 * 2 * 2 * 2 * 2 * 2) (by omega), bitStep_small (n := n * 2 * 2 * 2 * 2 * 2 * 2 * 2) (by omega)]
  omega

theorem byteStep_top (n : Nat) : byteStep n (n / 16777216) = n % 16777216 * 256 := by
  unfold byteStep
  rw [xor_top]
  exact iter_small (by omega)

/-- The four bytes of a sum, the highest first. -/
def sumBytes (n : Nat) : List UInt8 := [UInt8.ofNat (n / 16777216), UInt8.ofNat (n / 65536), UInt8.ofNat (n / 256), UInt8.ofNat n]

theorem crcOf_sumBytes {n : Nat} (h : n < 4294967296) : crcOf n (sumBytes n) = 0 := by
  simp only [crcOf, sumBytes, List.foldl_cons, List.foldl_nil, UInt8.toNat_ofNat']
  have a1 : n / 16777216 % 2 ^ 8 = n / 16777216 := by omega
  rw [a1, byteStep_top]
  have a2 : n / 65536 % 2 ^ 8 = (n % 16777216 * 256) / 16777216 := by omega
  rw [a2, byteStep_top]
  have a3 : n / 256 % 2 ^ 8 = (n % 16777216 * 256 % 16777216 * 256) / 16777216 := by omega
  rw [a3, byteStep_top]
  have a4 : n % 2 ^ 8 = (n % 16777216 * 256 % 16777216 * 256 % 16777216 * 256) / 16777216 := by omega
  rw [a4, byteStep_top]
  omega

theorem crc_lt (l : List UInt8) : crc l < 4294967296 := crcOf_lt l (by omega)

/-- Bytes with their sum behind them have the sum 0. -/
theorem crc_sum (l : List UInt8) : crc (l ++ sumBytes (crc l)) = 0 := by
  unfold crc
  rw [crcOf_append]
  exact crcOf_sumBytes (crcOf_lt l (by omega))
end Go.Proofs.Ytpdeodoidlcdoaa

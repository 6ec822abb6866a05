/- What a cue that does something leaves; plain. -/
import Derived.Test.YtaknkldbdijkeaaBrkS
namespace Go.Proofs.Ytaknkldbdijkeaa
open Go.RowKit

theorem gaps_new (l : List Evn) (e : Evn) (h : e.ca = false) : gapsE (l ++ [e]) = gapsE l ++ [e] := by
  unfold gapsE
  rw [List.filter_append, List.filter_cons, if_pos (by simp [h])]
  rfl
theorem gaps_can (l : List Evn) (e : Evn) (h : e.ca = true) : gapsE (l ++ [e]) = gapsE l := by
  unfold gapsE
  rw [List.filter_append, List.filter_cons, if_neg (by simp [h])]
  simp
theorem can_new (l : List Evn) (e : Evn) (d : Int) : canE (l ++ [e]) d = (canE l d || ((e.id == d) && e.ca)) := by
  unfold canE
  rw [List.any_append]
  simp
theorem ids_new {l : List Evn} {e : Evn} (h : idsE l) (hn : l.any (fun a => a.id == e.id) = false) : idsE (l ++ [e]) := by
  rw [List.any_eq_false] at hn
  unfold idsE
  rw [List.pairwise_append]
  refine ⟨h, by simp, fun a ha b hb => ?_⟩
  simp at hb
  subst hb
  simpa using hn a ha
/-- A break gets its end. -/
theorem gaps_end {l : List Evn} (ev tm : Int) : gapsE (mapId l ev fun e => { e with en := tm, op := false, ca := e.ca }) = mapId (gapsE l) ev fun e => { e with en := tm, op := false, ca := e.ca } := by
  unfold gapsE mapId
  induction l with
  | nil => rfl
  | cons x r ih =>
    rw [List.map_cons, List.filter_cons, List.filter_cons, ih]
    by_cases hx : x.id = ev
    · simp only [if_pos hx]
      by_cases hc : x.ca = true
      · simp [hc]
      · simp [hc, hx]
    · simp only [if_neg hx]
      by_cases hc : x.ca = true
      · simp [hc]
      · simp [hc, hx]
/-- A break that ends before it begins goes. -/
theorem gaps_drop {l : List Evn} (ev : Int) {f : Evn → Evn} (hf : ∀ e, (f e).ca = true) : gapsE (mapId l ev f) = (gapsE l).filter fun a => !(a.id == ev) := by
  unfold gapsE mapId
  induction l with
  | nil => rfl
  | cons x r ih =>
    rw [List.map_cons, List.filter_cons, List.filter_cons, ih]
    by_cases hx : x.id = ev
    · simp only [if_pos hx, hf, Bool.not_true, Bool.false_eq_true, if_false]
      by_cases hc : x.ca = true
      · simp [hc]
      · simp [hc, hx]
    · simp only [if_neg hx]
      by_cases hc : x.ca = true
      · simp [hc]
      · simp [hc, hx]
theorem can_drop {l : List Evn} (ev d : Int) {f : Evn → Evn} (hf : ∀ e, (f e).ca = true ∧ (f e).id = e.id) (h : l.any (fun e => e.id == ev) = true) : canE (mapId l ev f) d = ((d == ev) || canE l d) := by
  unfold canE mapId
  rw [Bool.eq_iff_iff]
  simp only [List.any_eq_true, List.mem_map, Bool.and_eq_true, beq_iff_eq, Bool.or_eq_true]
  constructor
  · rintro ⟨e, ⟨a, ha, rfl⟩, h1, h2⟩
    by_cases hx : a.id = ev
    · rw [if_pos hx, (hf a).2] at h1
      exact .inl (by rw [← h1]; exact hx)
    · rw [if_neg hx] at h1 h2
      exact .inr ⟨a, ha, h1, h2⟩
  · rintro (rfl | ⟨a, ha, h1, h2⟩)
    · obtain ⟨a, ha, hx⟩ := List.any_eq_true.1 h
      have hx' : a.id = d := by simpa using hx
      exact ⟨_, ⟨a, ha, rfl⟩, by rw [if_pos hx', (hf a).2]; exact hx', by rw [if_pos hx']; exact (hf a).1⟩
    · refine ⟨_, ⟨a, ha, rfl⟩, ?_, ?_⟩
      · split
        · rw [(hf a).2]; exact h1
        · exact h1
      · split
        · exact (hf a).1
        · exact h2
theorem can_keep {l : List Evn} (ev d : Int) {f : Evn → Evn} (hf : ∀ e, (f e).ca = e.ca ∧ (f e).id = e.id) : canE (mapId l ev f) d = canE l d := by
  unfold canE mapId
  rw [List.any_map]
  congr 1
  funext a
  simp only [Function.comp]
  split
  · rw [(hf a).1, (hf a).2]
  · rfl
/-- In place of the whole list, one element. -/
theorem mapId_same {l : List Evn} (hd : idsE l) {ev : Int} {e : Evn} (h : findE l ev = some e) {f g : Evn → Evn} (hfg : f e = g e) : mapId l ev f = mapId l ev g := by
  have he : e ∈ l := List.mem_of_find?_eq_some h
  have hi : e.id = ev := by have := List.find?_some h; simpa using this
  unfold mapId
  apply List.map_congr_left
  intro a ha
  by_cases hx : a.id = ev
  · rw [if_pos hx, if_pos hx, hd.one ha he (by rw [hx, hi]), hfg]
  · rw [if_neg hx, if_neg hx]
end Go.Proofs.Ytaknkldbdijkeaa

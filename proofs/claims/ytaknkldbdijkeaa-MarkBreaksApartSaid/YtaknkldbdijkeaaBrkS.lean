/- One cue: what the reference's events do, and what the program's breaks do; plain. -/
import Derived.Test.YtaknkldbdijkeaaBrkL
namespace Go.Proofs.Ytaknkldbdijkeaa
open Go.RowKit

def findE (l : List Evn) (ev : Int) : Option Evn := l.find? fun e => e.id == ev
def freeE (l : List Evn) (tm : Int) : Bool := !(l.any fun e => !e.ca && (decide (tm < e.be) || e.op || decide (tm < e.en)))
/-- A cue, by the reference: its events, and whether it did something. -/
def hearE (l : List Evn) (k ev tm at_ ln : Int) (au : Bool) : List Evn × Bool :=
  if k = 1 then (if l.any (fun e => e.id == ev) || !freeE l tm then (l, false) else (l ++ [⟨ev, tm, tm + ln, !au, false⟩], true))
  else if k = 2 then (match findE l ev with
    | none => (l, false)
    | some e => if e.ca || (!e.op && decide (e.en ≤ tm)) then (l, false) else (mapId l ev (fun e => { e with en := tm, op := false, ca := decide (tm ≤ e.be) }), true))
  else if k = 3 then (match findE l ev with
    | none => (l ++ [⟨ev, 0, 0, false, true⟩], true)
    | some e => if e.ca || decide (e.be ≤ at_) then (l, false) else (mapId l ev (fun e => { e with ca := true }), true))
  else (l, false)

theorem findE_gap {l : List Evn} (hd : idsE l) {ev : Int} {e : Evn} (h : findE l ev = some e) : findE (gapsE l) ev = if e.ca = true then none else some e := by
  have he : e ∈ l := List.mem_of_find?_eq_some h
  have hi : e.id = ev := by have := List.find?_some h; simpa using this
  by_cases hc : e.ca = true
  · rw [if_pos hc]
    unfold findE
    rw [List.find?_eq_none]
    intro a ha hb
    unfold gapsE at ha
    obtain ⟨ha1, ha2⟩ := List.mem_filter.1 ha
    have : a = e := hd.one ha1 he (by rw [hi]; simpa using hb)
    rw [this, hc] at ha2
    simp at ha2
  · rw [if_neg hc]
    have hm : e ∈ gapsE l := List.mem_filter.2 ⟨he, by simpa using hc⟩
    have hs : (findE (gapsE l) ev).isSome := by
      unfold findE
      rw [List.find?_isSome]
      exact ⟨e, hm, by simpa using hi⟩
    obtain ⟨a, ha⟩ := Option.isSome_iff_exists.1 hs
    have ha1 : a ∈ gapsE l := List.mem_of_find?_eq_some ha
    have ha2 : a.id = ev := by have := List.find?_some ha; simpa using this
    rw [ha, hd.gaps.one ha1 hm (by rw [ha2, hi])]
theorem findE_none {l : List Evn} {ev : Int} (h : findE l ev = none) : findE (gapsE l) ev = none ∧ canE l ev = false ∧ l.any (fun e => e.id == ev) = false := by
  unfold findE at h
  rw [List.find?_eq_none] at h
  refine ⟨?_, ?_, ?_⟩
  · unfold findE
    rw [List.find?_eq_none]
    exact fun a ha => h a (List.mem_filter.1 ha).1
  · unfold canE
    rw [List.any_eq_false]
    intro a ha hb
    rw [Bool.and_eq_true] at hb
    exact h a ha hb.1
  · rw [List.any_eq_false]
    exact fun a ha => h a ha
theorem canE_find {l : List Evn} (hd : idsE l) {ev : Int} {e : Evn} (h : findE l ev = some e) : canE l ev = e.ca := by
  have he : e ∈ l := List.mem_of_find?_eq_some h
  have hi : e.id = ev := by have := List.find?_some h; simpa using this
  unfold canE
  rw [Bool.eq_iff_iff, List.any_eq_true]
  constructor
  · rintro ⟨a, ha, hb⟩
    rw [Bool.and_eq_true, beq_iff_eq] at hb
    rw [← hd.one ha he (by rw [hb.1, hi])]
    exact hb.2
  · exact fun hc => ⟨e, he, by rw [Bool.and_eq_true, beq_iff_eq]; exact ⟨hi, hc⟩⟩
/-- Whether a break can begin: the program's test. -/
theorem out_same {l : List Evn} (ev tm : Int) : (canE l ev || (gapsE l).any fun g => (g.id == ev) || (g.op && decide (g.be ≤ tm)) || decide (tm < g.be) || (!g.op && decide (tm < g.en))) = (l.any (fun e => e.id == ev) || !freeE l tm) := by
  unfold canE gapsE freeE
  rw [Bool.not_not, Bool.eq_iff_iff]
  simp only [Bool.or_eq_true, List.any_eq_true, List.mem_filter, Bool.and_eq_true, beq_iff_eq, decide_eq_true_eq, Bool.not_eq_true']
  constructor
  · rintro (⟨a, ha, h1, h2⟩ | ⟨a, ⟨ha, hc⟩, ((h | ⟨h1, h2⟩) | h) | ⟨h1, h2⟩⟩)
    · exact .inl ⟨a, ha, h1⟩
    · exact .inl ⟨a, ha, h⟩
    · exact .inr ⟨a, ha, hc, .inl (.inr h1)⟩
    · exact .inr ⟨a, ha, hc, .inl (.inl h)⟩
    · exact .inr ⟨a, ha, hc, .inr h2⟩
  · rintro (⟨a, ha, h1⟩ | ⟨a, ha, hc, (h | h) | h⟩)
    · by_cases hc : a.ca = true
      · exact .inl ⟨a, ha, h1, hc⟩
      · exact .inr ⟨a, ⟨ha, by simpa using hc⟩, .inl (.inl (.inl h1))⟩
    · exact .inr ⟨a, ⟨ha, hc⟩, .inl (.inr h)⟩
    · by_cases hb : a.be ≤ tm
      · exact .inr ⟨a, ⟨ha, hc⟩, .inl (.inl (.inr ⟨h, hb⟩))⟩
      · exact .inr ⟨a, ⟨ha, hc⟩, .inl (.inr (by omega))⟩
    · by_cases ho : a.op = true
      · by_cases hb : a.be ≤ tm
        · exact .inr ⟨a, ⟨ha, hc⟩, .inl (.inl (.inr ⟨ho, hb⟩))⟩
        · exact .inr ⟨a, ⟨ha, hc⟩, .inl (.inr (by omega))⟩
      · exact .inr ⟨a, ⟨ha, hc⟩, .inr ⟨by simpa using ho, h⟩⟩
end Go.Proofs.Ytaknkldbdijkeaa

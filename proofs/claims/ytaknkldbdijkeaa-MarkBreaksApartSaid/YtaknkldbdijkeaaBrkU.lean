/- One cue, by what the program's follower has: plain. -/
import Derived.Test.YtaknkldbdijkeaaFout
import Derived.Test.YtaknkldbdijkeaaIdxV
namespace Go.Proofs.Ytaknkldbdijkeaa
open Go.RowKit

structure Hrd where
  at_ : Int
  cu : Cue
/-- One cue that is heard. -/
def hear1 (l : List Evn) (h : Hrd) : List Evn × Bool := hearE l h.cu.ki h.cu.ev (wholeZ h.at_ h.cu.ti h.cu.no) h.at_ h.cu.le h.cu.au
abbrev isId (ev : Int) : Evn → Bool := fun e => e.id == ev

theorem find_findIdx {p : Evn → Bool} : ∀ (G : List Evn), G.findIdx p < G.length → G.find? p = G[G.findIdx p]?
  | [], h => by simp at h
  | x :: r, h => by
    by_cases hx : p x = true
    · simp [List.findIdx_cons, hx]
    · have hx' : p x = false := by simpa using hx
      have h2 : r.findIdx p < r.length := by rw [List.findIdx_cons, hx'] at h; simpa using h
      rw [List.find?_cons, hx', List.findIdx_cons, hx']
      simpa using find_findIdx r h2
theorem fidxV_cases (G : List Evn) (ev : Int) : (fidxV (isId ev) G = -1 ∧ findE G ev = none) ∨ ∃ (j : Nat) (g : Evn), G[j]? = some g ∧ g.id = ev ∧ fidxV (isId ev) G = j ∧ findE G ev = some g := by
  by_cases h : G.findIdx (isId ev) = G.length
  · left
    refine ⟨by rw [fidxV, if_pos h], ?_⟩
    rw [List.findIdx_eq_length] at h
    unfold findE
    rw [List.find?_eq_none]
    exact fun x hx => by simpa using h x hx
  · right
    have hlt : G.findIdx (isId ev) < G.length := by have := List.findIdx_le_length (p := isId ev) (xs := G); omega
    refine ⟨G.findIdx (isId ev), G[G.findIdx (isId ev)], List.getElem?_eq_getElem hlt, ?_, by rw [fidxV, if_neg h], ?_⟩
    · have := List.findIdx_getElem (p := isId ev) (xs := G) (w := hlt)
      simpa using this
    · unfold findE
      exact (find_findIdx (p := isId ev) G hlt).trans (List.getElem?_eq_getElem hlt)

theorem find_of_gap {l : List Evn} (hd : idsE l) {ev : Int} {g : Evn} (h : findE (gapsE l) ev = some g) : findE l ev = some g ∧ g.ca = false := by
  cases he : findE l ev with
  | none => rw [(findE_none he).1] at h; cases h
  | some e =>
    rw [findE_gap hd he] at h
    by_cases hc : e.ca = true
    · rw [if_pos hc] at h; cases h
    · rw [if_neg hc] at h
      cases h
      exact ⟨rfl, by simpa using hc⟩
theorem find_no_gap {l : List Evn} (hd : idsE l) {ev : Int} (h : findE (gapsE l) ev = none) : (findE l ev = none ∧ canE l ev = false) ∨ ∃ e, findE l ev = some e ∧ e.ca = true ∧ canE l ev = true := by
  cases he : findE l ev with
  | none => exact .inl ⟨rfl, (findE_none he).2.1⟩
  | some e =>
    right
    rw [findE_gap hd he] at h
    by_cases hc : e.ca = true
    · exact ⟨e, rfl, hc, by rw [canE_find hd he, hc]⟩
    · rw [if_neg hc] at h; cases h
theorem any_of_find {l : List Evn} {ev : Int} {e : Evn} (h : findE l ev = some e) : l.any (isId ev) = true := by
  have he : e ∈ l := List.mem_of_find?_eq_some h
  have hi : e.id = ev := by have := List.find?_some h; simpa using this
  exact List.any_eq_true.2 ⟨e, he, by simpa using hi⟩

/-- A cue that begins a break. -/
theorem hear_out {l : List Evn} {h : Hrd} (hk : h.cu.ki = 1) : (hear1 l h).2 = outD (gapsE l) (canE l h.cu.ev) h.cu (wholeZ h.at_ h.cu.ti h.cu.no) ∧ gapsE (hear1 l h).1 = outG (gapsE l) (canE l h.cu.ev) h.cu (wholeZ h.at_ h.cu.ti h.cu.no) ∧ ∀ d, canE (hear1 l h).1 d = canE l d := by
  have hs : (canE l h.cu.ev || blk (gapsE l) h.cu.ev (wholeZ h.at_ h.cu.ti h.cu.no)) = _ := out_same (l := l) h.cu.ev (wholeZ h.at_ h.cu.ti h.cu.no)
  unfold hear1 hearE outD outG
  rw [if_pos hk, hs]
  cases hb : (l.any (fun e => e.id == h.cu.ev) || !freeE l (wholeZ h.at_ h.cu.ti h.cu.no))
  · simp only [Bool.false_eq_true, if_false, Bool.not_false]
    refine ⟨trivial, gaps_new l _ rfl, fun d => ?_⟩
    rw [can_new]
    simp
  · simp
/-- No break has the event. -/
theorem hear_none {l : List Evn} {h : Hrd} (hd : idsE l) (hk : h.cu.ki ≠ 1) (hg : findE (gapsE l) h.cu.ev = none) : (hear1 l h).2 = ((h.cu.ki == 3) && !canE l h.cu.ev) ∧ gapsE (hear1 l h).1 = gapsE l ∧ ∀ d, canE (hear1 l h).1 d = (((h.cu.ki == 3) && !canE l h.cu.ev && (d == h.cu.ev)) || canE l d) := by
  unfold hear1 hearE
  rw [if_neg hk]
  rcases find_no_gap hd hg with ⟨h1, h2⟩ | ⟨e, h1, h2, h3⟩
  · rw [h1, h2]
    by_cases k2 : h.cu.ki = 2
    · rw [if_pos k2]; simp [k2]
    · rw [if_neg k2]
      by_cases k3 : h.cu.ki = 3
      · rw [if_pos k3]
        refine ⟨by simp [k3], gaps_can l _ rfl, fun d => ?_⟩
        rw [can_new]
        simp only [k3, beq_self_eq_true, Bool.true_and, Bool.not_false, Bool.and_true]
        rw [Bool.or_comm]; congr 1; rw [Bool.eq_iff_iff]; simp only [beq_iff_eq]; exact eq_comm
      · rw [if_neg k3]; simp [k3]
  · rw [h1, h3]
    simp only [h2, Bool.true_or, if_true]
    split
    · simp
    · split <;> simp
/-- A break gets its end. -/
theorem hear_end {l : List Evn} {h : Hrd} (hd : idsE l) (hk : h.cu.ki = 2) {g : Evn} {j : Nat} (hg : findE (gapsE l) h.cu.ev = some g) (hj : (gapsE l)[j]? = some g) (hid : g.id = h.cu.ev) :
    ((g.op = false ∧ g.en ≤ wholeZ h.at_ h.cu.ti h.cu.no) → hear1 l h = (l, false)) ∧
    (¬ (g.op = false ∧ g.en ≤ wholeZ h.at_ h.cu.ti h.cu.no) → (hear1 l h).2 = true ∧
      (g.be < wholeZ h.at_ h.cu.ti h.cu.no → gapsE (hear1 l h).1 = (gapsE l).set j { g with en := wholeZ h.at_ h.cu.ti h.cu.no, op := false } ∧ ∀ d, canE (hear1 l h).1 d = canE l d) ∧
      (wholeZ h.at_ h.cu.ti h.cu.no ≤ g.be → gapsE (hear1 l h).1 = (gapsE l).eraseIdx j ∧ ∀ d, canE (hear1 l h).1 d = ((d == g.id) || canE l d))) := by
  obtain ⟨hf, hca⟩ := find_of_gap hd hg
  have ha := any_of_find hf
  have e : hear1 l h = if (!g.op && decide (g.en ≤ wholeZ h.at_ h.cu.ti h.cu.no)) = true then (l, false) else (mapId l h.cu.ev (fun e => { e with en := wholeZ h.at_ h.cu.ti h.cu.no, op := false, ca := decide (wholeZ h.at_ h.cu.ti h.cu.no ≤ e.be) }), true) := by
    unfold hear1 hearE
    rw [if_neg (by omega), if_pos hk, hf]
    simp only [hca, Bool.false_or]
  generalize wholeZ h.at_ h.cu.ti h.cu.no = tm at e ⊢
  generalize h.cu.ev = ev at *
  constructor
  · rintro ⟨h1, h2⟩
    rw [e, if_pos (by simp [h1, h2])]
  · intro hn
    have hn' : ¬ (!g.op && decide (g.en ≤ tm)) = true := by
      intro h3
      simp at h3
      exact hn h3
    rw [if_neg hn'] at e
    rw [e]
    refine ⟨rfl, fun hb => ?_, fun hb => ?_⟩
    · have e2 : mapId l ev (fun e => { e with en := tm, op := false, ca := decide (tm ≤ e.be) }) = mapId l ev (fun e => { e with en := tm, op := false, ca := e.ca }) := mapId_same hd hf (by simp only [hca]; congr 1; simp; omega)
      rw [e2]
      refine ⟨?_, fun d => can_keep ev d (fun e => ⟨rfl, rfl⟩)⟩
      rw [gaps_end, ← hid]
      have := set_mapId (f := fun e => { e with en := tm, op := false, ca := e.ca }) hd.gaps hj
      exact this.symm
    · have e2 : mapId l ev (fun e => { e with en := tm, op := false, ca := decide (tm ≤ e.be) }) = mapId l ev (fun e => { e with en := tm, op := false, ca := true }) := mapId_same hd hf (by congr 1; simp; omega)
      rw [e2]
      refine ⟨?_, fun d => ?_⟩
      · rw [gaps_drop ev (fun e => rfl), erase_id hd.gaps hj, hid]
      · show canE (mapId l ev fun e => { e with en := tm, op := false, ca := true }) d = _
        rw [can_drop ev d (f := fun e => { e with en := tm, op := false, ca := true }) (fun e => ⟨rfl, rfl⟩) ha, hid]
/-- A break is cancelled. -/
theorem hear_cancel {l : List Evn} {h : Hrd} (hd : idsE l) (hk : h.cu.ki = 3) {g : Evn} {j : Nat} (hg : findE (gapsE l) h.cu.ev = some g) (hj : (gapsE l)[j]? = some g) (hid : g.id = h.cu.ev) :
    (g.be ≤ h.at_ → hear1 l h = (l, false)) ∧
    (¬ g.be ≤ h.at_ → (hear1 l h).2 = true ∧ gapsE (hear1 l h).1 = (gapsE l).eraseIdx j ∧ ∀ d, canE (hear1 l h).1 d = ((d == g.id) || canE l d)) := by
  obtain ⟨hf, hca⟩ := find_of_gap hd hg
  have ha := any_of_find hf
  have e : hear1 l h = if decide (g.be ≤ h.at_) = true then (l, false) else (mapId l h.cu.ev (fun e => { e with ca := true }), true) := by
    unfold hear1 hearE
    rw [if_neg (by omega), if_neg (by omega), if_pos hk, hf]
    simp only [hca, Bool.false_or]
  constructor
  · intro h1
    rw [e, if_pos (by simpa using h1)]
  · intro h1
    rw [if_neg (by simpa using h1)] at e
    rw [e]
    refine ⟨rfl, ?_, fun d => ?_⟩
    · show gapsE (mapId l h.cu.ev fun e => { e with ca := true }) = _
      rw [gaps_cancel, erase_id hd.gaps hj, hid]
    · show canE (mapId l h.cu.ev fun e => { e with ca := true }) d = _
      rw [can_cancel _ _ ha, hid]
/-- Any other cue. -/
theorem hear_other {l : List Evn} {h : Hrd} (h1 : h.cu.ki ≠ 1) (h2 : h.cu.ki ≠ 2) (h3 : h.cu.ki ≠ 3) : hear1 l h = (l, false) := by
  unfold hear1 hearE
  rw [if_neg h1, if_neg h2, if_neg h3]
/-- The ids stay apart. -/
theorem hear_ids {l : List Evn} {h : Hrd} (hd : idsE l) : idsE (hear1 l h).1 := by
  unfold hear1 hearE
  split
  · split
    · exact hd
    · rename_i hb
      exact ids_new hd (by simp at hb; simpa using hb.1)
  · split
    · split
      · exact hd
      · split
        · exact hd
        · exact hd.mapId _ (fun e => rfl)
    · split
      · split
        · rename_i hb
          exact ids_new hd (findE_none hb).2.2
        · split
          · exact hd
          · exact hd.mapId _ (fun e => rfl)
      · exact hd
theorem hear_len {l : List Evn} {h : Hrd} : (hear1 l h).1.length ≤ l.length + 1 := by
  unfold hear1 hearE mapId
  repeat' split
  all_goals simp
/-- Times and ids stay within bounds. -/
def okE (e : Evn) : Prop := (0 ≤ e.id ∧ e.id ≤ 4294967295) ∧ (-2000000000000000 ≤ e.be ∧ e.be ≤ 2000000000000000) ∧ (-4000000000000000 ≤ e.en ∧ e.en ≤ 4000000000000000)
def okC (c : Cue) : Prop := (0 ≤ c.ki ∧ c.ki ≤ 3) ∧ (0 ≤ c.ev ∧ c.ev ≤ 4294967295) ∧ (0 ≤ c.ti ∧ c.ti ≤ 8589934591) ∧ (0 ≤ c.le ∧ c.le ≤ 8589934591)
def okH (h : Hrd) : Prop := (-1000000000000000 ≤ h.at_ ∧ h.at_ ≤ 1000000000000000) ∧ okC h.cu
theorem whole_bnd {h : Hrd} (hh : okH h) : -2000000000000000 ≤ wholeZ h.at_ h.cu.ti h.cu.no ∧ wholeZ h.at_ h.cu.ti h.cu.no ≤ 2000000000000000 := by
  obtain ⟨h1, h2⟩ := hh
  have h0 : 0 ≤ (h.cu.ti - h.at_) % 8589934592 := Int.emod_nonneg _ (by decide)
  have h9 : (h.cu.ti - h.at_) % 8589934592 < 8589934592 := Int.emod_lt_of_pos _ (by decide)
  unfold wholeZ
  split
  · omega
  · split <;> omega
theorem hear_ok {l : List Evn} {h : Hrd} (hl : ∀ e, e ∈ l → okE e) (hh : okH h) : ∀ e, e ∈ (hear1 l h).1 → okE e := by
  have hw := whole_bnd hh
  obtain ⟨h1, h2, h3, h4, h5⟩ := hh
  have hmap : ∀ (ev : Int) (f : Evn → Evn), (∀ e, okE e → okE (f e)) → ∀ e, e ∈ mapId l ev f → okE e := fun ev f hf e he => by
    unfold mapId at he
    obtain ⟨a, ha, rfl⟩ := List.mem_map.1 he
    split
    · exact hf a (hl a ha)
    · exact hl a ha
  have hap : ∀ x, okE x → ∀ e, e ∈ l ++ [x] → okE e := fun x hx e he => by
    rcases List.mem_append.1 he with h | h
    · exact hl e h
    · simp at h; subst h; exact hx
  unfold hear1 hearE
  split
  · split
    · exact hl
    · exact hap _ ⟨h3, hw, by simp only; omega⟩
  · split
    · split
      · exact hl
      · split
        · exact hl
        · exact hmap _ _ (fun e he => ⟨he.1, he.2.1, by simp only; omega⟩)
    · split
      · split
        · exact hap _ ⟨h3, by simp only; omega, by simp only; omega⟩
        · split
          · exact hl
          · exact hmap _ _ (fun e he => he)
      · exact hl
end Go.Proofs.Ytaknkldbdijkeaa

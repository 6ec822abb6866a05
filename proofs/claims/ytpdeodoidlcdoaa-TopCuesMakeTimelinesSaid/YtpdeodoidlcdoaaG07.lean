/- slices.IndexFunc and its like, at one type. -/
import Derived.Test.YtpdeodoidlcdoaaG06
import Derived.Test.YtpdeodoidlcdoaaG05
namespace Go.Proofs.Ytpdeodoidlcdoaa
open Go.RowKit

/-- The first place at which p holds, or -1. -/
def fidxV (p : Evn → Bool) (l : List Evn) : Int := if l.findIdx p = l.length then -1 else (l.findIdx p : Nat)
theorem fidxV_hit {p : Evn → Bool} {l : List Evn} {k : Nat} {x : Evn} (hx : l[k]? = some x) (h : p x = true) (hn : ∀ (j : Nat) y, l[j]? = some y → j < k → p y = false) : fidxV p l = k ∧ l.findIdx p = k := by
  obtain ⟨hk, rfl⟩ := List.getElem?_eq_some_iff.1 hx
  have e : l.findIdx p = k := by
    rw [List.findIdx_eq hk]
    exact ⟨h, fun j hj => hn j _ (List.getElem?_eq_getElem (by omega)) hj⟩
  exact ⟨by rw [fidxV, e, if_neg (by omega)], e⟩
theorem fidxV_none {p : Evn → Bool} {l : List Evn} (hn : ∀ (j : Nat) y, l[j]? = some y → p y = false) : fidxV p l = -1 ∧ l.findIdx p = l.length := by
  have e : l.findIdx p = l.length := by
    rw [List.findIdx_eq_length]
    intro x hx
    obtain ⟨j, hj, rfl⟩ := List.mem_iff_getElem.1 hx
    exact hn j _ (List.getElem?_eq_getElem hj)
  exact ⟨by rw [fidxV, if_pos e], e⟩
theorem fidxV_any (p : Evn → Bool) (l : List Evn) : decide (0 ≤ fidxV p l) = l.any p := by
  unfold fidxV
  by_cases h : l.findIdx p = l.length
  · rw [if_pos h]
    rw [List.findIdx_eq_length] at h
    have : l.any p = false := by rw [List.any_eq_false]; intro x hx; simp [h x hx]
    simp [this]
  · rw [if_neg h]
    have hlt : l.findIdx p < l.length := by have := List.findIdx_le_length (p := p) (xs := l); omega
    have : l.any p = true := List.any_eq_true.2 ⟨_, List.getElem_mem hlt, List.findIdx_getElem⟩
    simp [this]

/-- slices.IndexFunc, of whatever predicate that leaves what was there as it was. -/
theorem idxV (g : Nat) (lb : Array Value) (p : Evn → Bool) (w : World) (l : List Evn) (v : Value) (hl : Sl w 4 encG v l)
    (eg : ∀ args w, (callFunc g args).run Try.prog w = .ok (.enter g args) w)
    (hp : ∀ W x, x ∈ l → Below w.heap.size w W → Calls Try.prog g (#[.agg #[.int .i64 x.id, .int .i64 x.be, .int .i64 x.en, .bool x.op]] ++ lb) W fun e w' => e = .returned (.bool (p x)) ∧ Below W.heap.size W w') :
    Calls Try.prog 35 #[v, .func (.func g) #[] lb] w fun e w' => e = .returned (.int .i64 (fidxV p l)) ∧ Below w.heap.size w w' := by
  obtain ⟨ao, cap, rfl, hcap, hmax, hnil, hel⟩ := hl
  unfold maxLen at hmax
  go_enter Try.func35, Try.ntmps35
  go_wp2
  go_loopg [5, 8] l.length (fun gg _ s8 wr => ∃ kk : Nat, kk ≤ l.length ∧ l.length - kk ≤ gg ∧ s8 = .int .i64 kk ∧ Aside (Below w.heap.size w wr) ∧ Aside (∀ j x, l[j]? = some x → j < kk → p x = false))
  case atStart => exact ⟨0, Nat.zero_le _, by omega, rfl, Below.refl _ w, fun j x _ hj => absurd hj (Nat.not_lt_zero _)⟩
  case round =>
    obtain ⟨kk, hkk, hg, rfl, BW, A⟩ := hrel
    by_cases hlt : kk < l.length
    · have hltz : (kk : Int) < (l.length : Int) := by omega
      obtain ⟨x, hx⟩ : ∃ x, l[kk]? = some x := ⟨l[kk], by simp [hlt]⟩
      obtain ⟨b, off, rfl, hc⟩ := hel kk x hx
      have hlt0 := World.block_lt_of_cell? w _ (hc 0 _ rfl)
      have c0 : wr.cell? ⟨b, off + kk * 4, none⟩ = some (.int .i64 x.id) := by have h := (BW.out.cell (p := ⟨b, off + kk * 4 + 0, none⟩) hlt0).trans (hc 0 _ rfl); simpa using h
      have c1 := (BW.out.cell (p := ⟨b, off + kk * 4 + 1, none⟩) hlt0).trans (hc 1 _ rfl)
      have c2 := (BW.out.cell (p := ⟨b, off + kk * 4 + 2, none⟩) hlt0).trans (hc 2 _ rfl)
      have c3 := (BW.out.cell (p := ⟨b, off + kk * 4 + 3, none⟩) hlt0).trans (hc 3 _ rfl)
      have hcall := hp wr x (List.mem_of_getElem? hx) BW.out
      have HX : Hid (l[kk]? = some x) := hx
      clear hx hc hel hp
      cases hq : p x with
      | true =>
        rw [hq] at hcall
        have hv := Lib.hid (fidxV_hit HX.out hq A.out).1
        go_wp2_with (go_at_fn g; refine hcall.mono ?_; rintro e w' ⟨rfl, hb'⟩)
        go_ret
        exact ⟨ret_int hv.out.symm, BW.out.thru hb'⟩
      | false =>
        rw [hq] at hcall
        go_wp2_with (go_at_fn g; refine hcall.mono ?_; rintro e w' ⟨rfl, hb'⟩)
        go_roundg (l.length - (kk + 1))
        case measure => omega
        case rel =>
          refine ⟨kk + 1, by omega, by omega, by go_num, BW.out.thru hb', (show Aside _ from fun j y hy hj => ?_)⟩
          by_cases e : j = kk
          · subst e
            have := HX.out.symm.trans hy
            simp at this; subst this; exact hq
          · exact A.out j y hy (by omega)
    · have hltz : ¬ (kk : Int) < (l.length : Int) := by omega
      have hv := Lib.hid (fidxV_none (p := p) (l := l) fun j y hy => A.out j y hy (by have := (List.getElem?_eq_some_iff.1 hy).1; omega)).1
      clear hel
      go_wp2
      go_ret
      exact ⟨ret_int hv.out.symm, BW.out⟩
end Go.Proofs.Ytpdeodoidlcdoaa

/- One cue, by what the program's follower has: plain. -/
namespace Go.Proofs.Ytpdeodoidlcdoaa
open Go.RowKit

structure Hrd where
  at_ : Int
  cu : Cue
/-- One cue that is heard. -/
def hear1 (l : List Evn) (h : Hrd) : List Evn × Bool := hearE l h.cu.ki h.cu.ev (wholeZ h.at_ h.cu.ti h.cu.no) h.at_ h.cu.le h.cu.au
abbrev isId (ev : Int) : Evn → Bool := fun e => e.id == ev

theorem find_findIdx {p : Evn → Bool} : ∀ (G : List Evn), G.findIdx p < G.length → G.find? p = G[G.findIdx p]?
  | [], h => by simp at h
  | x :: r, h => by
    by_cases hx : p x = true
    · simp [List.findIdx_cons, hx]
    · have hx' : p x = false := by simpa using hx
      have h2 : r.findIdx p < r.length := by rw [List.findIdx_cons, hx'] at h; simpa using h
      rw [List.find?_cons, hx', List.findIdx_cons, hx']
      simpa using find_findIdx r h2
theorem fidxV_cases (G : List Evn) (ev : Int) : (fidxV (isId ev) G = -1 ∧ findE G ev = none) ∨ ∃ (j : Nat) (g : Evn), G[j]? = some g ∧ g.id = ev ∧ fidxV (isId ev) G = j ∧ findE G ev = some g := by
  by_cases h : G.findIdx (isId ev) = G.length
  · left
    refine ⟨by rw [fidxV, if_pos h], ?_⟩
    rw [List.findIdx_eq_length] at h
    unfold findE
    rw [List.find?_eq_none]
    exact fun x hx => by simpa using h x hx
  · right
    have hlt : G.findIdx (isId ev) < G.length := by have := List.findIdx_le_length (p := isId ev) (xs := G); omega
    refine ⟨G.findIdx (isId ev), G[G.findIdx (isId ev)], List.getElem?_eq_getElem hlt, ?_, by rw [fidxV, if_neg h], ?_⟩
    · have := List.findIdx_getElem (p := isId ev) (xs := G) (w := hlt)
      simpa using this
    · unfold findE
      exact (find_findIdx (p := isId ev) G hlt).trans (List.getElem?_eq_getElem hlt)

theorem find_of_gap {l : List Evn} (hd : idsE l) {ev : Int} {g : Evn} (h : findE (gapsE l) ev = some g) : findE l ev = some g ∧ g.ca = false := by
  cases he : findE l ev with
  | none => rw [(findE_none he).1] at h; cases h
  | some e =>
    rw [findE_gap hd he] at h
    by_cases hc : e.ca = true
    · rw [if_pos hc] at h; cases h
    · rw [if_neg hc] at h
      cases h
      exact ⟨rfl, by simpa using hc⟩
theorem find_no_gap {l : List Evn} (hd : idsE l) {ev : Int} (h : findE (gapsE l) ev = none) : (findE l ev = none ∧ canE l ev = false) ∨ ∃ e, findE l ev = some e ∧ e.ca = true ∧ canE l ev = true := by
  cases he : findE l ev with
  | none => exact .inl ⟨rfl, (findE_none he).2.1⟩
  | some e =>
    right
    rw [findE_gap hd he] at h
    by_cases hc : e.ca = true
    · exact ⟨e, rfl, hc, by rw [canE_find hd he, hc]⟩
    · rw [if_neg hc] at h; cases h
theorem any_of_find {l : List Evn} {ev : Int} {e : Evn} (h : findE l ev = some e) : l.any (isId ev) = true := by
  have he : e ∈ l := List.mem_of_find?_eq_some h
  have hi : e.id = ev := by have := List.find?_some h; simpa using this
  exact List.any_eq_true.2 ⟨e, he, by simpa using hi⟩

/-- A cue that begins a break. -/
theorem hear_out {l : List Evn} {h : Hrd} (hk : h.cu.ki = 1) : (hear1 l h).2 = outD (gapsE l) (canE l h.cu.ev) h.cu (wholeZ h.at_ h.cu.ti h.cu.no) ∧ gapsE (hear1 l h).1 = outG (gapsE l) (canE l h.cu.ev) h.cu (wholeZ h.at_ h.cu.ti h.cu.no) ∧ ∀ d, canE (hear1 l h).1 d = canE l d := by
  have hs : (canE l h.cu.ev || blk (gapsE l) h.cu.ev (wholeZ h.at_ h.cu.ti h.cu.no)) = _ := out_same (l := l) h.cu.ev (wholeZ h.at_ h.cu.ti h.cu.no)
  unfold hear1 hearE outD outG
  rw [if_pos hk, hs]
  cases hb : (l.any (fun e => e.id == h.cu.ev) || !freeE l (wholeZ h.at_ h.cu.ti h.cu.no))
  · simp only [Bool.false_eq_true, if_false, Bool.not_false]
    refine ⟨trivial, gaps_new l _ rfl, fun d => ?_⟩
    rw [can_new]
    simp
  · simp
/-- No break has the event. -/
theorem hear_none {l : List Evn} {h : Hrd} (hd : idsE l) (hk : h.cu.ki ≠ 1) (hg : findE (gapsE l) h.cu.ev = none) : (hear1 l h).2 = ((h.cu.ki == 3) && !canE l h.cu.ev) ∧ gapsE (hear1 l h).1 = gapsE l ∧ ∀ d, canE (hear1 l h).1 d = (((h.cu.ki == 3) && !canE l h.cu.ev && (d == h.cu.ev)) || canE l d) := by
  unfold hear1 hearE
  rw [if_neg hk]
  rcases find_no_gap hd hg with ⟨h1, h2⟩ | ⟨e, h1, h2, h3⟩
  · rw [h1, h2]
    by_cases k2 : h.cu.ki = 2
    · rw [if_pos k2]; simp [k2]
    · rw [if_neg k2]
      by_cases k3 : h.cu.ki = 3
      · rw [if_pos k3]
        refine ⟨by simp [k3], gaps_can l _ rfl, fun d => ?_⟩
        rw [can_new]
        simp only [k3, beq_self_eq_true, Bool.true_and, Bool.not_false, Bool.and_true]
        rw [Bool.or_comm]; congr 1; rw [Bool.eq_iff_iff]; simp only [beq_iff_eq]; exact eq_comm
      · rw [if_neg k3]; simp [k3]
  · rw [h1, h3]
    simp only [h2, Bool.true_or, if_true]
    split
    · simp
    · split <;> simp
/-- A break gets its end. -/
theorem hear_end {l : List Evn} {h : Hrd} (hd : idsE l) (hk : h.cu.ki = 2) {g : Evn} {j : Nat} (hg : findE (gapsE l) h.cu.ev = some g) (hj : (gapsE l)[j]? = some g) (hid : g.id = h.cu.ev) :
    ((g.op = false ∧ g.en ≤ wholeZ h.at_ h.cu.ti h.cu.no) → hear1 l h = (l, false)) ∧
    (¬ (g.op = false ∧ g.en ≤ wholeZ h.at_ h.cu.ti h.cu.no) → (hear1 l h).2 = true ∧
      (g.be < wholeZ h.at_ h.cu.ti h.cu.no → gapsE (hear1 l h).1 = (gapsE l).set j { g with en := wholeZ h.at_ h.cu.ti h.cu.no, op := false } ∧ ∀ d, canE (hear1 l h).1 d = canE l d) ∧
      (wholeZ h.at_ h.cu.ti h.cu.no ≤ g.be → gapsE (hear1 l h).1 = (gapsE l).eraseIdx j ∧ ∀ d, canE (hear1 l h).1 d = ((d == g.id) || canE l d))) := by
  obtain ⟨hf, hca⟩ := find_of_gap hd hg
  have ha := any_of_find hf
  have e : hear1 l h = if (!g.op && decide (g.en ≤ wholeZ h.at_ h.cu.ti h.cu.no)) = true then (l, false) else (mapId l h.cu.ev (fun e => { e with en := wholeZ h.at_ h.cu.ti h.cu.no, op := false, ca := decide (wholeZ h.at_ h.cu.ti h.cu.no ≤ e.be) }), true) := by
    unfold hear1 hearE
    rw [if_neg (by omega), if_pos hk, hf]
    simp only [hca, Bool.false_or]
  generalize wholeZ h.at_ h.cu.ti h.cu.no = tm at e ⊢
  generalize h.cu.ev = ev at *
  constructor
  · rintro ⟨h1, h2⟩
    rw [e, if_pos (by simp [h1, h2])]
  · intro hn
    have hn' : ¬ (!g.op && decide (g.en ≤ tm)) = true := by
      intro h3
      simp at h3
      exact hn h3
    rw [if_neg hn'] at e
    rw [e]
    refine ⟨rfl, fun hb => ?_, fun hb => ?_⟩
    · have e2 : mapId l ev (fun e => { e with en := tm, op := false, ca := decide (tm ≤ e.be) }) = mapId l ev (fun e => { e with en := tm, op := false, ca := e.ca }) := mapId_same hd hf (by simp only [hca]; congr 1; simp; omega)
      rw [e2]
      refine ⟨?_, fun d => can_keep ev d (fun e => ⟨rfl, rfl⟩)⟩
      rw [gaps_end, ← hid]
      have := set_mapId (f := fun e => { e with en := tm, op := false, ca := e.ca }) hd.gaps hj
      exact this.symm
    · have e2 : mapId l ev (fun e => { e with en := tm, op := false, ca := decide (tm ≤ e.be) }) = mapId l ev (fun e => { e with en := tm, op := false, ca := true }) := mapId_same hd hf (by congr 1; simp; omega)
      rw [e2]
      refine ⟨?_, fun d => ?_⟩
      · rw [gaps_drop ev (fun e => rfl), erase_id hd.gaps hj, hid]
      · show canE (mapId l ev fun e => { e with en := tm, op := false, ca := true }) d = _
        rw [can_drop ev d (f := fun e => { e with en := tm, op := false, ca := true }) (fun e => ⟨rfl, rfl⟩) ha, hid]
/-- A break is cancelled. -/
theorem hear_cancel {l : List Evn} {h : Hrd} (hd : idsE l) (hk : h.cu.ki = 3) {g : Evn} {j : Nat} (hg : findE (gapsE l) h.cu.ev = some g) (hj : (gapsE l)[j]? = some g) (hid : g.id = h.cu.ev) :
    (g.be ≤ h.at_ → hear1 l h = (l, false)) ∧
    (¬ g.be ≤ h.at_ → (hear1 l h).2 = true ∧ gapsE (hear1 l h).1 = (gapsE l).eraseIdx j ∧ ∀ d, canE (hear1 l h).1 d = ((d == g.id) || canE l d)) := by
  obtain ⟨hf, hca⟩ := find_of_gap hd hg
  have ha := any_of_find hf
  have e : hear1 l h = if decide (g.be ≤ h.at_) = true then (l, false) else (mapId l h.cu.ev (fun e => { e with ca := true }), true) := by
    unfold hear1 hearE
    rw [if_neg (by omega), if_neg (by omega), if_pos hk, hf]
    simp only [hca, Bool.false_or]
  constructor
  · intro h1
    rw [e, if_pos (by simpa using h1)]
  · intro h1
    rw [if_neg (by simpa using h1)] at e
    rw [e]
    refine ⟨rfl, ?_, fun d => ?_⟩
    · show gapsE (mapId l h.cu.ev fun e => { e with ca := true }) = _
      rw [gaps_cancel, erase_id hd.gaps hj, hid]
    · show canE (mapId l h.cu.ev fun e => { e with ca := true }) d = _
      rw [can_cancel _ _ ha, hid]
/-- Any other cue. -/
theorem hear_other {l : List Evn} {h : Hrd} (h1 : h.cu.ki ≠ 1) (h2 : h.cu.ki ≠ 2) (h3 : h.cu.ki ≠ 3) : hear1 l h = (l, false) := by
  unfold hear1 hearE
  rw [if_neg h1, if_neg h2, if_neg h3]
/-- The ids stay apart. -/
theorem hear_ids {l : List Evn} {h : Hrd} (hd : idsE l) : idsE (hear1 l h).1 := by
  unfold hear1 hearE
  split
  · split
    · exact hd
    · rename_i hb
      exact ids_new hd (by simp at hb; simpa using hb.1)
  · split
    · split
      · exact hd
      · split
        · exact hd
        · exact hd.mapId _ (fun e => rfl)
    · split
      · split
        · rename_i hb
          exact ids_new hd (findE_none hb).2.2
        · split
          · exact hd
          · exact hd.mapId _ (fun e => rfl)
      · exact hd
theorem hear_len {l : List Evn} {h : Hrd} : (hear1 l h).1.length ≤ l.length + 1 := by
  unfold hear1 hearE mapId
  repeat' split
  all_goals simp
/-- Times and ids stay within bounds. -/
def okE (e : Evn) : Prop := (0 ≤ e.id ∧ e.id ≤ 4294967295) ∧ (-2000000000000000 ≤ e.be ∧ e.be ≤ 2000000000000000) ∧ (-4000000000000000 ≤ e.en ∧ e.en ≤ 4000000000000000)
def okC (c : Cue) : Prop := (0 ≤ c.ki ∧ c.ki ≤ 3) ∧ (0 ≤ c.ev ∧ c.ev ≤ 4294967295) ∧ (0 ≤ c.ti ∧ c.ti ≤ 8589934591) ∧ (0 ≤ c.le ∧ c.le ≤ 8589934591)
def okH (h : Hrd) : Prop := (-1000000000000000 ≤ h.at_ ∧ h.at_ ≤ 1000000000000000) ∧ okC h.cu
theorem whole_bnd {h : Hrd} (hh : okH h) : -2000000000000000 ≤ wholeZ h.at_ h.cu.ti h.cu.no ∧ wholeZ h.at_ h.cu.ti h.cu.no ≤ 2000000000000000 := by
  obtain ⟨h1, h2⟩ := hh
  have h0 : 0 ≤ (h.cu.ti - h.at_) % 8589934592 := Int.emod_nonneg _ (by decide)
  have h9 : (h.cu.ti - h.at_) % 8589934592 < 8589934592 := Int.emod_lt_of_pos _ (by decide)
  unfold wholeZ
  split
  · omega
  · split <;> omega
theorem hear_ok {l : List Evn} {h : Hrd} (hl : ∀ e, e ∈ l → okE e) (hh : okH h) : ∀ e, e ∈ (hear1 l h).1 → okE e := by
  have hw := whole_bnd hh
  obtain ⟨h1, h2, h3, h4, h5⟩ := hh
  have hmap : ∀ (ev : Int) (f : Evn → Evn), (∀ e, okE e → okE (f e)) → ∀ e, e ∈ mapId l ev f → okE e := fun ev f hf e he => by
    unfold mapId at he
    obtain ⟨a, ha, rfl⟩ := List.mem_map.1 he
    split
    · exact hf a (hl a ha)
    · exact hl a ha
  have hap : ∀ x, okE x → ∀ e, e ∈ l ++ [x] → okE e := fun x hx e he => by
    rcases List.mem_append.1 he with h | h
    · exact hl e h
    · simp at h; subst h; exact hx
  unfold hear1 hearE
  split
  · split
    · exact hl
    · exact hap _ ⟨h3, hw, by simp only; omega⟩
  · split
    · split
      · exact hl
      · split
        · exact hl
        · exact hmap _ _ (fun e he => ⟨he.1, he.2.1, by simp only; omega⟩)
    · split
      · split
        · exact hap _ ⟨h3, by simp only; omega, by simp only; omega⟩
        · split
          · exact hl
          · exact hmap _ _ (fun e he => he)
      · exact hl
end Go.Proofs.Ytpdeodoidlcdoaa

/- CheckBreaks of the program and of the reference: what they return. -/
namespace Go.Proofs.Ytpdeodoidlcdoaa
open Go.RowKit

structure Brk where
  ev : Int
  be : Int
  en : Int
deriving Inhabited, DecidableEq

def encB (x : Brk) : List Value := [.int .i64 x.ev, .int .i64 x.be, .int .i64 x.en]
theorem encB_len (x : Brk) : (encB x).length = 3 := rfl

/-- slices.IndexFunc at a break, of whatever predicate that leaves what was there as it was. -/
theorem idxB (g : Nat) (lb : Array Value) (p : Brk → Bool) (w : World) (l : List Brk) (v : Value) (hl : Sl w 3 encB v l)
    (eg : ∀ args w, (callFunc g args).run Try.prog w = .ok (.enter g args) w)
    (hp : ∀ W x, Below w.heap.size w W → Calls Try.prog g (#[.agg #[.int .i64 x.ev, .int .i64 x.be, .int .i64 x.en]] ++ lb) W fun e w' => e = .returned (.bool (p x)) ∧ Below W.heap.size W w') :
    Calls Try.prog 50 #[v, .func (.func g) #[] lb] w fun e w' => (∃ i : Int, e = .returned (.int .i64 i) ∧ decide (0 ≤ i) = l.any p) ∧ Below w.heap.size w w' := by
  obtain ⟨ao, cap, rfl, hcap, hmax, hnil, hel⟩ := hl
  unfold maxLen at hmax
  go_enter Try.func50, Try.ntmps50
  go_wp2
  go_loopg [5, 8] l.length (fun gg _ s8 wr => ∃ kk : Nat, kk ≤ l.length ∧ l.length - kk ≤ gg ∧ s8 = .int .i64 kk ∧ Aside (Below w.heap.size w wr) ∧ Aside (∀ j x, l[j]? = some x → j < kk → p x = false))
  case atStart => exact ⟨0, Nat.zero_le _, by omega, rfl, Below.refl _ w, fun j x _ hj => absurd hj (Nat.not_lt_zero _)⟩
  case round =>
    obtain ⟨kk, hkk, hg, rfl, BW, A⟩ := hrel
    by_cases hlt : kk < l.length
    · have hltz : (kk : Int) < (l.length : Int) := by omega
      obtain ⟨x, hx⟩ : ∃ x, l[kk]? = some x := ⟨l[kk], by simp [hlt]⟩
      obtain ⟨b, off, rfl, hc⟩ := hel kk x hx
      have hlt0 := World.block_lt_of_cell? w _ (hc 0 _ rfl)
      have c0 := (BW.out.cell (p := ⟨b, off + kk * 3, none⟩) hlt0).trans (hc 0 _ rfl)
      have c1 := (BW.out.cell (p := ⟨b, off + kk * 3 + 1, none⟩) hlt0).trans (hc 1 _ rfl)
      have c2 := (BW.out.cell (p := ⟨b, off + kk * 3 + 2, none⟩) hlt0).trans (hc 2 _ rfl)
      have hcall := hp wr x BW.out
      have HX : Hid (l[kk]? = some x) := hx
      clear hx hc hel hp
      cases hq : p x with
      | true =>
        rw [hq] at hcall
        go_wp2_with (go_at_fn g; refine hcall.mono ?_; rintro e w' ⟨rfl, hb'⟩)
        go_ret
        refine ⟨⟨kk, rfl, ?_⟩, BW.out.thru hb'⟩
        have : l.any p = true := List.any_eq_true.2 ⟨x, List.mem_of_getElem? HX.out, hq⟩
        simp [this]
      | false =>
        rw [hq] at hcall
        go_wp2_with (go_at_fn g; refine hcall.mono ?_; rintro e w' ⟨rfl, hb'⟩)
        go_roundg (l.length - (kk + 1))
        case measure => omega
        case rel =>
          refine ⟨kk + 1, by omega, by omega, by go_num, BW.out.thru hb', (show Aside _ from fun j y hy hj => ?_)⟩
          by_cases e : j = kk
          · subst e
            have := HX.out.symm.trans hy
            simp at this; subst this; exact hq
          · exact A.out j y hy (by omega)
    · have hltz : ¬ (kk : Int) < (l.length : Int) := by omega
      clear hel
      go_wp2
      go_ret
      refine ⟨⟨-1, rfl, ?_⟩, BW.out⟩
      have : l.any p = false := by
        rw [List.any_eq_false]
        intro x hx
        obtain ⟨j, hj, rfl⟩ := List.mem_iff_getElem.1 hx
        simp [A.out j l[j] (by simp [hj]) (by omega)]
      simp [this]

theorem anyB (g : Nat) (lb : Array Value) (p : Brk → Bool) (w : World) (l : List Brk) (v : Value) (hl : Sl w 3 encB v l)
    (eg : ∀ args w, (callFunc g args).run Try.prog w = .ok (.enter g args) w)
    (hp : ∀ W x, Below w.heap.size w W → Calls Try.prog g (#[.agg #[.int .i64 x.ev, .int .i64 x.be, .int .i64 x.en]] ++ lb) W fun e w' => e = .returned (.bool (p x)) ∧ Below W.heap.size W w') :
    Calls Try.prog 38 #[v, .func (.func g) #[] lb] w fun e w' => e = .returned (.bool (l.any p)) ∧ Below w.heap.size w w' := by
  have hc := idxB g lb p w l v hl eg hp
  clear hp hl
  go_enter Try.func38, Try.ntmps38
  go_wp2_with (go_at_call 50; refine hc.mono ?_; rintro e w' ⟨⟨i, rfl, hi⟩, hb'⟩)
  go_ret
  exact ⟨rfl, hb'⟩

def cbOf (x p : Brk) (i : Nat) (tw : Bool) : Int :=
  if outB x.ev 0 4294967295 || outB x.be 0 1000000000000000 || outB x.en (-1) 1000000000000000 then 1
  else if x.en ≠ -1 ∧ x.en ≤ x.be then 8
  else if 0 < i ∧ p.en = -1 then 11
  else if 0 < i ∧ x.be < p.en then 8
  else if tw then 7 else 0

def cbAt (l : List Brk) (i : Nat) : Int := cbOf (l.getD i default) (l.getD (i - 1) default) i ((l.take i).any fun o => o.ev == (l.getD i default).ev)

/-- The fault of breaks. -/
def checkB (l : List Brk) : Int := if 200 < l.length then 2 else FF (cbAt l) l.length

theorem sameEv (x : Brk) (ev : Int) (B : Nat) (W : World) (hc : W.cell? ⟨B, 0, none⟩ = some (.int .i64 ev)) :
    Calls Try.prog 39 #[.agg #[.int .i64 x.ev, .int .i64 x.be, .int .i64 x.en], .pointer (some ⟨B, 0, none⟩)] W fun e w' => e = .returned (.bool (x.ev == ev)) ∧ Below W.heap.size W w' := by
  have hlt := World.block_lt_of_cell? W _ hc
  go_enter Try.func39, Try.ntmps39
  go_wp2
  go_ret
  exact ⟨rfl, (Below.refl _ _).alloc (Nat.le_refl _) _⟩

set_option maxHeartbeats 2000000 in
theorem checkBreaks_any (w : World) (l : List Brk) (v : Value) (hl : Sl w 3 encB v l) :
    Calls Try.prog 22 #[v] w fun e w' => e = .returned (.int .i64 (checkB l)) ∧ Below w.heap.size w w' := by
  have hl0 := Lib.hid hl
  obtain ⟨ao, cap, rfl, hcap, hmax, hnil, hel⟩ := hl
  unfold maxLen at hmax
  by_cases hbig : 200 < l.length
  · have hv : Hid (2 = checkB l) := Lib.hid (by simp [checkB, hbig])
    clear hel hl0
    go_enter Try.func22, Try.ntmps22
    go_wp2
    go_ret
    exact ⟨ret_int hv.out, Below.refl _ _⟩
  · have hF : checkB l = FF (cbAt l) l.length := by simp [checkB, hbig]
    have HF := Lib.hid hF
    clear hF
    go_enter Try.func22, Try.ntmps22
    go_wp2
    go_loopg [10] l.length (fun gg s10 wr => ∃ kk : Nat, kk ≤ l.length ∧ l.length - kk ≤ gg ∧ s10 = .int .i64 kk ∧ Aside (Below w.heap.size w wr) ∧ Aside (∀ j, j < kk → cbAt l j = 0))
    case atStart => exact ⟨0, Nat.zero_le _, by omega, rfl, Below.refl _ w, fun j hj => absurd hj (Nat.not_lt_zero _)⟩
    case round =>
      obtain ⟨kk, hkk, hg, rfl, BW, A⟩ := hrel
      by_cases hlt : kk < l.length
      · have hltz : (kk : Int) < (l.length : Int) := by omega
        obtain ⟨x, hx⟩ : ∃ x, l[kk]? = some x := ⟨l[kk], by simp [hlt]⟩
        obtain ⟨b, off, rfl, hc⟩ := hel kk x hx
        have hlt0 := World.block_lt_of_cell? w _ (hc 0 _ rfl)
        have c0 := (BW.out.cell (p := ⟨b, off + kk * 3, none⟩) hlt0).trans (hc 0 _ rfl)
        have c1 := (BW.out.cell (p := ⟨b, off + kk * 3 + 1, none⟩) hlt0).trans (hc 1 _ rfl)
        have c2 := (BW.out.cell (p := ⟨b, off + kk * 3 + 2, none⟩) hlt0).trans (hc 2 _ rfl)
        obtain ⟨p, hp⟩ : ∃ x, l[kk - 1]? = some x := ⟨l[kk - 1]'(by omega), by simp⟩
        obtain ⟨b', off', hb', hc'⟩ := hel (kk - 1) p hp
        obtain ⟨rfl, rfl⟩ : b = b' ∧ off = off' := by simpa using hb'
        have cm : wr.cell? ⟨b, off + (kk - 1) * 3 + 2, none⟩ = some (.int .i64 p.en) := (BW.out.cell (p := ⟨b, off + (kk - 1) * 3 + 2, none⟩) hlt0).trans (hc' 2 _ rfl)
        have hbw : b < wr.heap.size := Nat.lt_of_lt_of_le hlt0 BW.out.size
        have hsl := (hl0.out.take rfl kk hkk).below BW.out (Nat.le_refl _)
        obtain ⟨tw, htw⟩ : ∃ tw, tw = (l.take kk).any fun o => o.ev == x.ev := ⟨_, rfl⟩
        have HTW := Lib.hid htw
        have hat : Hid (cbAt l kk = cbOf x p kk tw) := Lib.hid (by simp [cbAt, List.getD_eq_getElem?_getD, hx, hp, htw])
        have HFk := fun (h : cbOf x p kk tw ≠ 0) => (FF_hit (f := cbAt l) (n := l.length) (k := kk) hlt A.out (by rw [hat.out]; exact h)).trans hat.out
        have hszw := BW.out.size
        have hany : ∀ W, Below (wr.heap.size + 1) (wr.alloc (.cells #[.int .i64 x.ev, .int .i64 x.be, .int .i64 x.en] 45)) W → Calls Try.prog 38 #[.slice (some ⟨b, off, none⟩) kk cap, .func (.func 39) #[] #[.pointer (some ⟨wr.heap.size, 0, none⟩)]] W fun e w' => e = .returned (.bool tw) ∧ Below W.heap.size W w' := by
          intro W hW
          have hsz : wr.heap.size + 1 ≤ W.heap.size := by have := hW.size; simpa using this
          rw [htw]
          refine anyB 39 _ (fun o => o.ev == x.ev) W (l.take kk) _ (hsl.below (B := wr.heap.size) (((Below.refl _ _).alloc (Nat.le_refl _) _).trans (hW.mono (by omega))) (Nat.le_refl _)) (enters_of Try.func39 (by kernel_rfl) rfl) (fun W' y hb => ?_)
          refine sameEv y x.ev wr.heap.size W' ?_
          rw [hb.cell (p := ⟨wr.heap.size, 0, none⟩) (by show wr.heap.size < _; omega), hW.cell (p := ⟨wr.heap.size, 0, none⟩) (by show wr.heap.size < _; omega)]
          simp [go_sem]
        have HFK := Lib.hid HFk
        clear hx hp hb' hc hc' hel HFk htw
        have B1 := fun (h : cbOf x p kk tw ≠ 0) => HF.out.trans (HFK.out h)
        have HB1 := Lib.hid B1
        clear B1 HF HFK
        have hk0 : kk = 0 ∨ 0 < kk := by omega
        cases o1 : outB x.ev 0 4294967295
        case true =>
          have hv : Hid (cbOf x p kk tw = 1) := Lib.hid (by simp [cbOf, o1])
          go_wp2_with (first | (go_at_call 21; refine (out_any _ _ _ _).mono ?_; rintro e w' ⟨rfl, rfl⟩))
          go_ret
          exact ⟨ret_int (by rw [HB1.out (by rw [hv.out]; decide), hv.out]), BW.out.alloc hszw _⟩
        cases o2 : outB x.be 0 1000000000000000
        case true =>
          have hv : Hid (cbOf x p kk tw = 1) := Lib.hid (by simp [cbOf, o1, o2])
          go_wp2_with (first | (go_at_call 21; refine (out_any _ _ _ _).mono ?_; rintro e w' ⟨rfl, rfl⟩))
          go_ret
          exact ⟨ret_int (by rw [HB1.out (by rw [hv.out]; decide), hv.out]), BW.out.alloc hszw _⟩
        cases o3 : outB x.en (-1) 1000000000000000
        case true =>
          have hv : Hid (cbOf x p kk tw = 1) := Lib.hid (by simp [cbOf, o1, o2, o3])
          go_wp2_with (first | (go_at_call 21; refine (out_any _ _ _ _).mono ?_; rintro e w' ⟨rfl, rfl⟩))
          go_ret
          exact ⟨ret_int (by rw [HB1.out (by rw [hv.out]; decide), hv.out]), BW.out.alloc hszw _⟩
        have hC : Hid (cbOf x p kk tw = if x.en ≠ -1 ∧ x.en ≤ x.be then 8 else if 0 < kk ∧ p.en = -1 then 11 else if 0 < kk ∧ x.be < p.en then 8 else if tw then 7 else 0) := Lib.hid (by simp [cbOf, o1, o2, o3])
        by_cases q : x.en ≠ -1 ∧ x.en ≤ x.be
        · obtain ⟨q1, q2⟩ := q
          have e1 : (x.en != -1) = true := by simpa using q1
          have hv : Hid (cbOf x p kk tw = 8) := Lib.hid (by rw [hC.out, if_pos ⟨q1, q2⟩])
          clear q1
          go_wp2_with (first | (go_at_call 21; refine (out_any _ _ _ _).mono ?_; rintro e w' ⟨rfl, rfl⟩))
          go_ret
          exact ⟨ret_int (by rw [HB1.out (by rw [hv.out]; decide), hv.out]), BW.out.alloc hszw _⟩
        have hC1 : Hid (cbOf x p kk tw = if 0 < kk ∧ p.en = -1 then 11 else if 0 < kk ∧ x.be < p.en then 8 else if tw then 7 else 0) := Lib.hid (by rw [hC.out, if_neg q])
        clear hC
        have hq : (x.en != -1) = false ∨ ((x.en != -1) = true ∧ x.be < x.en) := by
          cases e : (x.en != -1) with
          | false => exact .inl rfl
          | true => exact .inr ⟨rfl, by have : x.en ≠ -1 := by simpa using e
                                        omega⟩
        clear q
        rcases hk0 with z | z
        · have hd : decide ((0 : Int) < (kk : Int)) = false := by simp; omega
          have hd' : ¬ (0 : Int) < (kk : Int) := by omega
          have hC2 : Hid (cbOf x p kk tw = if tw then 7 else 0) := Lib.hid (by rw [hC1.out, if_neg (by omega), if_neg (by omega)])
          have z' := Lib.hid z
          clear z hC1
          rcases hq with e1 | ⟨e1, q2⟩
          all_goals
            cases tw
            case true =>
              have hv : Hid (cbOf x p kk true = 7) := Lib.hid (by rw [hC2.out]; rfl)
              all_goals
                go_wp2_with (first | (go_at_call 21; refine (out_any _ _ _ _).mono ?_; rintro e w' ⟨rfl, rfl⟩))
                go_quiet (fail)
                go_wp2_with (go_at_call 38; refine (hany _ (below_drewN (Below.refl _ _) _)).mono ?_; rintro e w' ⟨rfl, hb'⟩)
                go_ret
                exact ⟨ret_int (by rw [HB1.out (by rw [hv.out]; decide), hv.out]), (below_drewN (BW.out.alloc hszw _) _).thru hb'⟩
            case false =>
              have hv : Hid (cbOf x p kk false = 0) := Lib.hid (by rw [hC2.out]; rfl)
              all_goals
                go_wp2_with (first | (go_at_call 21; refine (out_any _ _ _ _).mono ?_; rintro e w' ⟨rfl, rfl⟩))
                go_quiet (fail)
                go_wp2_with (go_at_call 38; refine (hany _ (below_drewN (Below.refl _ _) _)).mono ?_; rintro e w' ⟨rfl, hb'⟩)
                go_roundg (l.length - (kk + 1))
                case measure => omega
                case rel =>
                  refine ⟨kk + 1, by omega, by omega, by go_num, (below_drewN (BW.out.alloc hszw _) _).thru hb', (show Aside _ from fun j hj => ?_)⟩
                  by_cases e : j = kk
                  · rw [e, hat.out, hv.out]
                  · exact A.out j (by omega)
        · have hd : decide ((0 : Int) < (kk : Int)) = true := by simp; omega
          have hd' : (0 : Int) < (kk : Int) := by omega
          cases e2 : (p.en == -1)
          case true =>
            have hv : Hid (cbOf x p kk tw = 11) := Lib.hid (by rw [hC1.out, if_pos ⟨z, by simpa using e2⟩])
            rcases hq with e1 | ⟨e1, q2⟩
            all_goals
              go_wp2_with (first | (go_at_call 21; refine (out_any _ _ _ _).mono ?_; rintro e w' ⟨rfl, rfl⟩))
              go_ret
              exact ⟨ret_int (by rw [HB1.out (by rw [hv.out]; decide), hv.out]), BW.out.alloc hszw _⟩
          have n2 : p.en ≠ -1 := by simpa using e2
          by_cases q3 : x.be < p.en
          · have hv : Hid (cbOf x p kk tw = 8) := Lib.hid (by rw [hC1.out, if_neg (by simp [n2]), if_pos ⟨z, q3⟩])
            clear n2
            rcases hq with e1 | ⟨e1, q2⟩
            all_goals
              go_wp2_with (first | (go_at_call 21; refine (out_any _ _ _ _).mono ?_; rintro e w' ⟨rfl, rfl⟩))
              go_quiet (fail)
              go_wp2
              go_ret
              exact ⟨ret_int (by rw [HB1.out (by rw [hv.out]; decide), hv.out]), below_drewN (BW.out.alloc hszw _) _⟩
          · have hC2 : Hid (cbOf x p kk tw = if tw then 7 else 0) := Lib.hid (by rw [hC1.out, if_neg (by simp [n2]), if_neg (by omega)])
            clear n2 hC1
            rcases hq with e1 | ⟨e1, q2⟩
            all_goals
              cases tw
              case true =>
                have hv : Hid (cbOf x p kk true = 7) := Lib.hid (by rw [hC2.out]; rfl)
                all_goals
                  go_wp2_with (first | (go_at_call 21; refine (out_any _ _ _ _).mono ?_; rintro e w' ⟨rfl, rfl⟩))
                  go_quiet (fail)
                  go_wp2_with (go_at_call 38; refine (hany _ (below_drewN (Below.refl _ _) _)).mono ?_; rintro e w' ⟨rfl, hb'⟩)
                  go_ret
                  exact ⟨ret_int (by rw [HB1.out (by rw [hv.out]; decide), hv.out]), (below_drewN (BW.out.alloc hszw _) _).thru hb'⟩
              case false =>
                have hv : Hid (cbOf x p kk false = 0) := Lib.hid (by rw [hC2.out]; rfl)
                all_goals
                  go_wp2_with (first | (go_at_call 21; refine (out_any _ _ _ _).mono ?_; rintro e w' ⟨rfl, rfl⟩))
                  go_quiet (fail)
                  go_wp2_with (go_at_call 38; refine (hany _ (below_drewN (Below.refl _ _) _)).mono ?_; rintro e w' ⟨rfl, hb'⟩)
                  go_roundg (l.length - (kk + 1))
                  case measure => omega
                  case rel =>
                    refine ⟨kk + 1, by omega, by omega, by go_num, (below_drewN (BW.out.alloc hszw _) _).thru hb', (show Aside _ from fun j hj => ?_)⟩
                    by_cases e : j = kk
                    · rw [e, hat.out, hv.out]
                    · exact A.out j (by omega)
      · have hltz : ¬ (kk : Int) < (l.length : Int) := by omega
        clear hel
        have hz : Hid (checkB l = 0) := Lib.hid (by rw [HF.out, FF_zero (fun j hj => A.out j (by omega))])
        go_wp2
        go_ret
        exact ⟨ret_int hz.out.symm, BW.out⟩
end Go.Proofs.Ytpdeodoidlcdoaa

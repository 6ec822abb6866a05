/- A cue is heard: the reference. -/
import Derived.Test.YtaknkldbdijkeaaBrkU
import Derived.Test.YtaknkldbdijkeaaKno
import Derived.Test.YtaknkldbdijkeaaOnl
import Derived.Test.YtaknkldbdijkeaaDelK
import Derived.Deep.RegionLaw
import Derived.StillTailTactics
namespace Go.Proofs.Ytaknkldbdijkeaa
open Go.RowKit

/-- What the reference leaves of its events. -/
def HrdPost (w : World) (base : Nat) (l : List Evn) (d : Bool) : Ending → World → Prop := fun e w' => ∃ v', e = .returned (.tuple #[v', .bool d]) ∧ Own w' base 65 4 encV v' l ∧ Below base w w' ∧ KeepT 65 w w'
theorem HrdPost.mk {w w' : World} {base : Nat} {l : List Evn} {d d' : Bool} {v' : Value} (hd : d' = d) (h : Own w' base 65 4 encV v' l) (hb : Below base w w') (hk : KeepT 65 w w') : HrdPost w base l d (.returned (.tuple #[v', .bool d'])) w' := ⟨v', by rw [hd], h, hb, hk⟩

theorem hearR_out {l : List Evn} {h : Hrd} (hk : h.cu.ki = 1) : hear1 l h = if (l.any (isId h.cu.ev) || !freeE l (wholeZ h.at_ h.cu.ti h.cu.no)) = true then (l, false) else (l ++ [⟨h.cu.ev, wholeZ h.at_ h.cu.ti h.cu.no, wholeZ h.at_ h.cu.ti h.cu.no + h.cu.le, !h.cu.au, false⟩], true) := by
  unfold hear1 hearE
  rw [if_pos hk]
theorem hearR_in_none {l : List Evn} {h : Hrd} (hk : h.cu.ki = 2) (hf : findE l h.cu.ev = none) : hear1 l h = (l, false) := by
  unfold hear1 hearE
  rw [if_neg (by omega), if_pos hk, hf]
theorem hearR_in {l : List Evn} {h : Hrd} (hd : idsE l) (hk : h.cu.ki = 2) {g : Evn} {j : Nat} (hf : findE l h.cu.ev = some g) (hj : l[j]? = some g) (hid : g.id = h.cu.ev) :
    hear1 l h = if (g.ca || (!g.op && decide (g.en ≤ wholeZ h.at_ h.cu.ti h.cu.no))) = true then (l, false) else (l.set j { g with en := wholeZ h.at_ h.cu.ti h.cu.no, op := false, ca := decide (wholeZ h.at_ h.cu.ti h.cu.no ≤ g.be) }, true) := by
  unfold hear1 hearE
  rw [if_neg (by omega), if_pos hk, hf]
  simp only
  rw [← hid, ← set_mapId (f := fun e => { e with en := wholeZ h.at_ h.cu.ti h.cu.no, op := false, ca := decide (wholeZ h.at_ h.cu.ti h.cu.no ≤ e.be) }) hd hj]
theorem hearR_can_none {l : List Evn} {h : Hrd} (hk : h.cu.ki = 3) (hf : findE l h.cu.ev = none) : hear1 l h = (l ++ [⟨h.cu.ev, 0, 0, false, true⟩], true) := by
  unfold hear1 hearE
  rw [if_neg (by omega), if_neg (by omega), if_pos hk, hf]
theorem hearR_can {l : List Evn} {h : Hrd} (hd : idsE l) (hk : h.cu.ki = 3) {g : Evn} {j : Nat} (hf : findE l h.cu.ev = some g) (hj : l[j]? = some g) (hid : g.id = h.cu.ev) :
    hear1 l h = if (g.ca || decide (g.be ≤ h.at_)) = true then (l, false) else (l.set j { g with ca := true }, true) := by
  unfold hear1 hearE
  rw [if_neg (by omega), if_neg (by omega), if_pos hk, hf]
  simp only
  rw [← hid, ← set_mapId (f := fun e => { e with ca := true }) hd hj]
theorem any_id {l : List Evn} {ev : Int} : l.any (isId ev) = (findE l ev).isSome := by
  unfold findE
  rw [Bool.eq_iff_iff, List.find?_isSome, List.any_eq_true]

theorem Own.freshSet {α : Type} {w : World} {base : Nat} {E : TypeId} {k : Nat} {enc : α → List Value} {v : Value} {l : List α} (h : Own w base E k enc v l) (o : Obj) (i : Nat) (u : Value) : Own ((w.alloc o).setCell ⟨w.heap.size, i, none⟩ u) base E k enc v l := by
  have hlt := World.ownsRow.lt h
  have ha := h.al o
  obtain ⟨h1, h2⟩ := ha
  refine ⟨h1, ?_⟩
  rcases h2 with h2 | ⟨g, cap, cur, rfl, hg, hh, r⟩
  · exact Or.inl h2
  · exact Or.inr ⟨g, cap, cur, rfl, hg, by rw [Below.heap_setCell _ _ _ g (by have := (hlt g rfl).2; show g ≠ w.heap.size; omega)]; exact hh, r⟩
theorem keepT_fresh {E : TypeId} {w : World} (c : Array Value) (i : Nat) (u : Value) : KeepT E w ((w.alloc (.cells c E)).setCell ⟨w.heap.size, i, none⟩ u) := ((KeepT.refl E w).alloc _).setG (block_new w _) u
/-- An event of the reference is written in place. -/
theorem setV {w : World} {base gb cap j : Nat} {l : List Evn} {g : Evn} (h : Own w base 65 4 encV (.slice (some ⟨gb, 0, none⟩) l.length cap) l) (hj : l[j]? = some g) (tm : Int) (b : Bool) :
    Own ((w.setCell ⟨gb, j * 4 + 2, none⟩ (.int .i64 tm)).setCell ⟨gb, j * 4 + 3, none⟩ (.bool b)) base 65 4 encV (.slice (some ⟨gb, 0, none⟩) l.length cap) (l.set j { g with en := tm, op := false, ca := b }) ∧ Below base w ((w.setCell ⟨gb, j * 4 + 2, none⟩ (.int .i64 tm)).setCell ⟨gb, j * 4 + 3, none⟩ (.bool b)) ∧ KeepT 65 w ((w.setCell ⟨gb, j * 4 + 2, none⟩ (.int .i64 tm)).setCell ⟨gb, j * 4 + 3, none⟩ (.bool b)) := by
  have hlt := (World.ownsRow.lt h gb rfl).1
  have s1 := Own.store (i := j) (j := 2) (x := g) (y := { g with en := tm, op := false }) (u := .int .i64 tm) encV_len h rfl hj (by decide) rfl
  have hj2 : (l.set j { g with en := tm, op := false })[j]? = some { g with en := tm, op := false } := by
    rw [List.getElem?_set_self (List.getElem?_eq_some_iff.1 hj).1]
  have s1' : Own (w.setCell ⟨gb, j * 4 + 2, none⟩ (.int .i64 tm)) base 65 4 encV (.slice (some ⟨gb, 0, none⟩) (l.set j { g with en := tm, op := false }).length cap) (l.set j { g with en := tm, op := false }) := by rw [List.length_set]; exact s1
  have s2 := Own.store (i := j) (j := 3) (x := { g with en := tm, op := false }) (y := { g with en := tm, op := false, ca := b }) (u := .bool b) encV_len s1' rfl hj2 (by decide) rfl
  rw [List.set_set, List.length_set] at s2
  obtain ⟨cur, hcur⟩ := Own.blk h
  obtain ⟨cur2, hcur2⟩ := Own.blk s1'
  exact ⟨s2, ((Below.refl base w).setCell hlt _).setCell hlt _, ((KeepT.refl _ w).setG hcur _).setG hcur2 _⟩
theorem setC {w : World} {base gb cap j : Nat} {l : List Evn} {g : Evn} (h : Own w base 65 4 encV (.slice (some ⟨gb, 0, none⟩) l.length cap) l) (hj : l[j]? = some g) :
    Own (w.setCell ⟨gb, j * 4 + 3, none⟩ (.bool true)) base 65 4 encV (.slice (some ⟨gb, 0, none⟩) l.length cap) (l.set j { g with ca := true }) ∧ Below base w (w.setCell ⟨gb, j * 4 + 3, none⟩ (.bool true)) ∧ KeepT 65 w (w.setCell ⟨gb, j * 4 + 3, none⟩ (.bool true)) := by
  have hlt := (World.ownsRow.lt h gb rfl).1
  obtain ⟨cur, hcur⟩ := Own.blk h
  exact ⟨Own.store (i := j) (j := 3) (x := g) (y := { g with ca := true }) (u := .bool true) encV_len h rfl hj (by decide) rfl, (Below.refl base w).setCell hlt _, (KeepT.refl _ w).setG hcur _⟩

set_option maxRecDepth 100000 in
set_option maxHeartbeats 4000000 in
theorem heardR_any (w : World) (base : Nat) (v : Value) (l : List Evn) (h : Hrd) (hO : Own w base 65 4 encV v l) (hbs : base ≤ w.heap.size) (hd : idsE l) (hlen : l.length ≤ 1000000000000) (hok : ∀ e, e ∈ l → okE e) (hh : okH h) :
    Calls Try.prog 28 #[v, agH h.at_ h.cu] w (HrdPost w base (hear1 l h).1 (hear1 l h).2) := by
  have HOK := Lib.hid hok
  have HD := Lib.hid hd
  have hbd := whole_bnd hh
  obtain ⟨hat, hki, hev, hti, hle⟩ := hh
  have HWH := Lib.hid (fun W => wholeR_any h.at_ h.cu W hat hti)
  obtain ⟨tm, htm⟩ : ∃ tm, tm = wholeZ h.at_ h.cu.ti h.cu.no := ⟨_, rfl⟩
  have HTM := Lib.hid htm
  rw [← htm] at hbd
  obtain ⟨WB, hWB⟩ : ∃ WB, WB = (w.alloc (boxH h.at_ h.cu)).alloc (boxC h.cu) := ⟨_, rfl⟩
  have HB0 : Hid (Below w.heap.size w WB) := Lib.hid (by rw [hWB]; exact ((Below.refl w.heap.size w).alloc (Nat.le_refl _) _).alloc (by simp) _)
  have hWs : Hid (WB.heap.size = w.heap.size + 2) := Lib.hid (by rw [hWB]; simp)
  have HBX : Hid (WB.heap[w.heap.size]? = some (boxH h.at_ h.cu)) := Lib.hid (by rw [hWB, Below.heap_alloc _ _ _ (by simp)]; exact block_new w _)
  have HCX : Hid (WB.heap[w.heap.size + 1]? = some (boxC h.cu)) := Lib.hid (by rw [hWB]; have := block_new (w.alloc (boxH h.at_ h.cu)) (boxC h.cu); simpa using this)
  have HOB := Lib.hid (hO.below HB0.out (Nat.le_refl _))
  have HSB := Lib.hid (HOB.out.sl encV_len)
  obtain ⟨ix, hix⟩ : ∃ ix, ix = fidxV (isId h.cu.ev) l := ⟨_, rfl⟩
  have HKN : Hid (Calls Try.prog 38 #[v, .int .i64 h.cu.ev] WB fun e w' => e = .returned (.int .i64 ix) ∧ WB = w') := Lib.hid (by rw [hix]; exact knownR_any WB l v h.cu.ev HSB.out)
  have HIX := Lib.hid hix
  have HWB := Lib.hid hWB
  clear hd hok htm hO hix hWB
  go_enter Try.func28, Try.ntmps28
  go_upto_region 2 with (fail)
  rw [← HWB.out]
  have b1 : WB.cell? ⟨w.heap.size + 1, 1, none⟩ = some (.int .i64 h.cu.ev) := (cell_of_block HCX.out).trans rfl
  have a0 : WB.cell? ⟨w.heap.size, 0, none⟩ = some (.int .i64 h.at_) := (cell_of_block HBX.out).trans rfl
  have a1 : WB.cell? ⟨w.heap.size, 1, none⟩ = some (.int .i64 h.cu.ki) := (cell_of_block HBX.out).trans rfl
  have a2 : WB.cell? ⟨w.heap.size, 2, none⟩ = some (.int .i64 h.cu.ev) := (cell_of_block HBX.out).trans rfl
  have a3 : WB.cell? ⟨w.heap.size, 3, none⟩ = some (.bool h.cu.no) := (cell_of_block HBX.out).trans rfl
  have a4 : WB.cell? ⟨w.heap.size, 4, none⟩ = some (.int .i64 h.cu.ti) := (cell_of_block HBX.out).trans rfl
  have a5 : WB.cell? ⟨w.heap.size, 5, none⟩ = some (.int .i64 h.cu.le) := (cell_of_block HBX.out).trans rfl
  have a6 : WB.cell? ⟨w.heap.size, 6, none⟩ = some (.bool h.cu.au) := (cell_of_block HBX.out).trans rfl
  go_upto_region 4 with (first | (go_at_call 38; refine HKN.out.mono ?_; rintro e w0 ⟨rfl, rfl⟩) | (go_at_call 39; refine (HWH.out _).mono ?_; rintro e w1 ⟨rfl, hb1⟩; rw [← HTM.out]; have HB1 := Lib.hid hb1; clear hb1))
  have HC1 := Lib.hid ((HB1.out.block _ (by rw [hWs.out]; omega)).trans HCX.out)
  have HX1 := Lib.hid ((HB1.out.block _ (by rw [hWs.out]; omega)).trans HBX.out)
  have HO1 := Lib.hid (HOB.out.below HB1.out (Nat.le_refl _))
  have HBW := Lib.hid (HB0.out.trans (HB1.out.mono (by rw [hWs.out]; omega)))
  have HBb := Lib.hid (HBW.out.mono hbs)
  have HKT : Hid (KeepT 65 w w1) := Lib.hid (KeepT.of_below HBW.out)
  have hsz1 : w.heap.size + 1 < w1.heap.size := lt_of_blk HC1.out
  clear b1 a0 a1 a2 a3 a4 a5 a6 HB0 hWs HBX HCX HOB HSB HKN HWH HWB HB1
  have d0 : w1.cell? ⟨w.heap.size, 0, none⟩ = some (.int .i64 h.at_) := (cell_of_block HX1.out).trans rfl
  have c0 : w1.cell? ⟨w.heap.size + 1, 0, none⟩ = some (.int .i64 h.cu.ki) := (cell_of_block HC1.out).trans rfl
  have c1 : w1.cell? ⟨w.heap.size + 1, 1, none⟩ = some (.int .i64 h.cu.ev) := (cell_of_block HC1.out).trans rfl
  have c4 : w1.cell? ⟨w.heap.size + 1, 4, none⟩ = some (.int .i64 h.cu.le) := (cell_of_block HC1.out).trans rfl
  have c5 : w1.cell? ⟨w.heap.size + 1, 5, none⟩ = some (.bool h.cu.au) := (cell_of_block HC1.out).trans rfl
  obtain ⟨ao, L, cap, rfl⟩ := Own.slv encV_len HO1.out
  have HLN := Lib.hid hlen
  have HSL := Lib.hid (HO1.out.sl encV_len)
  rcases fidxV_cases l h.cu.ev with ⟨e1, e2⟩ | ⟨j, g, hj, hgi, e1, e2⟩
  · rw [← HIX.out] at e1
    subst e1
    have HE2 := Lib.hid e2
    clear e2
    by_cases hk1 : h.cu.ki = 1
    · have e3 := hearR_out (l := l) hk1
      have ea : l.any (isId h.cu.ev) = false := by rw [any_id, HE2.out]; rfl
      rw [← HTM.out, ea, Bool.false_or] at e3
      have HFR := Lib.hid (freeR_any w1 l (.slice ao L cap) tm HSL.out (fun e he => (HOK.out e he).2.2))
      cases hfr : freeE l tm
      · rw [hfr] at e3 HFR
        have HEQ : Hid (hear1 l h = (l, false)) := Lib.hid e3
        clear e3 ea hfr
        go_wp2_with (go_at_call 40; refine HFR.out.mono ?_; rintro e w0 ⟨rfl, rfl⟩)
        go_ret2
        exact HrdPost.mk (by rw [HEQ.out]) (by rw [HEQ.out]; exact HO1.out) HBb.out HKT.out
      · rw [hfr] at e3 HFR
        have HEQ : Hid (hear1 l h = (l ++ [⟨h.cu.ev, tm, tm + h.cu.le, !h.cu.au, false⟩], true)) := Lib.hid e3
        have hwr : IntKind.i64.wrap (tm + h.cu.le) = tm + h.cu.le := IntWalk.i64_in _ (by omega)
        clear e3 ea hfr
        cases hau : h.cu.au
        · rw [hau] at c5 HEQ
          have HOA := Lib.hid (HO1.out.al (.cells #[.int .i64 h.cu.ev, .int .i64 tm, .int .i64 (-4611686018427387904), .bool false] 65))
          have HKA := Lib.hid (HKT.out.alloc (.cells #[.int .i64 h.cu.ev, .int .i64 tm, .int .i64 (-4611686018427387904), .bool false] 65))
          have HBA := Lib.hid (HBb.out.alloc (Nat.le_trans hbs (by omega)) (.cells #[.int .i64 h.cu.ev, .int .i64 tm, .int .i64 (-4611686018427387904), .bool false] 65))
          clear hau
          go_wp2_with (first | (go_at_call 40; refine HFR.out.mono ?_; rintro e w0 ⟨rfl, rfl⟩) | (at_builtin; go_loud (refine wpList_pushK (A := w1.heap.size + 1) (W := w1.alloc (.cells #[.int .i64 h.cu.ev, .int .i64 tm, .int .i64 (-4611686018427387904), .bool false] 65)) (v := .slice ao L cap) rfl _ _ 61 rfl slEvt rfl rfl ⟨h.cu.ev, tm, tm + h.cu.le, true, false⟩ rfl rfl rfl HOA.out (by simp) (by have := HLN.out; omega) (by simp; omega) ?_); intro v5 w5 ho5 hb5 hk5; have HO5 := Lib.hid ho5; have HB5 := Lib.hid hb5; have HK5 := Lib.hid hk5; clear ho5 hb5 hk5))
          go_ret2
          exact HrdPost.mk (by rw [HEQ.out]) (by rw [HEQ.out]; exact HO5.out) (HBA.out.trans HB5.out) (HKA.out.trans HK5.out)
        · rw [hau] at c5 HEQ
          have HOA := Lib.hid (HO1.out.al (.cells #[.int .i64 h.cu.ev, .int .i64 tm, .int .i64 (tm + h.cu.le), .bool false] 65))
          have HKA := Lib.hid (HKT.out.alloc (.cells #[.int .i64 h.cu.ev, .int .i64 tm, .int .i64 (tm + h.cu.le), .bool false] 65))
          have HBA := Lib.hid (HBb.out.alloc (Nat.le_trans hbs (by omega)) (.cells #[.int .i64 h.cu.ev, .int .i64 tm, .int .i64 (tm + h.cu.le), .bool false] 65))
          clear hau
          go_wp2_with (first | (go_at_call 40; refine HFR.out.mono ?_; rintro e w0 ⟨rfl, rfl⟩) | (at_builtin; go_loud (refine wpList_pushK (A := w1.heap.size + 1) (W := w1.alloc (.cells #[.int .i64 h.cu.ev, .int .i64 tm, .int .i64 (tm + h.cu.le), .bool false] 65)) (v := .slice ao L cap) rfl _ _ 61 rfl slEvt rfl rfl ⟨h.cu.ev, tm, tm + h.cu.le, false, false⟩ rfl rfl rfl HOA.out (by simp) (by have := HLN.out; omega) (by simp; omega) ?_); intro v5 w5 ho5 hb5 hk5; have HO5 := Lib.hid ho5; have HB5 := Lib.hid hb5; have HK5 := Lib.hid hk5; clear ho5 hb5 hk5))
          go_ret2
          exact HrdPost.mk (by rw [HEQ.out]) (by rw [HEQ.out]; exact HO5.out) (HBA.out.trans HB5.out) (HKA.out.trans HK5.out)
    by_cases hk2 : h.cu.ki = 2
    · have HEQ := Lib.hid (hearR_in_none hk2 HE2.out)
      go_wp2
      go_ret2
      exact HrdPost.mk (by rw [HEQ.out]) (by rw [HEQ.out]; exact HO1.out) HBb.out HKT.out
    by_cases hk3 : h.cu.ki = 3
    · have HEQ := Lib.hid (hearR_can_none hk3 HE2.out)
      go_wp2_with (at_builtin; go_loud (refine wpList_pushK (W := w1) (v := .slice ao L cap) rfl _ _ 61 rfl slEvt rfl rfl ⟨h.cu.ev, 0, 0, false, true⟩ rfl rfl rfl HO1.out rfl (by have := HLN.out; omega) (by omega) ?_); intro v5 w5 ho5 hb5 hk5; have HO5 := Lib.hid ho5; have HB5 := Lib.hid hb5; have HK5 := Lib.hid hk5; clear ho5 hb5 hk5)
      go_ret2
      exact HrdPost.mk (by rw [HEQ.out]) (by rw [HEQ.out]; exact HO5.out) (HBb.out.trans HB5.out) (HKT.out.trans HK5.out)
    · have HEQ := Lib.hid (hear_other (l := l) hk1 hk2 hk3)
      go_wp2
      go_ret2
      exact HrdPost.mk (by rw [HEQ.out]) (by rw [HEQ.out]; exact HO1.out) HBb.out HKT.out
  · have hjl : j < l.length := (List.getElem?_eq_some_iff.1 hj).1
    have hjz : (j : Int) < (l.length : Int) := by omega
    have hj0 : (0 : Int) ≤ (j : Int) := by omega
    have hj1 : ¬ (j : Int) < 0 := by omega
    obtain ⟨hgid, hgbe, hgen⟩ := HOK.out g (List.mem_of_getElem? hj)
    have hne : l ≠ [] := fun e => by rw [e] at hj; simp at hj
    obtain ⟨gb, cap', hv, hg1, hg2, hg3, hg4, hgc, hgf⟩ := Own.getk encV_len HO1.out hne
    simp only [Value.slice.injEq] at hv
    obtain ⟨rfl, rfl, rfl⟩ := hv
    have k1 : w1.cell? ⟨gb, j * 4 + 1, none⟩ = some (.int .i64 g.be) := hgc j g 1 _ hj rfl
    have k2 : w1.cell? ⟨gb, j * 4 + 2, none⟩ = some (.int .i64 (enV g)) := hgc j g 2 _ hj rfl
    have k3 : w1.cell? ⟨gb, j * 4 + 3, none⟩ = some (.bool g.ca) := hgc j g 3 _ hj rfl
    have f2 := hgf (j * 4 + 2)
    have f3 := hgf (j * 4 + 3)
    rw [← HIX.out] at e1
    subst e1
    have HJ := Lib.hid hj
    have HE2 := Lib.hid e2
    have HGI := Lib.hid hgi
    clear hgc hgf e2 hgi hj
    by_cases hk1 : h.cu.ki = 1
    · have HEQ : Hid (hear1 l h = (l, false)) := Lib.hid (by rw [hearR_out hk1, any_id, HE2.out]; rfl)
      go_wp2
      go_ret2
      exact HrdPost.mk (by rw [HEQ.out]) (by rw [HEQ.out]; exact HO1.out) HBb.out HKT.out
    by_cases hk2 : h.cu.ki = 2
    · have e3 := hearR_in HD.out hk2 HE2.out HJ.out HGI.out
      rw [← HTM.out] at e3
      cases hca : g.ca
      · rw [hca] at k3
        cases hop : g.op
        · have e4 : enV g = g.en := by unfold enV; rw [hop]; rfl
          rw [e4] at k2
          have hno : ¬ g.en = -4611686018427387904 := by omega
          clear e4
          by_cases hen : g.en ≤ tm
          · have HEQ : Hid (hear1 l h = (l, false)) := Lib.hid (by rw [e3]; simp [hop, hen])
            clear e3 hca hop
            go_wp2
            go_ret2
            exact HrdPost.mk (by rw [HEQ.out]) (by rw [HEQ.out]; exact HO1.out) HBb.out HKT.out
          · have HEQ : Hid (hear1 l h = (l.set j { g with en := tm, op := false, ca := decide (tm ≤ g.be) }, true)) := Lib.hid (by rw [e3]; simp [hca, hop, hen])
            have HSV := Lib.hid (setV HO1.out HJ.out tm (decide (tm ≤ g.be)))
            clear e3 hca hop
            go_wp2
            go_ret2
            obtain ⟨t1, t2, t3⟩ := HSV.out
            exact HrdPost.mk (by rw [HEQ.out]) (by rw [HEQ.out]; exact t1) (HBb.out.trans t2) (HKT.out.trans t3)
        · have e4 : enV g = -4611686018427387904 := by unfold enV; rw [hop]; rfl
          rw [e4] at k2
          clear e4
          have HEQ : Hid (hear1 l h = (l.set j { g with en := tm, op := false, ca := decide (tm ≤ g.be) }, true)) := Lib.hid (by rw [e3]; simp [hca, hop])
          have HSV := Lib.hid (setV HO1.out HJ.out tm (decide (tm ≤ g.be)))
          clear e3 hca hop
          go_wp2
          go_ret2
          obtain ⟨t1, t2, t3⟩ := HSV.out
          exact HrdPost.mk (by rw [HEQ.out]) (by rw [HEQ.out]; exact t1) (HBb.out.trans t2) (HKT.out.trans t3)
      · rw [hca] at k3
        have HEQ : Hid (hear1 l h = (l, false)) := Lib.hid (by rw [e3]; simp [hca])
        clear e3 hca
        go_wp2
        go_ret2
        exact HrdPost.mk (by rw [HEQ.out]) (by rw [HEQ.out]; exact HO1.out) HBb.out HKT.out
    by_cases hk3 : h.cu.ki = 3
    · have e3 := hearR_can HD.out hk3 HE2.out HJ.out HGI.out
      have HE3 := Lib.hid e3
      clear e3
      rw [hk3] at c0
      have hund : undef = Value.tuple #[] := rfl
      go_upto_region 21 with (fail)
      go_cut [116] (fun s w4 => s = .bool (g.ca || decide (g.be ≤ h.at_)) ∧ ∃ k, w4 = w1.drewN k)
      case first =>
        cases hca : g.ca
        · rw [hca] at k3
          have HCA := Lib.hid hca
          clear hca
          go_quiet (fail)
          go_wp2
          go_meet
          exact ⟨by rw [HCA.out]; rfl, _, rfl⟩
        · rw [hca] at k3
          have HCA := Lib.hid hca
          clear hca
          go_quiet (fail)
          go_wp2
          go_meet
          exact ⟨by rw [HCA.out]; rfl, _, rfl⟩
      obtain ⟨rfl, nq, hw3⟩ := hcut
      have hB3 : Below w1.heap.size w1 wc := by rw [hw3]; exact below_drewN (Below.refl _ w1) nq
      have HO3 := Lib.hid (HO1.out.below hB3 (Nat.le_refl _))
      have HB3 := Lib.hid (HBb.out.trans (hB3.mono (Nat.le_trans hbs (by omega))))
      have HK3 := Lib.hid (HKT.out.trans (KeepT.of_below hB3))
      have g3 : wc.cell? ⟨gb, j * 4 + 3, none⟩ = some (.bool g.ca) := by rw [hw3]; exact k3
      have i3 : wc.frozen? ⟨gb, j * 4 + 3, none⟩ = false := by rw [hw3]; exact f3
      clear hund hw3 hB3 d0 c0 c1 c4 c5 k1 k2 k3 f2 f3
      cases hb : (g.ca || decide (g.be ≤ h.at_))
      · have HEQ : Hid (hear1 l h = (l.set j { g with ca := true }, true)) := Lib.hid (by rw [HE3.out, hb]; rfl)
        have HSV := Lib.hid (setC HO3.out HJ.out)
        clear hb
        go_wp2
        go_ret2
        obtain ⟨t1, t2, t3⟩ := HSV.out
        exact HrdPost.mk (by rw [HEQ.out]) (by rw [HEQ.out]; exact t1) (HB3.out.trans t2) (HK3.out.trans t3)
      · have HEQ : Hid (hear1 l h = (l, false)) := Lib.hid (by rw [HE3.out, hb]; rfl)
        clear hb
        go_wp2
        go_ret2
        exact HrdPost.mk (by rw [HEQ.out]) (by rw [HEQ.out]; exact HO3.out) HB3.out HK3.out
    · have HEQ := Lib.hid (hear_other (l := l) hk1 hk2 hk3)
      go_wp2
      go_ret2
      exact HrdPost.mk (by rw [HEQ.out]) (by rw [HEQ.out]; exact HO1.out) HBb.out HKT.out
end Go.Proofs.Ytaknkldbdijkeaa

/- give: the walks. -/
import Derived.Test.YtehbmnkbmgnkfaaGreatDoorB13
import Derived.Test.YtehbmnkbmgnkfaaGreatDoorB10
namespace Go.Proofs.YtehbmnkbmgnkfaaGreatDoor
open Go.RowKit

/-- An answer goes back to an ask. -/
def Day.giveA (D : Day) (j : Nat) (de : Int) (x : Ans) : Day := { D with qu := hpush (bfr D.K) D.qu ⟨D.no + de, true, j, x⟩ }
set_option maxRecDepth 100000 in
set_option maxHeartbeats 4000000 in
theorem giveA_any (w : World) (B : Nat) (A : Adr) (D : Day) (ge j i : Nat) (s : Sto) (x : Ans) (h : PD w B A D) (hn : DNum D) (hj : j < D.ak.length) (hi : (D.K j).ca = i) (hs : D.st[i]? = some s) (hq : D.qu.length ≤ 900000) (hno : 0 ≤ D.no ∧ D.no ≤ 1000000000000000) (hde : 0 ≤ s.ch.de ∧ s.ch.de ≤ 1000000) :
    Calls Tryz.prog 70 #[.pointer (some ⟨A.q, 0, none⟩), .agg #[.int .i64 (ge : Nat), .pointer (some ⟨A.ab j, 0, none⟩)], aggA x] w fun e w' => ∃ A', e = .returned (.tuple #[]) ∧ PD w' B A' (D.giveA j s.ch.de x) ∧ AdrLe A A' D.ak.length ∧ Below B w w' ∧ A'.wv = A.wv := by
  obtain ⟨w2, hw2⟩ : ∃ w2, w2 = (w.alloc (.cells #[.int .i64 (ge : Nat), .pointer (some ⟨A.ab j, 0, none⟩)] 150)).alloc (.cells #[.int .i64 x.ve, .int .i64 x.bo, .int .i64 x.si, .bool x.no, .string x.fr] 141) := ⟨_, rfl⟩
  have hb2 : Below w.heap.size w w2 := by rw [hw2]; exact ((Below.refl _ w).alloc (Nat.le_refl _) _).alloc (by simp) _
  have hp2 := h.below hb2
  have hqb := hp2.qb.2
  have hsb := (hp2.sb hs).2
  have hkk : D.ak[j]? = some (D.K j) := by unfold Day.K; rw [List.getD_eq_getElem?_getD, List.getElem?_eq_getElem hj]; rfl
  have hab := (hp2.ab hkk).2
  have hil : i < D.st.length := (List.getElem?_eq_some_iff.1 hs).1
  have hne : List.range D.st.length ≠ [] := fun e => by rw [List.range_eq_nil] at e; omega
  obtain ⟨g, cap, hsv, hg1, hg2, hg3, hg4, hgc, hgf⟩ := Own.getk (encP_len A.sb) hp2.stores hne
  rw [List.length_range] at hsv
  have q4 : w2.cell? ⟨A.q, 4, none⟩ = some (.slice (some ⟨g, 0, none⟩) D.st.length cap) := by rw [cellF hqb 4 rfl, ← hsv]; rfl
  have q8 : w2.cell? ⟨A.q, 8, none⟩ = some (.int .i64 D.no) := cellF hqb 8 rfl
  have hiz : (i : Int) < (D.st.length : Int) := by omega
  have s0 : w2.cell? ⟨g, i, none⟩ = some (.pointer (some ⟨A.sb i, 0, none⟩)) := by have h := hgc i i 0 _ (by simp [hil]) rfl; simpa using h
  have s2 : w2.cell? ⟨A.sb i, 2, none⟩ = some (.int .i64 s.ch.de) := cellF hsb 2 rfl
  have a0 : w2.cell? ⟨A.ab j, 0, none⟩ = some (.int .i64 (i : Nat)) := by rw [← hi]; exact cellF hab 0 rfl
  have hN0 : w2.heap[w.heap.size]? = some (.cells #[.int .i64 (ge : Nat), .pointer (some ⟨A.ab j, 0, none⟩)] 150 (0, 0)) := by
    rw [hw2, Below.heap_alloc _ _ _ (by simp)]
    exact block_new w _
  have hN1 : w2.heap[w.heap.size + 1]? = some (.cells #[.int .i64 x.ve, .int .i64 x.bo, .int .i64 x.si, .bool x.no, .string x.fr] 141 (0, 0)) := by
    have h0 := block_new (w.alloc (.cells #[.int .i64 (ge : Nat), .pointer (some ⟨A.ab j, 0, none⟩)] 150)) (.cells #[.int .i64 x.ve, .int .i64 x.bo, .int .i64 x.si, .bool x.no, .string x.fr] 141 (0, 0))
    rw [hw2]
    simpa using h0
  have n1 : w2.cell? ⟨w.heap.size, 1, none⟩ = some (.pointer (some ⟨A.ab j, 0, none⟩)) := cellF hN0 1 rfl
  have x0 : w2.cell? ⟨w.heap.size + 1, 0, none⟩ = some (.int .i64 x.ve) := cellF hN1 0 rfl
  have x1 : w2.cell? ⟨w.heap.size + 1, 1, none⟩ = some (.int .i64 x.bo) := cellF hN1 1 rfl
  have x2 : w2.cell? ⟨w.heap.size + 1, 2, none⟩ = some (.int .i64 x.si) := cellF hN1 2 rfl
  have x3 : w2.cell? ⟨w.heap.size + 1, 3, none⟩ = some (.bool x.no) := cellF hN1 3 rfl
  have x4 : w2.cell? ⟨w.heap.size + 1, 4, none⟩ = some (.string x.fr) := cellF hN1 4 rfl
  have hw8 : IntKind.i64.wrap (D.no + s.ch.de) = D.no + s.ch.de := IntWalk.i64_in _ (by omega)
  have hpd := hp2.below (W' := w2.drew) ((Below.refl _ w2).drew)
  have hpu := heapPush_any w2.drew A.q B A.ab D.K A.qv D.qu ⟨D.no + s.ch.de, true, j, x⟩ hpd.queue (by omega) (fun y hy => hpd.askR (by
    rcases List.mem_append.1 hy with h | h
    · exact hn.qu y h
    · simp only [List.mem_singleton] at h
      rw [h]
      exact hj))
  have hEE : (encE A.ab ⟨D.no + s.ch.de, true, j, x⟩).toArray = #[.int .i64 (D.no + s.ch.de), .bool true, .pointer (some ⟨A.ab j, 0, none⟩), .int .i64 x.ve, .int .i64 x.bo, .int .i64 x.si, .bool x.no, .string x.fr] := rfl
  rw [hEE] at hpu
  have HPU := Lib.hid hpu
  have HPD := Lib.hid hpd
  have HB2 := Lib.hid (hb2.mono h.base)
  have HW2 := Lib.hid hw2
  clear hw2 hb2 h hp2 hqb hsb hab hgc hgf hN0 hN1 hpd hpu hEE hkk hi
  go_enter Tryz.func70, Tryz.ntmps70
  go_upto_region 2 with (fail)
  rw [← HW2.out]
  go_still_tail 29, (by kernel_rfl)
  change wpList _ _ _ _ _ w2.drew
  go_wp2_with fail
  refine HPU.out.mono ?_
  rintro e w8 ⟨rfl, v8, hq8, hc8⟩
  have HQ8 := Lib.hid hq8
  have HC8 := Lib.hid hc8
  clear hq8 hc8
  go_wp2_with fail
  ((try simp only [Exit.inBlock, Exit.then]); refine bodyPost_ret (results_none rfl _ _ _) rfl ?_)
  refine ⟨{ A with qv := v8 }, rfl, HPD.out.setQu HQ8.out HC8.out, AdrLe.mk rfl rfl rfl rfl rfl rfl rfl rfl rfl rfl (fun _ _ => rfl), (HB2.out.drew).trans (HC8.out.toBelow HPD.out.queue HPD.out.qb.1), rfl⟩
end Go.Proofs.YtehbmnkbmgnkfaaGreatDoor

/- give to a get: the walk. -/
namespace Go.Proofs.YtehbmnkbmgnkfaaGreatDoor
open Go.RowKit

theorem PD.offGo {W : World} {B : Nat} {A : Adr} {D : Day} (h : PD W B A D) : offB A.q A.gv := by
  obtain ⟨M, h1, h2⟩ := h
  exact OwnM.off h1 h2.go h2.wl (by decide)
/-- A get is answered. -/
def gotS (g : Gtn) (no : Int) (x : Ans) : Gtn := { g with ti := no, ve := x.ve, bo := x.bo, fr := x.fr }
set_option maxRecDepth 100000 in
set_option maxHeartbeats 4000000 in
theorem giveG_any (w : World) (B : Nat) (A : Adr) (D : Day) (ge : Nat) (gt : Gtn) (x : Ans) (h : PD w B A D) (hg : D.go[ge]? = some gt) :
    Calls Tryz.prog 70 #[.pointer (some ⟨A.q, 0, none⟩), .agg #[.int .i64 (ge : Nat), .pointer none], aggA x] w fun e w' => e = .returned (.tuple #[]) ∧ PD w' B A { D with go := D.go.set ge (gotS gt D.no x) } ∧ Below B w w' := by
  obtain ⟨w2, hw2⟩ : ∃ w2, w2 = (w.alloc (.cells #[.int .i64 (ge : Nat), .pointer none] 150)).alloc (.cells #[.int .i64 x.ve, .int .i64 x.bo, .int .i64 x.si, .bool x.no, .string x.fr] 141) := ⟨_, rfl⟩
  have hb2 : Below w.heap.size w w2 := by rw [hw2]; exact ((Below.refl _ w).alloc (Nat.le_refl _) _).alloc (by simp) _
  have hp2 := h.below hb2
  have hqb := hp2.qb.2
  have hne : D.go ≠ [] := fun e => by rw [e] at hg; cases hg
  have hgl : ge < D.go.length := (List.getElem?_eq_some_iff.1 hg).1
  have hown := hp2.gots
  obtain ⟨g, cap, hgv, hg1, hg2, hg3, hg4, hgc, hgf⟩ := Own.getk encN_len hown hne
  have hgw : g < w.heap.size := by
    obtain ⟨g', cap', hgv', -, k2, -⟩ := Own.getk encN_len h.gots hne
    rw [hgv] at hgv'
    simp only [Value.slice.injEq, Option.some.injEq, Addr.mk.injEq, and_true] at hgv'
    obtain ⟨rfl, -, -⟩ := hgv'
    exact k2
  have hgq : ¬ A.q = g := fun e => h.offGo _ _ _ hgv (by show g = A.q; exact e.symm)
  have hgn : ¬ w.heap.size = g := by omega
  have hgm : ¬ w.heap.size + 1 = g := by omega
  have q7 : w2.cell? ⟨A.q, 7, none⟩ = some (.slice (some ⟨g, 0, none⟩) D.go.length cap) := by rw [cellF hqb 7 rfl, ← hgv]; rfl
  have q8 : w2.cell? ⟨A.q, 8, none⟩ = some (.int .i64 D.no) := cellF hqb 8 rfl
  have hiz : (ge : Int) < (D.go.length : Int) := by omega
  have hN0 : w2.heap[w.heap.size]? = some (.cells #[.int .i64 (ge : Nat), .pointer none] 150 (0, 0)) := by
    rw [hw2, Below.heap_alloc _ _ _ (by simp)]
    exact block_new w _
  have hN1 : w2.heap[w.heap.size + 1]? = some (.cells #[.int .i64 x.ve, .int .i64 x.bo, .int .i64 x.si, .bool x.no, .string x.fr] 141 (0, 0)) := by
    have h0 := block_new (w.alloc (.cells #[.int .i64 (ge : Nat), .pointer none] 150)) (.cells #[.int .i64 x.ve, .int .i64 x.bo, .int .i64 x.si, .bool x.no, .string x.fr] 141 (0, 0))
    rw [hw2]
    simpa using h0
  have n0 : w2.cell? ⟨w.heap.size, 0, none⟩ = some (.int .i64 (ge : Nat)) := cellF hN0 0 rfl
  have x0 : w2.cell? ⟨w.heap.size + 1, 0, none⟩ = some (.int .i64 x.ve) := cellF hN1 0 rfl
  have x1 : w2.cell? ⟨w.heap.size + 1, 1, none⟩ = some (.int .i64 x.bo) := cellF hN1 1 rfl
  have x4 : w2.cell? ⟨w.heap.size + 1, 4, none⟩ = some (.string x.fr) := cellF hN1 4 rfl
  have g0 : w2.cell? ⟨g, ge * 5, none⟩ = some (.int .i64 gt.ti) := by have h := hgc ge gt 0 _ hg rfl; simpa using h
  have g1 : w2.cell? ⟨g, ge * 5 + 1, none⟩ = some (.int .i64 gt.ve) := hgc ge gt 1 _ hg rfl
  have g2 : w2.cell? ⟨g, ge * 5 + 2, none⟩ = some (.int .i64 gt.bo) := hgc ge gt 2 _ hg rfl
  have g3 : w2.cell? ⟨g, ge * 5 + 3, none⟩ = some (.string gt.fr) := hgc ge gt 3 _ hg rfl
  have f0 := hgf (ge * 5)
  have f1 := hgf (ge * 5 + 1)
  have f2 := hgf (ge * 5 + 2)
  have f3 := hgf (ge * 5 + 3)
  have HPD := Lib.hid hp2
  have HOW := Lib.hid hown
  have HB2 := Lib.hid (hb2.mono h.base)
  have HW2 := Lib.hid hw2
  clear hw2 hb2 h hp2 hqb hgc hgf hN0 hN1 hown
  go_enter Tryz.func70, Tryz.ntmps70
  go_upto_region 3 with (fail)
  rw [← HW2.out]
  go_quiet (fail)
  go_upto_region 4 with (fail)
  obtain ⟨w3, hw3⟩ : ∃ w3, w3 = w2.drewN nq := ⟨_, rfl⟩
  go_big_region
  have hb3 : Below w2.heap.size w2 (w2.drewN (nq + 1)) := below_drewN (Below.refl _ w2) _
  have hon : Onl g w2 (((((w2.drewN (nq + 1)).setCell ⟨g, ge * 5, none⟩ (.int .i64 D.no)).setCell ⟨g, ge * 5 + 1, none⟩ (.int .i64 x.ve)).setCell ⟨g, ge * 5 + 2, none⟩ (.int .i64 x.bo)).setCell ⟨g, ge * 5 + 3, none⟩ (.string x.fr)) :=
    ((((Onl.of_below hb3).trans (Onl.set g _ _ _)).trans (Onl.set g _ _ _)).trans (Onl.set g _ _ _)).trans (Onl.set g _ _ _)
  have st : ∀ {W : World} {l : List Gtn} {y : Gtn} (k : Nat) (u : Value) (z : Gtn), Own W B 57 5 encN (.slice (some ⟨g, 0, none⟩) D.go.length cap) l → D.go.length = l.length → l[ge]? = some y → k < 5 → encN z = (encN y).set k u →
      Own (W.setCell ⟨g, ge * 5 + k, none⟩ u) B 57 5 encN (.slice (some ⟨g, 0, none⟩) D.go.length cap) (l.set ge z) ∧ D.go.length = (l.set ge z).length ∧ (l.set ge z)[ge]? = some z := fun {W l y} k u z h hn hi hj he =>
    ⟨Own.store encN_len h hn hi hj he, by rw [List.length_set]; exact hn, by rw [List.getElem?_set_self (List.getElem?_eq_some_iff.1 hi).1]⟩
  have ho := HOW.out
  rw [hgv] at ho
  have ho' : Own (w2.drewN (nq + 1)) B 57 5 encN (.slice (some ⟨g, 0, none⟩) D.go.length cap) D.go := ho.drewN _
  obtain ⟨p0, e0, i0⟩ := st 0 (.int .i64 D.no) { gt with ti := D.no } ho' rfl hg (by decide) rfl
  obtain ⟨p1, e1, i1⟩ := st 1 (.int .i64 x.ve) { gt with ti := D.no, ve := x.ve } p0 e0 i0 (by decide) rfl
  obtain ⟨p2, e2, i2⟩ := st 2 (.int .i64 x.bo) { gt with ti := D.no, ve := x.ve, bo := x.bo } p1 e1 i1 (by decide) rfl
  obtain ⟨p3, -, -⟩ := st 3 (.string x.fr) (gotS gt D.no x) p2 e2 i2 (by decide) rfl
  simp only [List.set_set] at p3
  go_wp2_with fail
  go_end0
  refine ⟨rfl, HPD.out.setGo hgv (by rw [hgv]; exact p3) hon hon.size, HB2.out.trans (hon.toBelow HPD.out.base hg1)⟩
end Go.Proofs.YtehbmnkbmgnkfaaGreatDoor

/- versionAt of the program. -/
namespace Go.Proofs.YtehbmnkbmgnkfaaGreatDoor
open Go.RowKit

abbrev aggL (x : Rel) : Value := .agg #[.string x.ke, .int .i64 x.ti, .int .i64 x.si, .bool x.go]
abbrev BkL (w : World) (g : Nat) (x : Rel) : Prop := Bk4 w g 43 (.string x.ke) (.int .i64 x.ti) (.int .i64 x.si) (.bool x.go)
structure RlS (w wr : World) (x : Rel) : Prop where
  bel : Below w.heap.size w wr
  zero : BkL wr w.heap.size default
  out : BkL wr (w.heap.size + 1) x
theorem RlS.start (w : World) : RlS w ((w.alloc (.cells #[.string ⟨#[]⟩, .int .i64 0, .int .i64 0, .bool false] 43)).alloc (.cells #[.string ⟨#[]⟩, .int .i64 0, .int .i64 0, .bool false] 43)) default := by
  refine ⟨((Below.refl _ _).alloc (Nat.le_refl _) _).alloc (by simp) _, ?_, ?_⟩
  · have h : BkL (w.alloc (.cells #[.string ⟨#[]⟩, .int .i64 0, .int .i64 0, .bool false] 43)) w.heap.size default := block_new w _
    exact h.below (B := (w.alloc (.cells #[.string ⟨#[]⟩, .int .i64 0, .int .i64 0, .bool false] 43)).heap.size) ((Below.refl _ _).alloc (Nat.le_refl _) _) (by simp)
  · have e : w.heap.size + 1 = (w.alloc (.cells #[.string ⟨#[]⟩, .int .i64 0, .int .i64 0, .bool false] 43)).heap.size := by simp
    rw [e]
    exact block_new _ _
theorem RlS.al {w wr : World} {x : Rel} (h : RlS w wr x) (z : Obj) : RlS w (wr.alloc z) x :=
  ⟨h.bel.alloc h.bel.size z, h.zero.below ((Below.refl _ _).alloc (Nat.le_refl _) z) h.zero.lt, h.out.below ((Below.refl _ _).alloc (Nat.le_refl _) z) h.out.lt⟩
theorem RlS.st {w wr : World} {x : Rel} (h : RlS w wr x) (y : Rel) : RlS w (set4 wr (w.heap.size + 1) (.string y.ke) (.int .i64 y.ti) (.int .i64 y.si) (.bool y.go)) y :=
  ⟨below_set4 h.bel (Nat.le_succ _) _ _ _ _, h.zero.other (by omega), h.out.set _ _ _ _⟩

set_option maxRecDepth 100000 in
set_option maxHeartbeats 4000000 in
theorem versionAt_any (w : World) (l : List Rel) (v : Value) (k : ByteArray) (t : Int) (hl : Sl w 4 encL v l) :
    Calls Tryz.prog 97 #[v, .string k, .int .i64 t] w fun e w' => e = .returned (.tuple #[aggL (outL l (veO l k t)), .bool (veO l k t).isSome]) ∧ Below w.heap.size w w' := by
  obtain ⟨ao, cap, rfl, hcap, hmax, hnil, hel⟩ := hl
  unfold maxLen at hmax
  have HEL := Lib.hid hel
  clear hel
  have HS0 := Lib.hid (RlS.start w)
  have HVO : Hid (veO l k t = if (outL l (veI l k t l.length)).go = true then none else veI l k t l.length) := Lib.hid rfl
  obtain ⟨V, hV⟩ : ∃ V, V = veO l k t := ⟨_, rfl⟩
  rw [← hV] at HVO ⊢
  clear hV
  obtain ⟨Y, hY⟩ : ∃ Y, Y = outL l V := ⟨_, rfl⟩
  obtain ⟨OB, hOB⟩ : ∃ OB, OB = V.isSome := ⟨_, rfl⟩
  rw [← hY, ← hOB]
  have HY := Lib.hid hY
  have HOB := Lib.hid hOB
  clear hY hOB
  go_enter Tryz.func97, Tryz.ntmps97
  go_wp2
  go_loopg [9, 11, 14] l.length (fun gg s9 _ s14 wr => ∃ kk : Nat, kk ≤ l.length ∧ l.length - kk ≤ gg ∧ s14 = .int .i64 kk ∧ s9 = .bool (veI l k t kk).isSome ∧ Aside (RlS w wr (outL l (veI l k t kk))))
  case atStart => exact ⟨0, Nat.zero_le _, by omega, by go_num, rfl, HS0.out⟩
  case round =>
    obtain ⟨kk, hkk, hg, rfl, rfl, RS⟩ := hrel
    have RS := Lib.hid RS.out
    by_cases hlt : kk < l.length
    · have hltz : (kk : Int) < (l.length : Int) := by omega
      obtain ⟨x, hx⟩ : ∃ x, l[kk]? = some x := ⟨l[kk], by simp [hlt]⟩
      obtain ⟨b, off, rfl, hc⟩ := HEL.out kk x hx
      have hlt0 := World.block_lt_of_cell? w ⟨b, off + kk * 4 + 0, none⟩ (hc 0 _ rfl)
      have BL := RS.out.bel
      have c0 : wr.cell? ⟨b, off + kk * 4, none⟩ = some (.string x.ke) := (BL.cell (p := ⟨b, off + kk * 4 + 0, none⟩) hlt0).trans (hc 0 _ rfl)
      have c1 : wr.cell? ⟨b, off + kk * 4 + 1, none⟩ = some (.int .i64 x.ti) := (BL.cell (p := ⟨b, off + kk * 4 + 1, none⟩) hlt0).trans (hc 1 _ rfl)
      have c2 : wr.cell? ⟨b, off + kk * 4 + 2, none⟩ = some (.int .i64 x.si) := (BL.cell (p := ⟨b, off + kk * 4 + 2, none⟩) hlt0).trans (hc 2 _ rfl)
      have c3 : wr.cell? ⟨b, off + kk * 4 + 3, none⟩ = some (.bool x.go) := (BL.cell (p := ⟨b, off + kk * 4 + 3, none⟩) hlt0).trans (hc 3 _ rfl)
      obtain ⟨y, hy⟩ : ∃ y, y = outL l (veI l k t kk) := ⟨_, rfl⟩
      have HO := Lib.hid RS.out.out
      have HZ := Lib.hid RS.out.zero
      have HNI := Lib.hid (veI_next (k := k) (t := t) hx)
      have HOK : Hid (outL l (some kk) = x) := Lib.hid (by show l.getD kk default = x; exact getD_of hx)
      rw [← hy] at HO
      have HOY := Lib.hid hy
      have hzs := HZ.out.lt
      have hos := HO.out.lt
      obtain ⟨y0, y1, y2, y3⟩ := HO.out.cells
      have yf0 := HO.out.frz 0
      have yf1 := HO.out.frz 1
      have yf2 := HO.out.frz 2
      have yf3 := HO.out.frz 3
      obtain ⟨o, ho⟩ : ∃ o, o = veI l k t kk := ⟨_, rfl⟩
      rw [← ho] at HNI ⊢
      have HOI := Lib.hid ho
      clear hx hc BL hy ho
      have HX1 := Lib.hid (fun z => (RS.out.st x).al z)
      have HX := Lib.hid (RS.out.al (.cells #[.string x.ke, .int .i64 x.ti, .int .i64 x.si, .bool x.go] 43))
      rw [← HOY.out] at HX
      cases hq : (x.ke.toList == k.toList)
      case false =>
        have HN : Hid (veI l k t (kk + 1) = o) := Lib.hid (by rw [HNI.out, hq]; rfl)
        go_wp2
        go_roundg (l.length - (kk + 1))
        case measure => omega
        case rel => exact ⟨kk + 1, by omega, by omega, by go_num, by rw [HN.out], by rw [HN.out, HOI.out, ← HOY.out]; exact HX.out⟩
      case true =>
        by_cases hs : x.ti ≤ t
        · have HN : Hid (veI l k t (kk + 1) = some kk) := Lib.hid (by rw [HNI.out, hq, decide_eq_true hs]; rfl)
          go_wp2
          go_roundg (l.length - (kk + 1))
          case measure => omega
          case rel => exact ⟨kk + 1, by omega, by omega, by go_num, by rw [HN.out]; rfl, by rw [HN.out, HOK.out]; exact HX1.out _⟩
        · have HN : Hid (veI l k t (kk + 1) = o) := Lib.hid (by rw [HNI.out, hq, decide_eq_false hs]; rfl)
          go_wp2
          go_roundg (l.length - (kk + 1))
          case measure => omega
          case rel => exact ⟨kk + 1, by omega, by omega, by go_num, by rw [HN.out], by rw [HN.out, HOI.out, ← HOY.out]; exact HX.out⟩
    · obtain rfl : kk = l.length := by omega
      have hltz : ¬ (l.length : Int) < (l.length : Int) := by omega
      obtain ⟨y, hy⟩ : ∃ y, y = outL l (veI l k t l.length) := ⟨_, rfl⟩
      obtain ⟨o, ho⟩ : ∃ o, o = veI l k t l.length := ⟨_, rfl⟩
      rw [← hy] at RS HVO
      rw [← ho] at HVO ⊢
      have HOY : Hid (y = outL l o) := Lib.hid (by rw [hy, ho])
      have HO := Lib.hid RS.out.out
      have HZ := Lib.hid RS.out.zero
      have HBX := Lib.hid RS.out.bel
      have hzs := HZ.out.lt
      have hos := HO.out.lt
      obtain ⟨y0, y1, y2, y3⟩ := HO.out.cells
      obtain ⟨z0, z1, z2, z3⟩ := HZ.out.cells
      have zf0 := HZ.out.frz 0
      have zf1 := HZ.out.frz 1
      have zf2 := HZ.out.frz 2
      have zf3 := HZ.out.frz 3
      clear hy ho RS
      have RZ : Hid (Y = default → OB = false → (fun (e : Ending) (w' : World) => e = .returned (.tuple #[aggL Y, .bool OB]) ∧ Below w.heap.size w w') (.returned (.tuple #[.agg #[.string ⟨#[]⟩, .int .i64 0, .int .i64 0, .bool false], .bool false])) (set4 wr w.heap.size (.string ⟨#[]⟩) (.int .i64 0) (.int .i64 0) (.bool false))) := Lib.hid (fun h1 h2 => ⟨by rw [h1, h2]; rfl, below_set4 HBX.out (Nat.le_refl _) _ _ _ _⟩)
      cases o
      case none =>
        have hV : V = none := by rw [HVO.out]; split <;> rfl
        have h1 : Y = default := by rw [HY.out, hV]; rfl
        have h2 : OB = false := by rw [HOB.out, hV]; rfl
        have RZ2 := Lib.hid (RZ.out h1 h2)
        clear hV h1 h2 RZ
        go_upto_region 10 with (fail)
        repeat (first | go_values | go_skip | go_guarded | go_step | go_upon)
        exact bodyPost_ret (v := .tuple #[.agg #[.string ⟨#[]⟩, .int .i64 0, .int .i64 0, .bool false], .bool false]) (by simp [results, Tryz.results97, go_sem, z0, z1, z2, z3]) rfl RZ2.out
      case some j =>
        cases hgo : y.go
        case true =>
          have hV : V = none := by rw [HVO.out, hgo]; rfl
          have h1 : Y = default := by rw [HY.out, hV]; rfl
          have h2 : OB = false := by rw [HOB.out, hV]; rfl
          have RZ2 := Lib.hid (RZ.out h1 h2)
          rw [hgo] at y3
          clear hV h1 h2 RZ
          go_upto_region 10 with (fail)
          repeat (first | go_values | go_skip | go_guarded | go_step | go_upon)
          exact bodyPost_ret (v := .tuple #[.agg #[.string ⟨#[]⟩, .int .i64 0, .int .i64 0, .bool false], .bool false]) (by simp [results, Tryz.results97, go_sem, z0, z1, z2, z3]) rfl RZ2.out
        case false =>
          have hV : V = some j := by rw [HVO.out, hgo]; rfl
          have h1 : Y = y := by rw [HY.out, hV, HOY.out]
          have h2 : OB = true := by rw [HOB.out, hV]; rfl
          subst h1
          subst h2
          rw [hgo] at y3
          have ha : Hid (aggL Y = .agg #[.string Y.ke, .int .i64 Y.ti, .int .i64 Y.si, .bool false]) := Lib.hid (by simp [aggL, hgo])
          clear hV RZ HY HOB
          go_upto_region 11 with (fail)
          repeat (first | go_values | go_skip | go_guarded | go_step | go_upon)
          exact bodyPost_ret (v := .tuple #[.agg #[.string Y.ke, .int .i64 Y.ti, .int .i64 Y.si, .bool false], .bool true]) (by simp [results, Tryz.results97, go_sem, z0, z1, z2, z3]) rfl ⟨by rw [ha.out], below_set4 HBX.out (Nat.le_refl _) _ _ _ _⟩
end Go.Proofs.YtehbmnkbmgnkfaaGreatDoor

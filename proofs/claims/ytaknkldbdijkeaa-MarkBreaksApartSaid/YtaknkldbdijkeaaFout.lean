/- A cue that begins a break: the program. -/
import Derived.Test.YtaknkldbdijkeaaFol
import Derived.Test.YtaknkldbdijkeaaOnl
import Derived.Deep.RegionLaw
import Derived.Deep.Upon
namespace Go.Proofs.Ytaknkldbdijkeaa
open Go.RowKit

theorem step_pushK {α : Type} {P : Program} {ops : Array Oper} {o : Oper} {a : Act} {Q : Exit → Act → World → Prop} {K : Act → World → Prop} {X : Prop} (hgd : o.guard = none) (s x : Operand) (t : TypeId)
    (ho : o.op = .call { callee := .builtin .append, args := #[s, x], argTypes := #[t, t] })
    {E : TypeId} {k bytes : Nat} (hT : SlT P t E k bytes) {enc : α → List Value} {base : Nat} {v : Value} {l : List α} {W : World} {C : List Value} (hs : a.eval s = v)
    {A : Nat} (hx : a.eval x = .slice (some ⟨A, 0, none⟩) 1 1)
    (y : α) (hC : enc y = C) (hk : C.length = k) (h1 : C.all Value.oneCell' = true)
    (hown : Own W base E k enc v l) (hA : A = W.heap.size) (hn : (l.length + 1) * bytes ≤ 140737488355328) (hbase : base ≤ W.heap.size)
    (h : ∀ v' w', Own w' base E k enc v' (l ++ [y]) → Below base W w' → KeepT E W w' → K (a.put o.dst v') w') :
    if Region.wanted o (yielded ops a.tmps) = true then Oper.wp P o a (W.alloc (.cells C.toArray E)).drew K Q else X := by
  have hw : Region.wanted o (yielded ops a.tmps) = true := by simp [Region.wanted, hgd]
  rw [if_pos hw]
  obtain ⟨i, z, ht, hi, hz, hsize, hby, hzs, hsz, hb0⟩ := hT
  subst hA
  have hlen : l.length + 1 ≤ 140737488355328 := Nat.le_trans (Nat.le_mul_of_pos_right _ hb0) hn
  refine wp_append_own _ s x t ho base E i z k bytes ht hi hz hsize hby hzs hsz v l.length (l.flatMap enc) hs (World.ownsRow.alloc hown _) ⟨W.heap.size, 0, none⟩ 1 1 C hx (by omega)
    (cell_new_list W C E (0, 0)) (fun u hu => List.all_eq_true.1 h1 u hu) (by unfold maxLen; omega) hn (by show base ≤ (W.alloc _).heap.size; simp; omega) (fun v' w' h2 h3 _ => h v' w' ?_ ?_ ?_)
  · unfold Own
    rw [List.flatMap_append, List.length_append, List.flatMap_singleton, hC]
    exact h2
  · have h3' : (W.alloc (.cells C.toArray E)).grownBy w' v.ownBlock := ⟨h3.os, h3.tape, h3.output, h3.size, h3.block⟩
    exact ((Below.refl _ _).alloc hbase _).grown h3' (by simp; omega) (fun k hk => (World.ownsRow.lt hown k hk).1)
  · intro b c T fr hb hT
    have hlt : b < W.heap.size := (Array.getElem?_eq_some_iff.1 hb).1
    have hb' : (W.alloc (.cells C.toArray E)).heap[b]? = some (.cells c T fr) := by rw [Below.heap_alloc W _ b hlt]; exact hb
    have hsz2 : (W.alloc (.cells C.toArray E)).heap.size = W.heap.size + 1 := by simp
    rw [h3.block b (by show b < (W.alloc (.cells C.toArray E)).heap.size; omega) ?_]
    · exact hb'
    · intro e
      obtain ⟨_, h4⟩ := hown
      rcases h4 with ⟨rfl, _⟩ | ⟨g, cap, cur, rfl, _, hh, _⟩
      · simp [Value.ownBlock] at e
      · simp only [Value.ownBlock, Option.some.injEq] at e
        subst e
        rw [hh] at hb
        simp only [Option.some.injEq, Obj.cells.injEq] at hb
        exact hT hb.2.1.symm

/-- Does a break stand against one that begins? -/
def blk (G : List Evn) (ev tm : Int) : Bool := G.any fun g => (g.id == ev) || (g.op && decide (g.be ≤ tm)) || decide (tm < g.be) || (!g.op && decide (tm < g.en))
def blk1 (g : Evn) (ev tm : Int) : Bool := (g.id == ev) || (g.op && decide (g.be ≤ tm)) || decide (tm < g.be) || (!g.op && decide (tm < g.en))

theorem free_blk {w : World} {b i : Nat} {c : Array Value} {T : TypeId} (h : w.heap[b]? = some (.cells c T (0, 0))) : w.frozen? ⟨b, i, none⟩ = false := by simp [World.frozen?, h]
/-- What a cue that begins a break leaves. -/
def outG (G : List Evn) (cn : Bool) (c : Cue) (tm : Int) : List Evn := if (cn || blk G c.ev tm) = true then G else G ++ [⟨c.ev, tm, tm + c.le, !c.au, false⟩]
def outD (G : List Evn) (cn : Bool) (c : Cue) (tm : Int) : Bool := !(cn || blk G c.ev tm)

set_option maxRecDepth 100000 in
set_option maxHeartbeats 4000000 in
theorem fout_any (w : World) (B P M base n : Nat) (G : List Evn) (can : Int → Bool) (c : Cue) (tm : Int) (h : Fol w B P M base n G can) (hlen : G.length ≤ 1000000000000) (ht : -2000000000000000 ≤ tm ∧ tm ≤ 2000000000000000) (hle : 0 ≤ c.le ∧ c.le ≤ 8589934591) (hev : 0 ≤ c.ev ∧ c.ev ≤ 4294967295) :
    Calls Try.prog 34 #[.pointer (some ⟨P, 0, none⟩), agC c, .int .i64 tm] w (FolPost w B P M base n (outG G (can c.ev) c tm) can (.returned (.bool (outD G (can c.ev) c tm)))) := by
  have HF := Lib.hid h
  obtain ⟨hBP, hBM, hPb, hMb, hbs, v, hblk, hown, hmap⟩ := h
  have hPlt := lt_of_blk hblk
  have hMlt := hmap.lt
  have HA := Lib.hid ((Below.refl w.heap.size w).alloc (Nat.le_refl _) (boxC c))
  have HF1 := Lib.hid (HF.out.below HA.out)
  have hwf : (Lit.int .i64 c.ev).wf = true := by simp [Lit.wf]; exact ⟨by show (-9223372036854775808 : Int) ≤ _; omega, by omega⟩
  have hlk : ∀ k, (Instr.lookup 54 (.map (some M)) (.int .i64 c.ev) false).run Try.prog ((w.alloc (boxC c)).drewN k) = .ok (.bool (can c.ev)) ((w.alloc (boxC c)).drewN k) := fun k => by
    have hm : MapR ((w.alloc (boxC c)).drewN k) M n can := hmap.same (Below.heap_alloc w _ M hMlt)
    exact hm.look _ hwf
  have hP0 : w.cell? ⟨P, 0, none⟩ = some v := by rw [cell_of_block hblk]; rfl
  have hP1 : w.cell? ⟨P, 1, none⟩ = some (.map (some M)) := by rw [cell_of_block hblk]; rfl
  obtain ⟨ki, ev, no, ti, le, au⟩ := c
  simp only at hle hev hlk HA HF1 ⊢
  have hblkd : blk G ev tm = G.any (fun g => blk1 g ev tm) := rfl
  have HBD := Lib.hid hblkd
  obtain ⟨ao, cap, rfl, hcap, hmax, hnil, hel⟩ := hown.sl encG_len
  unfold maxLen at hmax
  obtain ⟨WB, hWB⟩ : ∃ WB, WB = w.alloc (boxC ⟨ki, ev, no, ti, le, au⟩) := ⟨_, rfl⟩
  have HBX : Hid (WB.heap[w.heap.size]? = some (boxC ⟨ki, ev, no, ti, le, au⟩)) := Lib.hid (by rw [hWB]; exact block_new w _)
  have hWs : Hid (WB.heap.size = w.heap.size + 1) := Lib.hid (by rw [hWB]; simp)
  have HWB := Lib.hid hWB
  have HK1 : Hid (KeepF P w WB) := Lib.hid (by rw [hWB]; exact (KeepF.refl P w).alloc _)
  have HB1 : Hid (Below w.heap.size w WB) := Lib.hid (by rw [hWB]; exact HA.out)
  have HF2 : Hid (Fol WB B P M base n G can) := Lib.hid (by rw [hWB]; exact HF1.out)
  have HEL := Lib.hid hel
  have HBB : Hid (B ≤ w.heap.size) := Lib.hid (by omega)
  clear hel hblk hown hmap hWB HA HF1 hblkd HF
  go_enter Try.func34, Try.ntmps34
  go_upto_region 1 with (fail)
  go_cut [15] (fun s15 w2 => s15 = .bool (can ev) ∧ ∃ k, w2 = (w.alloc (boxC ⟨ki, ev, no, ti, le, au⟩)).drewN k)
  case first =>
    go_quiet (fail)
    go_wp2
    go_meet
    exact ⟨rfl, _, rfl⟩
  obtain ⟨rfl, nq, rfl⟩ := hcut
  rw [← HWB.out]
  have hQ0 : WB.cell? ⟨P, 0, none⟩ = some (.slice ao G.length cap) := (HB1.out.cell (p := ⟨P, 0, none⟩) hPlt).trans hP0
  clear hlk hP0 hP1
  cases hc : can ev
  · go_wp2
    go_loopg [21] G.length (fun gg s21 wr => ∃ kk : Nat, kk ≤ G.length ∧ G.length - kk ≤ gg ∧ s21 = .int .i64 kk ∧ Aside (Below WB.heap.size WB wr) ∧ Aside (∀ j x, G[j]? = some x → j < kk → blk1 x ev tm = false))
    case atStart => exact ⟨0, Nat.zero_le _, by omega, rfl, below_drewN (Below.refl _ WB) _, fun j x _ hj => absurd hj (Nat.not_lt_zero _)⟩
    case round =>
      obtain ⟨kk, hkk, hg, rfl, BW, A⟩ := hrel
      have BW := Lib.hid BW.out
      have A := Lib.hid A.out
      by_cases hlt : kk < G.length
      · have hltz : (kk : Int) < (G.length : Int) := by omega
        obtain ⟨x, hx⟩ : ∃ x, G[kk]? = some x := ⟨G[kk], by simp [hlt]⟩
        obtain ⟨b, off, rfl, hcc⟩ := HEL.out kk x hx
        have hlt0 : b < WB.heap.size := by have := World.block_lt_of_cell? w _ (hcc 0 _ rfl); rw [hWs.out]; exact Nat.lt_succ_of_lt this
        have toW : ∀ o u, w.cell? ⟨b, o, none⟩ = some u → wr.cell? ⟨b, o, none⟩ = some u := fun o u hu => by
          refine (BW.out.cell (p := ⟨b, o, none⟩) hlt0).trans ((HB1.out.cell (p := ⟨b, o, none⟩) (World.block_lt_of_cell? w _ hu)).trans hu)
        have c0 : wr.cell? ⟨b, off + kk * 4, none⟩ = some (.int .i64 x.id) := toW _ _ (by have h := hcc 0 _ rfl; simpa using h)
        have c1 : wr.cell? ⟨b, off + kk * 4 + 1, none⟩ = some (.int .i64 x.be) := toW _ _ (hcc 1 _ rfl)
        have c2 : wr.cell? ⟨b, off + kk * 4 + 2, none⟩ = some (.int .i64 x.en) := toW _ _ (hcc 2 _ rfl)
        have c3 : wr.cell? ⟨b, off + kk * 4 + 3, none⟩ = some (.bool x.op) := toW _ _ (hcc 3 _ rfl)
        have hbx : wr.heap[w.heap.size]? = some (boxC ⟨ki, ev, no, ti, le, au⟩) := by rw [BW.out.block _ (by rw [hWs.out]; omega)]; exact HBX.out
        have hbl := lt_of_blk hbx
        have ce : wr.cell? ⟨w.heap.size, 1, none⟩ = some (.int .i64 ev) := by rw [cell_of_block hbx]; rfl
        have HX : Hid (G[kk]? = some x) := hx
        have hq : Hid (blk1 x ev tm = ((x.id == ev) || (x.op && decide (x.be ≤ tm)) || decide (tm < x.be) || (!x.op && decide (tm < x.en)))) := Lib.hid rfl
        clear hx hcc toW hbx
        obtain ⟨id, be, en, op, ca⟩ := x
        simp only at c0 c1 c2 c3 hq
        obtain ⟨wx, hwx⟩ : ∃ wx, wx = wr.alloc (.cells #[.int .i64 id, .int .i64 be, .int .i64 en, .bool op] 60) := ⟨_, rfl⟩
        have HWX := Lib.hid hwx
        clear hwx
        go_upto_region 6 with (fail)
        go_cut [56] (fun s56 w2 => s56 = .bool (blk1 ⟨id, be, en, op, ca⟩ ev tm) ∧ w2 = wx)
        case first =>
          have HR := hq
          clear hq
          by_cases q1 : id = ev
          · subst q1
            have hr : Hid (blk1 ⟨id, be, en, op, ca⟩ id tm = true) := Lib.hid (by rw [HR.out]; simp)
            clear HR
            go_wp2
            go_meet
            exact ⟨by rw [hr.out], HWX.out.symm⟩
          · by_cases q3 : tm < be
            · have hr : Hid (blk1 ⟨id, be, en, op, ca⟩ ev tm = true) := Lib.hid (by rw [HR.out]; simp [q3])
              have q2 : ¬ be ≤ tm := by omega
              clear HR
              cases op
              · go_wp2
                go_meet
                exact ⟨by rw [hr.out], HWX.out.symm⟩
              · go_wp2
                go_meet
                exact ⟨by rw [hr.out], HWX.out.symm⟩
            · have q2 : be ≤ tm := by omega
              cases op
              · have hr : Hid (blk1 ⟨id, be, en, false, ca⟩ ev tm = decide (tm < en)) := Lib.hid (by rw [HR.out]; simp [q1, q3])
                clear HR
                go_wp2
                go_meet
                exact ⟨by rw [hr.out]; simp [q1], HWX.out.symm⟩
              · have hr : Hid (blk1 ⟨id, be, en, true, ca⟩ ev tm = true) := Lib.hid (by rw [HR.out]; simp [q2])
                clear HR
                go_wp2
                go_meet
                exact ⟨by rw [hr.out], HWX.out.symm⟩
        obtain ⟨rfl, rfl⟩ := hcut
        have HBW2 : Hid (Below WB.heap.size WB wc) := Lib.hid (by rw [HWX.out]; exact BW.out.alloc (BW.out.size) _)
        clear c0 c1 c2 c3 ce hq HWX
        cases hb1 : blk1 ⟨id, be, en, op, ca⟩ ev tm
        · have HB1' := Lib.hid hb1
          clear hb1
          go_wp2
          go_roundg (G.length - (kk + 1))
          case measure => omega
          case rel =>
            refine ⟨kk + 1, by omega, by omega, by go_num, HBW2.out, (show Aside _ from fun j y hy hj => ?_)⟩
            by_cases e : j = kk
            · subst e
              have := HX.out.symm.trans hy
              simp at this; subst this; exact HB1'.out
            · exact A.out j y hy (by omega)
        · have hv : Hid (blk G ev tm = true) := Lib.hid (by rw [HBD.out]; exact List.any_eq_true.2 ⟨_, List.mem_of_getElem? HX.out, hb1⟩)
          clear hb1
          go_wp2
          go_ret
          have hwsz : w.heap.size ≤ WB.heap.size := by rw [hWs.out]; omega
          refine FolPost.mk (ret_bool (by unfold outD; rw [hv.out]; rfl)) ?_ ((HB1.out.mono HBB.out).trans (HBW2.out.mono (by omega))) ?_
          · unfold outG
            rw [hv.out, Bool.or_true, if_pos rfl]
            exact HF2.out.below HBW2.out
          · exact HK1.out.below HBW2.out
      · obtain rfl : kk = G.length := by omega
        have hltz : ¬ (G.length : Int) < (G.length : Int) := by omega
        have hv : Hid (blk G ev tm = false) := Lib.hid (by
          rw [HBD.out, List.any_eq_false]
          intro x hx
          obtain ⟨j, hj, rfl⟩ := List.mem_iff_getElem.1 hx
          rw [A.out j _ (List.getElem?_eq_getElem hj) hj]
          simp)
        have HF3 := Lib.hid (HF2.out.below BW.out)
        obtain ⟨_, _, _, _, hbs3, v3, hblk3, hown3, hmap3⟩ := HF3.out
        obtain ⟨ao3, L3, cap3, rfl⟩ := Own.slv encG_len hown3
        have hbx : wr.heap[w.heap.size]? = some (boxC ⟨ki, ev, no, ti, le, au⟩) := by rw [BW.out.block _ (by rw [hWs.out]; omega)]; exact HBX.out
        have c1 : wr.cell? ⟨w.heap.size, 1, none⟩ = some (.int .i64 ev) := by rw [cell_of_block hbx]; rfl
        have c4 : wr.cell? ⟨w.heap.size, 4, none⟩ = some (.int .i64 le) := by rw [cell_of_block hbx]; rfl
        have c5 : wr.cell? ⟨w.heap.size, 5, none⟩ = some (.bool au) := by rw [cell_of_block hbx]; rfl
        have p0 : wr.cell? ⟨P, 0, none⟩ = some (.slice ao3 L3 cap3) := by rw [cell_of_block hblk3]; rfl
        have f0 : wr.frozen? ⟨P, 0, none⟩ = false := by simp [World.frozen?, hblk3]
        have hwr : IntKind.i64.wrap (tm + le) = tm + le := IntWalk.i64_in _ (by omega)
        have hPr := lt_of_blk hblk3
        have HBK := Lib.hid hblk3
        have HOW := Lib.hid hown3
        have HMP := Lib.hid hmap3
        have hln := Lib.hid hlen
        clear hbx hblk3 hown3 hmap3 hlen hnil hcap hmax
        have HKT : Hid (KeepT 60 WB wr) := Lib.hid (KeepT.of_below BW.out)
        have HKW := Lib.hid (HK1.out.below BW.out)
        have HBW := Lib.hid ((HB1.out.mono HBB.out).trans (BW.out.mono (by rw [hWs.out]; omega)))
        have hbs4 : base ≤ wr.heap.size := hbs3
        obtain ⟨OUT, hOUT⟩ : ∃ l, l = outG G false ⟨ki, ev, no, ti, le, au⟩ tm := ⟨_, rfl⟩
        have HOUT : Hid (OUT = G ++ [⟨ev, tm, tm + le, !au, false⟩]) := Lib.hid (by rw [hOUT]; unfold outG; rw [hv.out]; rfl)
        have HOD : Hid (outD G false ⟨ki, ev, no, ti, le, au⟩ tm = true) := Lib.hid (by unfold outD; rw [hv.out]; rfl)
        have HOE := Lib.hid hOUT
        clear hOUT
        go_upto_region 9 with (fail)
        go_region_law (refine step_pushK rfl _ _ 55 rfl slGap rfl rfl ⟨ev, tm, tm + le, !au, false⟩ rfl rfl rfl HOW.out rfl (by have := hln.out; omega) hbs4 ?_; intro v5 w5 ho5 hb5 hk5; rw [← HOUT.out] at ho5; obtain ⟨ao5, L5, cap5, rfl⟩ := Own.slv encG_len ho5; have HO5 := Lib.hid ho5; have HB5 := Lib.hid hb5; have HK5 := Lib.hid hk5; have hblk5 := hk5 _ _ _ _ HBK.out (by decide); have hc5 : w5.cell? ⟨P, 0, none⟩ = some (.slice ao3 L3 cap3) := (cell_of_block hblk5).trans rfl; have hf5 := free_blk (i := 0) hblk5; have HBLK5 := Lib.hid hblk5; clear ho5 hb5 hk5 hblk5)
        all_goals
          go_wp2
          go_ret
          obtain ⟨r1, r2, r3⟩ := HF3.out.push HB5.out HK5.out HO5.out
          exact FolPost.mk (ret_bool HOD.out.symm) (by rw [← HOE.out]; exact r1) (HBW.out.trans r2) (HKW.out.trans r3)
  · go_wp2
    go_ret
    refine FolPost.mk (ret_bool (by unfold outD; rw [Bool.true_or]; rfl)) ?_ (below_drewN (HB1.out.mono HBB.out) _) ?_
    · unfold outG
      rw [Bool.true_or, if_pos rfl]
      exact HF2.out.below (below_drewN (Below.refl _ WB) nq)
    · exact HK1.out.below (below_drewN (Below.refl _ WB) nq)
end Go.Proofs.Ytaknkldbdijkeaa

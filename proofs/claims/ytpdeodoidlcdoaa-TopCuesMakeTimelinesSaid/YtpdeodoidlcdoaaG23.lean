/- A break is taken away, and its event cancelled: the program. -/
import Derived.Test.YtpdeodoidlcdoaaG22
import Derived.Test.YtpdeodoidlcdoaaG06
import Derived.Deep.RegionLaw
import Derived.Deep.Upon
import Derived.StillTailTactics
import Derived.Test.YtpdeodoidlcdoaaG07
import Derived.Test.YtpdeodoidlcdoaaG05
namespace Go.Proofs.Ytpdeodoidlcdoaa
open Go.RowKit

theorem Fol.map {w w1 : World} {B P M base n : Nat} {G : List Evn} {can can2 : Int → Bool} (h : Fol w B P M base n G can) (hg : w.grownBy w1 (some M)) (hm : MapR w1 M (n + 1) can2) : Fol w1 B P M base (n + 1) G can2 ∧ Below B w w1 ∧ KeepF P w w1 := by
  have hne := h.ne
  obtain ⟨h1, h2, h3, h4, h5, v, h6, h7, h8⟩ := h
  have hsz := hg.size
  have hlt := World.ownsRow.lt h7
  refine ⟨⟨h1, h2, h3, h4, by omega, v, ?_, ?_, hm⟩, (Below.refl B w).grown hg (by omega) (fun k hk => by simp only [Option.some.injEq] at hk; omega), (KeepF.refl P w).map h8.blk hg⟩
  · rw [hg.block P (lt_of_blk h6) (fun e => hne (by simpa using e))]
    exact h6
  · obtain ⟨q1, q2⟩ := h7
    refine ⟨q1, ?_⟩
    rcases q2 with q2 | ⟨g, cap, cur, rfl, q3, q4, q5⟩
    · exact Or.inl q2
    · exact Or.inr ⟨g, cap, cur, rfl, q3, by rw [hg.block g (hlt g rfl).2 (fun e => by simp only [Option.some.injEq] at e; omega)]; exact q4, q5⟩

theorem Fol.blkP {w : World} {B P M base n : Nat} {G : List Evn} {can : Int → Bool} (h : Fol w B P M base n G can) : ∃ v, w.heap[P]? = some (.cells #[v, .map (some M)] 75 (0, 0)) := by
  obtain ⟨h1, h2, h3, h4, h5, v, h6, h7, h8⟩ := h
  exact ⟨v, h6⟩
theorem free_bl {w : World} {b i : Nat} {c : Array Value} {T : TypeId} (h : w.heap[b]? = some (.cells c T (0, 0))) : w.frozen? ⟨b, i, none⟩ = false := by simp [World.frozen?, h]
set_option maxRecDepth 100000 in
set_option maxHeartbeats 4000000 in
theorem frem_any (w : World) (B P M base n : Nat) (G : List Evn) (can : Int → Bool) (j : Nat) (g : Evn) (h : Fol w B P M base n G can) (hj : G[j]? = some g) (hn : n < maxLen) (hid : 0 ≤ g.id ∧ g.id ≤ 4294967295) :
    Calls Try.prog 37 #[.pointer (some ⟨P, 0, none⟩), .int .i64 j] w (FolPost w B P M base (n + 1) (G.eraseIdx j) (fun d => (d == g.id) || can d) (.returned (.tuple #[]))) := by
  have HF := Lib.hid h
  obtain ⟨hBP, hBM, hPb, hMb, hbs, v, hblk, hown, hmap⟩ := h
  have hjl : j < G.length := (List.getElem?_eq_some_iff.1 hj).1
  have hjz : (j : Int) < (G.length : Int) := by omega
  have hPlt := lt_of_blk hblk
  have hne : G ≠ [] := fun e => by rw [e] at hj; simp at hj
  obtain ⟨gb, cap, rfl, hg1, hg2, hg3, hg4, hgc, hgf⟩ := Own.getk encG_len hown hne
  unfold maxLen at hg4
  have c0 : w.cell? ⟨gb, j * 4, none⟩ = some (.int .i64 g.id) := by have h := hgc _ g 0 _ hj rfl; simpa using h
  have hwf : (Lit.int .i64 g.id).wf = true := by simp [Lit.wf]; exact ⟨by show (-9223372036854775808 : Int) ≤ _; omega, by omega⟩
  have hP0 : w.cell? ⟨P, 0, none⟩ = some (.slice (some ⟨gb, 0, none⟩) G.length cap) := (cell_of_block hblk).trans rfl
  have hP1 : w.cell? ⟨P, 1, none⟩ = some (.map (some M)) := (cell_of_block hblk).trans rfl
  obtain ⟨w1, hr, hm1, hg1'⟩ := MapR.put (w := w.drew) (hmap.same rfl) hn g.id hwf
  have hFD : Fol w.drew B P M base n G can := HF.out.below ((Below.refl _ w).drew)
  obtain ⟨q1, q2, q3⟩ := hFD.map hg1' hm1
  have HF1 := Lib.hid q1
  have HB1 := Lib.hid (((Below.refl B w).drew).trans q2)
  have HK1 := Lib.hid (((KeepF.refl P w).below ((Below.refl _ w).drew)).trans q3)
  have p0 : w1.cell? ⟨P, 0, none⟩ = some (.slice (some ⟨gb, 0, none⟩) G.length cap) := by
    have h1 := q3 P
    obtain ⟨_, _, _, _, _, v1, hb1, ho1, _⟩ := q1
    have e := hg1'.block P hPlt (fun e => HF.out.ne (by simpa using e))
    have e2 : w1.heap[P]? = w.heap[P]? := e
    rw [cell_of_block (e2.trans hblk)]; rfl
  have hDL := delG_any w1 base G (.slice (some ⟨gb, 0, none⟩) G.length cap) (by
    obtain ⟨_, _, _, _, _, v1, hb1, ho1, _⟩ := q1
    have e := hg1'.block P hPlt (fun e => HF.out.ne (by simpa using e))
    have e2 : w1.heap[P]? = w.heap[P]? := e
    have e3 := (e2.trans hblk).symm.trans hb1
    simp at e3
    rw [e3]; exact ho1) j hjl
  have HDL := Lib.hid hDL
  clear hm1 hg1' q1 q2 q3 hFD hDL
  have hHJ := Lib.hid hj
  clear hgc hown hj hmap hblk
  go_enter Try.func37, Try.ntmps37
  go_upto_region 0 with (fail)
  go_still_tail 12, (by kernel_rfl)
  change wpList _ _ _ _ _ w.drew
  go_wp2_with (go_at_call 49; refine HDL.out.mono ?_; rintro e w2 ⟨v2, rfl, ho2, hb2, hk2⟩; obtain ⟨a2, L2, cp2, rfl⟩ := Own.slv encG_len ho2; have HR := Lib.hid (HF1.out.push hb2 hk2 ho2); obtain ⟨v1, hbk1⟩ := HF1.out.blkP; have hbk2 := hk2 _ _ _ _ hbk1 (by decide); have d0 := (cell_of_block (i := 0) hbk2).trans rfl; have e0 := free_bl (i := 0) hbk2; clear ho2 hb2 hk2 hbk1 hbk2)
  go_end0
  obtain ⟨r1, r2, r3⟩ := HR.out
  exact FolPost.mk rfl r1 (HB1.out.trans r2) (HK1.out.trans r3)
end Go.Proofs.Ytpdeodoidlcdoaa

/- A cue is followed: the program. -/
namespace Go.Proofs.Ytpdeodoidlcdoaa
open Go.RowKit

theorem fcl_any (x : Evn) (hb : Nat) (ev : Int) (w : World) (hc : w.cell? ⟨hb, 2, none⟩ = some (.int .i64 ev)) (hlt : hb < w.heap.size) :
    Calls Try.prog 36 #[.agg #[.int .i64 x.id, .int .i64 x.be, .int .i64 x.en, .bool x.op], .pointer (some ⟨hb, 0, none⟩)] w fun e w' => e = .returned (.bool (isId ev x)) ∧ Below w.heap.size w w' := by
  have HB := Lib.hid ((Below.refl w.heap.size w).alloc (Nat.le_refl _) (.cells #[.int .i64 x.id, .int .i64 x.be, .int .i64 x.en, .bool x.op] 78))
  have hv : Hid (isId ev x = (x.id == ev)) := Lib.hid rfl
  generalize isId ev x = r at hv ⊢
  go_enter Try.func36, Try.ntmps36
  go_wp2
  go_ret
  exact ⟨ret_bool hv.out.symm, HB.out⟩

theorem gidx_any (w : World) (hb : Nat) (ev : Int) (G : List Evn) (v : Value) (hv : Sl w 4 encG v G) (hc : w.cell? ⟨hb, 2, none⟩ = some (.int .i64 ev)) (hlt : hb < w.heap.size) :
    Calls Try.prog 35 #[v, .func (.func 36) #[] #[.pointer (some ⟨hb, 0, none⟩)]] w fun e w' => e = .returned (.int .i64 (fidxV (isId ev) G)) ∧ Below w.heap.size w w' := by
  refine idxV 36 #[.pointer (some ⟨hb, 0, none⟩)] (isId ev) w G v hv (enters_of Try.func36 (by kernel_rfl) rfl) (fun W x _ hB => ?_)
  exact fcl_any x hb ev W ((hB.cell (p := ⟨hb, 2, none⟩) hlt).trans hc) (Nat.lt_of_lt_of_le hlt hB.size)

theorem Fol.to {w : World} {B P M base n m : Nat} {G G2 : List Evn} {can can2 : Int → Bool} (h : Fol w B P M base n G can) (hn : n ≤ m) (hG : G2 = G) (hc : ∀ x, can2 x = can x) : Fol w B P M base m G2 can2 := by
  subst hG
  obtain ⟨h1, h2, h3, h4, h5, v, h6, h7, h8⟩ := h
  exact ⟨h1, h2, h3, h4, h5, v, h6, h7, (h8.mono hn).congr (fun x => (hc x).symm)⟩
/-- A break of the follower gets its end. -/
theorem Fol.setEnd {w : World} {B P M base n : Nat} {G : List Evn} {can : Int → Bool} {gb cap j : Nat} {g : Evn} {tm : Int} (h : Fol w B P M base n G can) (hv : w.heap[P]? = some (.cells #[.slice (some ⟨gb, 0, none⟩) G.length cap, .map (some M)] 75 (0, 0))) (hj : G[j]? = some g) :
    Fol ((w.setCell ⟨gb, j * 4 + 2, none⟩ (.int .i64 tm)).setCell ⟨gb, j * 4 + 3, none⟩ (.bool false)) B P M base n (G.set j { g with en := tm, op := false }) can ∧ Below B w ((w.setCell ⟨gb, j * 4 + 2, none⟩ (.int .i64 tm)).setCell ⟨gb, j * 4 + 3, none⟩ (.bool false)) ∧ KeepF P w ((w.setCell ⟨gb, j * 4 + 2, none⟩ (.int .i64 tm)).setCell ⟨gb, j * 4 + 3, none⟩ (.bool false)) := by
  have hne := h.ne
  obtain ⟨h1, h2, h3, h4, h5, v, h6, h7, h8⟩ := h
  have e3 := h6.symm.trans hv
  simp at e3
  subst e3
  have hlt := (World.ownsRow.lt h7 gb rfl).1
  have s1 := Own.store (i := j) (j := 2) (x := g) (y := { g with en := tm }) (u := .int .i64 tm) encG_len h7 rfl hj (by decide) rfl
  have hj2 : (G.set j { g with en := tm })[j]? = some { g with en := tm } := by
    rw [List.getElem?_set_self (List.getElem?_eq_some_iff.1 hj).1]
  have s1' : Own (w.setCell ⟨gb, j * 4 + 2, none⟩ (.int .i64 tm)) base 78 4 encG (.slice (some ⟨gb, 0, none⟩) (G.set j { g with en := tm }).length cap) (G.set j { g with en := tm }) := by rw [List.length_set]; exact s1
  have s2 := Own.store (i := j) (j := 3) (x := { g with en := tm }) (y := { g with en := tm, op := false }) (u := .bool false) encG_len s1' rfl hj2 (by decide) rfl
  rw [List.set_set, List.length_set] at s2
  obtain ⟨cur, hcur⟩ := Own.blk h7
  obtain ⟨cur2, hcur2⟩ := Own.blk s1'
  refine ⟨⟨h1, h2, h3, h4, by simp; omega, _, ?_, s2, h8.same ?_⟩, ((Below.refl B w).setCell (by show B ≤ gb; omega) _).setCell (by show B ≤ gb; omega) _, ((KeepF.refl P w).setOwn hcur _).setOwn hcur2 _⟩
  · rw [Below.heap_setCell _ _ _ P (by show P ≠ gb; omega), Below.heap_setCell _ _ _ P (by show P ≠ gb; omega)]
    exact hv
  · rw [Below.heap_setCell _ _ _ M (by show M ≠ gb; omega), Below.heap_setCell _ _ _ M (by show M ≠ gb; omega)]
end Go.Proofs.Ytpdeodoidlcdoaa

/- A cue is followed, the walk: the program. -/
namespace Go.Proofs.Ytpdeodoidlcdoaa
open Go.RowKit

theorem wf_ev {ev : Int} (hev : 0 ≤ ev ∧ ev ≤ 4294967295) : (Lit.int .i64 ev).wf = true := by simp [Lit.wf]; exact ⟨by show (-9223372036854775808 : Int) ≤ _; omega, by omega⟩
set_option maxRecDepth 100000 in
set_option maxHeartbeats 4000000 in
theorem follow_any (w : World) (B P M base n : Nat) (l : List Evn) (h : Hrd) (hF : Fol w B P M base n (gapsE l) (canE l)) (hd : idsE l) (hlen : l.length ≤ 1000000000000) (hok : ∀ e, e ∈ l → okE e) (hh : okH h) (hn : n < maxLen) :
    Calls Try.prog 20 #[.pointer (some ⟨P, 0, none⟩), agH h.at_ h.cu] w (FolPost w B P M base (n + 1) (gapsE (hear1 l h).1) (canE (hear1 l h).1) (.returned (.bool (hear1 l h).2))) := by
  have HFL := Lib.hid hF
  have HN := Lib.hid hn
  have hgl : (gapsE l).length ≤ l.length := List.length_filter_le _ _
  have HOK := Lib.hid hok
  have HD := Lib.hid hd
  have hbd := whole_bnd hh
  obtain ⟨hat, hki, hev, hti, hle⟩ := hh
  have HB0 := Lib.hid ((Below.refl w.heap.size w).alloc (Nat.le_refl _) (boxH h.at_ h.cu))
  have HBX := Lib.hid (block_new w (boxH h.at_ h.cu))
  have HK0 := Lib.hid ((KeepF.refl P w).alloc (boxH h.at_ h.cu))
  have HF0 := Lib.hid (hF.below HB0.out)
  have hBs : B ≤ w.heap.size := by obtain ⟨h1, _, h3, _, h5, _⟩ := hF; omega
  have HWH := Lib.hid (fun W => whole_any h.at_ h.cu W hat hti)
  obtain ⟨tm, htm⟩ : ∃ tm, tm = wholeZ h.at_ h.cu.ti h.cu.no := ⟨_, rfl⟩
  have HTM := Lib.hid htm
  rw [← htm] at hbd
  have hWs : Hid ((w.alloc (boxH h.at_ h.cu)).heap.size = w.heap.size + 1) := Lib.hid (by simp)
  clear hF hd hok htm hn
  go_enter Try.func20, Try.ntmps20
  go_upto_region 2 with (go_at_call 33; refine (HWH.out _).mono ?_; rintro e w1 ⟨rfl, hb1⟩; rw [← HTM.out]; have HB1 := Lib.hid hb1; have HX1 := Lib.hid ((hb1.block _ (by rw [hWs.out]; omega)).trans HBX.out); clear hb1)
  have HF1 := Lib.hid (HF0.out.below HB1.out)
  have HK1 := Lib.hid (HK0.out.below HB1.out)
  have HBW := Lib.hid ((HB0.out.mono hBs).trans (HB1.out.mono (by rw [hWs.out]; omega)))
  have hx1 := HX1.out
  have hbl := lt_of_blk hx1
  have c0 : w1.cell? ⟨w.heap.size, 0, none⟩ = some (.int .i64 h.at_) := (cell_of_block hx1).trans rfl
  have c1 : w1.cell? ⟨w.heap.size, 1, none⟩ = some (.int .i64 h.cu.ki) := (cell_of_block hx1).trans rfl
  have c2 : w1.cell? ⟨w.heap.size, 2, none⟩ = some (.int .i64 h.cu.ev) := (cell_of_block hx1).trans rfl
  have c3 : w1.cell? ⟨w.heap.size, 3, none⟩ = some (.bool h.cu.no) := (cell_of_block hx1).trans rfl
  have c4 : w1.cell? ⟨w.heap.size, 4, none⟩ = some (.int .i64 h.cu.ti) := (cell_of_block hx1).trans rfl
  have c5 : w1.cell? ⟨w.heap.size, 5, none⟩ = some (.int .i64 h.cu.le) := (cell_of_block hx1).trans rfl
  have c6 : w1.cell? ⟨w.heap.size, 6, none⟩ = some (.bool h.cu.au) := (cell_of_block hx1).trans rfl
  clear hx1 HBX HF0 HK0 HWH HFL
  by_cases hk1 : h.cu.ki = 1
  · obtain ⟨r1, r2, r3⟩ := hear_out (l := l) hk1
    rw [← HTM.out] at r1 r2
    have HR1 := Lib.hid r1
    have HR2 := Lib.hid r2
    have HR3 := Lib.hid r3
    have hfo := fout_any w1 B P M base n (gapsE l) (canE l) h.cu tm HF1.out (by omega) hbd hle hev
    unfold agC at hfo
    rw [hk1] at hfo
    have HFO := Lib.hid hfo
    clear hfo
    clear r1 r2 r3
    go_wp2_with (go_at_call 34; refine HFO.out.mono ?_; rintro e w2 ⟨rfl, hf2, hb2, hk2⟩; have HF2 := Lib.hid hf2; have HB2 := Lib.hid hb2; have HK2 := Lib.hid hk2; clear hf2 hb2 hk2)
    go_ret
    exact FolPost.mk (ret_bool HR1.out.symm) (HF2.out.to (by omega) HR2.out HR3.out) (HBW.out.trans HB2.out) (HK1.out.trans HK2.out)
  obtain ⟨v1, hbk1⟩ := HF1.out.blkP
  have hslv : Sl w1 4 encG v1 (gapsE l) := by
    obtain ⟨_, _, _, _, _, v, h6, h7, _⟩ := HF1.out
    have e := hbk1.symm.trans h6
    simp at e
    rw [e]
    exact h7.sl encG_len
  have HI := Lib.hid (gidx_any w1 w.heap.size h.cu.ev (gapsE l) v1 hslv c2 hbl)
  obtain ⟨ao, cap, rfl, hcap, hmax, hnil, hel⟩ := hslv
  have p0 : w1.cell? ⟨P, 0, none⟩ = some (.slice ao (gapsE l).length cap) := (cell_of_block hbk1).trans rfl
  have HBK1 := Lib.hid hbk1
  clear hel hnil hbk1
  obtain ⟨ix, hix⟩ : ∃ ix, ix = fidxV (isId h.cu.ev) (gapsE l) := ⟨_, rfl⟩
  rw [← hix] at HI
  have HIX := Lib.hid hix
  clear hix
  go_upto_region 5 with (go_at_call 35; refine HI.out.mono ?_; rintro e w2 ⟨rfl, hb2⟩; have HB2 := Lib.hid hb2; clear hb2)
  have HF2 := Lib.hid (HF1.out.below HB2.out)
  have HK2 := Lib.hid (HK1.out.below HB2.out)
  have hw1s : B ≤ w1.heap.size := Nat.le_trans hBs (Nat.le_of_lt hbl)
  have HBW2 := Lib.hid (HBW.out.trans (HB2.out.mono hw1s))
  have HX2 := Lib.hid ((HB2.out.block _ hbl).trans HX1.out)
  have HBK2 := Lib.hid ((HB2.out.block _ (lt_of_blk HBK1.out)).trans HBK1.out)
  have hx2 := HX2.out
  have hbl2 := lt_of_blk hx2
  have d0 : w2.cell? ⟨w.heap.size, 0, none⟩ = some (.int .i64 h.at_) := (cell_of_block hx2).trans rfl
  have d1 : w2.cell? ⟨w.heap.size, 1, none⟩ = some (.int .i64 h.cu.ki) := (cell_of_block hx2).trans rfl
  have d2 : w2.cell? ⟨w.heap.size, 2, none⟩ = some (.int .i64 h.cu.ev) := (cell_of_block hx2).trans rfl
  have p2 : w2.cell? ⟨P, 0, none⟩ = some (.slice ao (gapsE l).length cap) := (cell_of_block HBK2.out).trans rfl
  have q2 : w2.cell? ⟨P, 1, none⟩ = some (.map (some M)) := (cell_of_block HBK2.out).trans rfl
  have hP2 := lt_of_blk HBK2.out
  clear hx2 c0 c1 c2 c3 c4 c5 c6 p0 HI HF1 HK1 HBW HX1 HBK1 HB1 HB2 hbl
  have HLKF : Hid (∀ W, Fol W B P M base n (gapsE l) (canE l) → (Instr.lookup 72 (.map (some M)) (.int .i64 h.cu.ev) false).run Try.prog W = .ok (.bool (canE l h.cu.ev)) W) := Lib.hid (fun W hW => by
    obtain ⟨_, _, _, _, _, _, _, _, hm⟩ := hW
    exact hm.look _ (wf_ev hev))
  rcases fidxV_cases (gapsE l) h.cu.ev with ⟨e1, e2⟩ | ⟨j, g, hj, hgi, e1, e2⟩
  · obtain ⟨r1, r2, r3⟩ := hear_none (h := h) HD.out hk1 e2
    obtain ⟨dn, hdn⟩ : ∃ dn, dn = ((h.cu.ki == 3) && !canE l h.cu.ev) := ⟨_, rfl⟩
    rw [← hdn] at r1 r3
    have HR1 := Lib.hid r1
    have HR2 := Lib.hid r2
    have HR3 := Lib.hid r3
    have HDN := Lib.hid hdn
    rw [← HIX.out] at e1
    subst e1
    have HLK : Hid (∀ k, (Instr.lookup 72 (.map (some M)) (.int .i64 h.cu.ev) false).run Try.prog (w2.drewN k) = .ok (.bool (canE l h.cu.ev)) (w2.drewN k)) := Lib.hid (fun k => HLKF.out _ (HF2.out.below (below_drewN (Below.refl _ w2) k)))
    clear r1 r2 r3 hdn e2 HIX
    by_cases hk2 : h.cu.ki = 2
    · rw [hk2] at d1
      have hlk := HLK.out
      have hund : undef = Value.tuple #[] := rfl
      go_upto_region 18 with (fail)
      go_cut [94] (fun s94 w4 => s94 = .bool dn ∧ ∃ k, w4 = w2.drewN k)
      case first =>
        cases hcn : canE l h.cu.ev
        · have hv : Hid (dn = false) := Lib.hid (by rw [HDN.out, hcn]; simp [hk2])
          rw [hcn] at hlk
          go_quiet (fail)
          go_wp2
          go_meet
          exact ⟨by rw [hv.out], _, rfl⟩
        · have hv : Hid (dn = false) := Lib.hid (by rw [HDN.out, hcn]; simp)
          rw [hcn] at hlk
          go_quiet (fail)
          go_wp2
          go_meet
          exact ⟨by rw [hv.out], _, rfl⟩
      obtain ⟨rfl, nq, hw3⟩ := hcut
      have hB3 : Below w2.heap.size w2 wc := by rw [hw3]; exact below_drewN (Below.refl _ w2) nq
      have q3 : wc.cell? ⟨P, 1, none⟩ = some (.map (some M)) := by rw [hw3]; exact q2
      have d3 : wc.cell? ⟨w.heap.size, 2, none⟩ = some (.int .i64 h.cu.ev) := by rw [hw3]; exact d2
      have HF3 := Lib.hid (HF2.out.below hB3)
      have HK3 := Lib.hid (HK2.out.below hB3)
      have HBW3 := Lib.hid (HBW2.out.trans (hB3.mono (Nat.le_trans hBs (Nat.le_of_lt hbl2))))
      clear hund hlk HLK hw3 hB3 d0 d1 d2 p2 q2
      cases dn
      · clear HDN
        go_wp2
        go_ret
        exact FolPost.mk (ret_bool HR1.out.symm) (HF3.out.to (by omega) HR2.out (fun x => (HR3.out x).trans (by simp))) HBW3.out HK3.out
      · obtain ⟨W1, hr, hm1, hg1⟩ := MapR.put (w := wc.drew) (by obtain ⟨_, _, _, _, _, _, _, _, hm⟩ := HF3.out; exact hm) HN.out h.cu.ev (wf_ev hev)
        have HPUT := Lib.hid ((HF3.out.below ((Below.refl _ wc).drew)).map hg1 hm1)
        clear HDN hm1 hg1
        go_upto_region 19 with (fail)
        go_still_tail 7, (by kernel_rfl)
        change wpList _ _ _ _ _ wc.drew
        go_wp2
        go_ret
        obtain ⟨t1, t2, t3⟩ := HPUT.out
        exact FolPost.mk (ret_bool HR1.out.symm) (t1.to (Nat.le_refl _) HR2.out (fun x => (HR3.out x).trans (by simp))) (HBW3.out.drew.trans t2) ((HK3.out.below ((Below.refl _ _).drew)).trans t3)
    by_cases hk3 : h.cu.ki = 3
    · rw [hk3] at d1
      have hlk := HLK.out
      have hund : undef = Value.tuple #[] := rfl
      go_upto_region 18 with (fail)
      go_cut [94] (fun s94 w4 => s94 = .bool dn ∧ ∃ k, w4 = w2.drewN k)
      case first =>
        cases hcn : canE l h.cu.ev
        · have hv : Hid (dn = true) := Lib.hid (by rw [HDN.out, hcn]; simp [hk3])
          rw [hcn] at hlk
          go_quiet (fail)
          go_wp2
          go_meet
          exact ⟨by rw [hv.out], _, rfl⟩
        · have hv : Hid (dn = false) := Lib.hid (by rw [HDN.out, hcn]; simp)
          rw [hcn] at hlk
          go_quiet (fail)
          go_wp2
          go_meet
          exact ⟨by rw [hv.out], _, rfl⟩
      obtain ⟨rfl, nq, hw3⟩ := hcut
      have hB3 : Below w2.heap.size w2 wc := by rw [hw3]; exact below_drewN (Below.refl _ w2) nq
      have q3 : wc.cell? ⟨P, 1, none⟩ = some (.map (some M)) := by rw [hw3]; exact q2
      have d3 : wc.cell? ⟨w.heap.size, 2, none⟩ = some (.int .i64 h.cu.ev) := by rw [hw3]; exact d2
      have HF3 := Lib.hid (HF2.out.below hB3)
      have HK3 := Lib.hid (HK2.out.below hB3)
      have HBW3 := Lib.hid (HBW2.out.trans (hB3.mono (Nat.le_trans hBs (Nat.le_of_lt hbl2))))
      clear hund hlk HLK hw3 hB3 d0 d1 d2 p2 q2
      cases dn
      · clear HDN
        go_wp2
        go_ret
        exact FolPost.mk (ret_bool HR1.out.symm) (HF3.out.to (by omega) HR2.out (fun x => (HR3.out x).trans (by simp))) HBW3.out HK3.out
      · obtain ⟨W1, hr, hm1, hg1⟩ := MapR.put (w := wc.drew) (by obtain ⟨_, _, _, _, _, _, _, _, hm⟩ := HF3.out; exact hm) HN.out h.cu.ev (wf_ev hev)
        have HPUT := Lib.hid ((HF3.out.below ((Below.refl _ wc).drew)).map hg1 hm1)
        clear HDN hm1 hg1
        go_upto_region 19 with (fail)
        go_still_tail 7, (by kernel_rfl)
        change wpList _ _ _ _ _ wc.drew
        go_wp2
        go_ret
        obtain ⟨t1, t2, t3⟩ := HPUT.out
        exact FolPost.mk (ret_bool HR1.out.symm) (t1.to (Nat.le_refl _) HR2.out (fun x => (HR3.out x).trans (by simp))) (HBW3.out.drew.trans t2) ((HK3.out.below ((Below.refl _ _).drew)).trans t3)
    · have hlk := HLK.out
      have hund : undef = Value.tuple #[] := rfl
      go_upto_region 18 with (fail)
      go_cut [94] (fun s94 w4 => s94 = .bool dn ∧ ∃ k, w4 = w2.drewN k)
      case first =>
        cases hcn : canE l h.cu.ev
        · have hv : Hid (dn = false) := Lib.hid (by rw [HDN.out, hcn]; simp [hk3])
          rw [hcn] at hlk
          go_quiet (fail)
          go_wp2
          go_meet
          exact ⟨by rw [hv.out], _, rfl⟩
        · have hv : Hid (dn = false) := Lib.hid (by rw [HDN.out, hcn]; simp)
          rw [hcn] at hlk
          go_quiet (fail)
          go_wp2
          go_meet
          exact ⟨by rw [hv.out], _, rfl⟩
      obtain ⟨rfl, nq, hw3⟩ := hcut
      have hB3 : Below w2.heap.size w2 wc := by rw [hw3]; exact below_drewN (Below.refl _ w2) nq
      have q3 : wc.cell? ⟨P, 1, none⟩ = some (.map (some M)) := by rw [hw3]; exact q2
      have d3 : wc.cell? ⟨w.heap.size, 2, none⟩ = some (.int .i64 h.cu.ev) := by rw [hw3]; exact d2
      have HF3 := Lib.hid (HF2.out.below hB3)
      have HK3 := Lib.hid (HK2.out.below hB3)
      have HBW3 := Lib.hid (HBW2.out.trans (hB3.mono (Nat.le_trans hBs (Nat.le_of_lt hbl2))))
      clear hund hlk HLK hw3 hB3 d0 d1 d2 p2 q2
      cases dn
      · clear HDN
        go_wp2
        go_ret
        exact FolPost.mk (ret_bool HR1.out.symm) (HF3.out.to (by omega) HR2.out (fun x => (HR3.out x).trans (by simp))) HBW3.out HK3.out
      · obtain ⟨W1, hr, hm1, hg1⟩ := MapR.put (w := wc.drew) (by obtain ⟨_, _, _, _, _, _, _, _, hm⟩ := HF3.out; exact hm) HN.out h.cu.ev (wf_ev hev)
        have HPUT := Lib.hid ((HF3.out.below ((Below.refl _ wc).drew)).map hg1 hm1)
        clear HDN hm1 hg1
        go_upto_region 19 with (fail)
        go_still_tail 7, (by kernel_rfl)
        change wpList _ _ _ _ _ wc.drew
        go_wp2
        go_ret
        obtain ⟨t1, t2, t3⟩ := HPUT.out
        exact FolPost.mk (ret_bool HR1.out.symm) (t1.to (Nat.le_refl _) HR2.out (fun x => (HR3.out x).trans (by simp))) (HBW3.out.drew.trans t2) ((HK3.out.below ((Below.refl _ _).drew)).trans t3)
  · have hjl : j < (gapsE l).length := (List.getElem?_eq_some_iff.1 hj).1
    have hjz : (j : Int) < ((gapsE l).length : Int) := by omega
    obtain ⟨hgid, hgbe, hgen⟩ := HOK.out g (List.mem_filter.1 (List.mem_of_getElem? hj)).1
    have hne : gapsE l ≠ [] := fun e => by rw [e] at hj; simp at hj
    have hown : Own w2 base 78 4 encG (.slice ao (gapsE l).length cap) (gapsE l) := by
      obtain ⟨_, _, _, _, _, v, h6, h7, _⟩ := HF2.out
      have e := HBK2.out.symm.trans h6
      simp at e
      rw [e]; exact h7
    obtain ⟨gb, cap', hv, hg1, hg2, hg3, hg4, hgc, hgf⟩ := Own.getk encG_len hown hne
    simp only [Value.slice.injEq, true_and] at hv
    obtain ⟨rfl, rfl⟩ := hv
    have k1 : w2.cell? ⟨gb, j * 4 + 1, none⟩ = some (.int .i64 g.be) := hgc j g 1 _ hj rfl
    have k2 : w2.cell? ⟨gb, j * 4 + 2, none⟩ = some (.int .i64 g.en) := hgc j g 2 _ hj rfl
    have k3 : w2.cell? ⟨gb, j * 4 + 3, none⟩ = some (.bool g.op) := hgc j g 3 _ hj rfl
    have f2 := hgf (j * 4 + 2)
    have f3 := hgf (j * 4 + 3)
    rw [← HIX.out] at e1
    subst e1
    have HJ := Lib.hid hj
    have HE2 := Lib.hid e2
    have HGI := Lib.hid hgi
    clear hgc hgf hown e2 hgi hj
    by_cases hk2 : h.cu.ki = 2
    · obtain ⟨r1, r2⟩ := hear_end HD.out hk2 HE2.out HJ.out HGI.out
      rw [← HTM.out] at r1 r2
      have HR := Lib.hid r1
      have HRR := Lib.hid r2
      have HREM := Lib.hid (frem_any w2 B P M base n (gapsE l) (canE l) j g HF2.out HJ.out HN.out hgid)
      clear r1 r2
      rw [hk2] at d1
      cases hop : g.op
      · rw [hop] at k3
        by_cases hen : g.en ≤ tm
        · have HEQ := Lib.hid (HR.out ⟨hop, hen⟩)
          clear hop
          go_wp2
          go_ret
          exact FolPost.mk (ret_bool (by rw [HEQ.out])) (HF2.out.to (Nat.le_succ _) (by rw [HEQ.out]) (fun x => by rw [HEQ.out])) HBW2.out HK2.out
        · have hnq : ¬ (g.op = false ∧ g.en ≤ tm) := fun h => hen h.2
          clear hop
          by_cases hb : g.be < tm
          · obtain ⟨s1, s2⟩ := (HRR.out hnq).2.1 hb
            have HR1 := Lib.hid (HRR.out hnq).1
            have HR2 := Lib.hid s1
            have HR3 := Lib.hid s2
            have HSE := Lib.hid (HF2.out.setEnd (tm := tm) HBK2.out HJ.out)
            have hb' : tm > g.be := hb
            clear s1 s2 hnq
            go_wp2
            go_ret
            obtain ⟨t1, t2, t3⟩ := HSE.out
            exact FolPost.mk (ret_bool HR1.out.symm) (t1.to (Nat.le_succ _) HR2.out HR3.out) (HBW2.out.trans t2) (HK2.out.trans t3)
          · obtain ⟨s1, s2⟩ := (HRR.out hnq).2.2 (by omega)
            have HR1 := Lib.hid (HRR.out hnq).1
            have HR2 := Lib.hid s1
            have HR3 := Lib.hid s2
            clear s1 s2 hnq
            go_wp2_with (go_at_call 37; refine HREM.out.mono ?_; rintro e w5 ⟨rfl, hf5, hb5, hk5⟩; have HF5 := Lib.hid hf5; have HB5 := Lib.hid hb5; have HK5 := Lib.hid hk5; clear hf5 hb5 hk5)
            go_ret
            exact FolPost.mk (ret_bool HR1.out.symm) (HF5.out.to (Nat.le_refl _) HR2.out HR3.out) (HBW2.out.trans HB5.out) (HK2.out.trans HK5.out)
      · rw [hop] at k3
        have hnq : ¬ (g.op = false ∧ g.en ≤ tm) := fun h => by rw [hop] at h; cases h.1
        clear hop
        by_cases hb : g.be < tm
        · obtain ⟨s1, s2⟩ := (HRR.out hnq).2.1 hb
          have HR1 := Lib.hid (HRR.out hnq).1
          have HR2 := Lib.hid s1
          have HR3 := Lib.hid s2
          have HSE := Lib.hid (HF2.out.setEnd (tm := tm) HBK2.out HJ.out)
          have hb' : tm > g.be := hb
          clear s1 s2 hnq
          go_wp2
          go_ret
          obtain ⟨t1, t2, t3⟩ := HSE.out
          exact FolPost.mk (ret_bool HR1.out.symm) (t1.to (Nat.le_succ _) HR2.out HR3.out) (HBW2.out.trans t2) (HK2.out.trans t3)
        · obtain ⟨s1, s2⟩ := (HRR.out hnq).2.2 (by omega)
          have HR1 := Lib.hid (HRR.out hnq).1
          have HR2 := Lib.hid s1
          have HR3 := Lib.hid s2
          clear s1 s2 hnq
          go_wp2_with (go_at_call 37; refine HREM.out.mono ?_; rintro e w5 ⟨rfl, hf5, hb5, hk5⟩; have HF5 := Lib.hid hf5; have HB5 := Lib.hid hb5; have HK5 := Lib.hid hk5; clear hf5 hb5 hk5)
          go_ret
          exact FolPost.mk (ret_bool HR1.out.symm) (HF5.out.to (Nat.le_refl _) HR2.out HR3.out) (HBW2.out.trans HB5.out) (HK2.out.trans HK5.out)
    by_cases hk3 : h.cu.ki = 3
    · obtain ⟨r1, r2⟩ := hear_cancel (h := h) HD.out hk3 HE2.out HJ.out HGI.out
      have HR := Lib.hid r1
      have HRR := Lib.hid r2
      clear r1 r2
      rw [hk3] at d1
      have hund : undef = Value.tuple #[] := rfl
      go_upto_region 14 with (fail)
      go_cut [90] (fun s90 w4 => s90 = .bool (decide (g.be ≤ h.at_)) ∧ ∃ k, w4 = w2.drewN k)
      case first =>
        go_quiet (fail)
        go_wp2
        go_meet
        exact ⟨rfl, _, rfl⟩
      obtain ⟨rfl, nq, hw3⟩ := hcut
      have hB3 : Below w2.heap.size w2 wc := by rw [hw3]; exact below_drewN (Below.refl _ w2) nq
      have HF3 := Lib.hid (HF2.out.below hB3)
      have HK3 := Lib.hid (HK2.out.below hB3)
      have HBW3 := Lib.hid (HBW2.out.trans (hB3.mono (Nat.le_trans hBs (Nat.le_of_lt hbl2))))
      have HREM := Lib.hid (frem_any wc B P M base n (gapsE l) (canE l) j g HF3.out HJ.out HN.out hgid)
      clear hund hw3 hB3 d0 d1 d2 p2 q2 k1 k2 k3 f2 f3
      by_cases hb : g.be ≤ h.at_
      · have HEQ := Lib.hid (HR.out hb)
        go_wp2
        go_ret
        exact FolPost.mk (ret_bool (by rw [HEQ.out])) (HF3.out.to (Nat.le_succ _) (by rw [HEQ.out]) (fun x => by rw [HEQ.out])) HBW3.out HK3.out
      · obtain ⟨s0, s1, s2⟩ := HRR.out hb
        have HR1 := Lib.hid s0
        have HR2 := Lib.hid s1
        have HR3 := Lib.hid s2
        clear s0 s1 s2
        go_wp2_with (go_at_call 37; refine HREM.out.mono ?_; rintro e w5 ⟨rfl, hf5, hb5, hk5⟩; have HF5 := Lib.hid hf5; have HB5 := Lib.hid hb5; have HK5 := Lib.hid hk5; clear hf5 hb5 hk5)
        go_ret
        exact FolPost.mk (ret_bool HR1.out.symm) (HF5.out.to (Nat.le_refl _) HR2.out HR3.out) (HBW3.out.trans HB5.out) (HK3.out.trans HK5.out)
    · have HEQ := Lib.hid (hear_other (l := l) hk1 hk2 hk3)
      have hlk : ∀ k, (Instr.lookup 72 (.map (some M)) (.int .i64 h.cu.ev) false).run Try.prog (w2.drewN k) = .ok (.bool (canE l h.cu.ev)) (w2.drewN k) := fun k => HLKF.out _ (HF2.out.below (below_drewN (Below.refl _ w2) k))
      have hund : undef = Value.tuple #[] := rfl
      go_upto_region 18 with (fail)
      go_cut [94] (fun s94 w4 => s94 = .bool false ∧ ∃ k, w4 = w2.drewN k)
      case first =>
        go_quiet (fail)
        go_wp2
        go_meet
        exact ⟨rfl, _, rfl⟩
      obtain ⟨rfl, nq, hw3⟩ := hcut
      have hB3 : Below w2.heap.size w2 wc := by rw [hw3]; exact below_drewN (Below.refl _ w2) nq
      have HF3 := Lib.hid (HF2.out.below hB3)
      have HK3 := Lib.hid (HK2.out.below hB3)
      have HBW3 := Lib.hid (HBW2.out.trans (hB3.mono (Nat.le_trans hBs (Nat.le_of_lt hbl2))))
      clear hund hw3 hB3 d0 d1 d2 p2 q2 k1 k2 k3 f2 f3 hlk
      go_wp2
      go_ret
      exact FolPost.mk (ret_bool (by rw [HEQ.out])) (HF3.out.to (Nat.le_succ _) (by rw [HEQ.out]) (fun x => by rw [HEQ.out])) HBW3.out HK3.out
end Go.Proofs.Ytpdeodoidlcdoaa

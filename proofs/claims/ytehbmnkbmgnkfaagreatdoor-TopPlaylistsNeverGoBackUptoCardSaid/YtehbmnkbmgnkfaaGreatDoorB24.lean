/- back: the walk. -/
import Derived.Test.YtehbmnkbmgnkfaaGreatDoorB18
import Derived.Test.YtehbmnkbmgnkfaaGreatDoorB23
import Derived.Test.YtehbmnkbmgnkfaaGreatDoorB15
import Derived.Deep.CutBlock
import Derived.Test.YtehbmnkbmgnkfaaGreatDoorB16
namespace Go.Proofs.YtehbmnkbmgnkfaaGreatDoor
open Go.RowKit

/-- So many have been given the answer. -/
structure BacS (w : World) (B : Nat) (A : Adr) (D : Day) (L : List Wtr) (x : Ans) (W : World) (m : Nat) : Prop where
  ex : ∃ A', PD W B A' ((L.take m).foldl (fun D f => D.giveD f x) D) ∧ AdrLe A A' D.ak.length ∧ A'.wv = A.wv
  bel : Below B w W
theorem gives_next {D : Day} {L : List Wtr} {x : Ans} {m : Nat} {f : Wtr} (h : L[m]? = some f) : (L.take (m + 1)).foldl (fun D f => D.giveD f x) D = ((L.take m).foldl (fun D f => D.giveD f x) D).giveD f x := by
  rw [List.take_add_one, h, List.foldl_append]
  rfl
set_option maxRecDepth 100000 in
set_option maxHeartbeats 4000000 in
theorem back_any (w0 w : World) (B : Nat) (A : Adr) (D : Day) (C : List Cch) (R : List Crl) (E : List Rel) (P : List Pur) (n j : Nat) (x : Ans) (h : PD w B A D) (hF : Fit n D) (hn : n ≤ 310000) (hjl : j < D.ak.length) (hj : j ∈ (D.S (D.K j).ca).ar) (hx : AFit x) (hE : EnvD w0 B A C R E P) (hw : Below w0.heap.size w0 w) :
    Calls Tryz.prog 67 #[.pointer (some ⟨A.q, 0, none⟩), .pointer (some ⟨A.ab j, 0, none⟩), aggA x] w fun e w' => ∃ A', e = .returned (.tuple #[]) ∧ PD w' B A' (D.backD R P j x) ∧ AdrLe A A' D.ak.length ∧ Below B w w' := by
  have hjk := Day.ak_at hjl
  have hkk := hF.kk j _ hjk
  obtain ⟨i, hi⟩ : ∃ i, i = (D.K j).ca := ⟨_, rfl⟩
  rw [← hi] at hj hkk
  obtain ⟨s, hsd⟩ : ∃ s, s = D.S i := ⟨_, rfl⟩
  have hs : D.st[i]? = some s := by rw [hsd]; exact Day.at_ hkk.1
  rw [← hsd] at hj
  obtain ⟨w1, hw1⟩ : ∃ w1, w1 = w.alloc (.cells #[.pointer (some ⟨A.ab j, 0, none⟩)] 139) := ⟨_, rfl⟩
  have hp1 := h.addFr (.cells #[.pointer (some ⟨A.ab j, 0, none⟩)] 139 (0, 0))
  rw [← hw1] at hp1
  have hb1 : Below B w w1 := by rw [hw1]; exact (Below.refl _ w).alloc h.base _
  obtain ⟨A1, hA1⟩ : ∃ A1, A1 = { A with x := A.x ++ [(w.heap.size, Obj.cells #[.pointer (some ⟨A.ab j, 0, none⟩)] 139 (0, 0))] } := ⟨_, rfl⟩
  rw [← hA1] at hp1
  have hsz1 : w1.heap.size = w.heap.size + 1 := by rw [hw1]; simp
  obtain ⟨w2, hw2⟩ : ∃ w2, w2 = w1.alloc (.cells #[.int .i64 x.ve, .int .i64 x.bo, .int .i64 x.si, .bool x.no, .string x.fr] 141) := ⟨_, rfl⟩
  have hp2 := hp1.addFr (.cells #[.int .i64 x.ve, .int .i64 x.bo, .int .i64 x.si, .bool x.no, .string x.fr] 141 (0, 0))
  rw [← hw2] at hp2
  have hb2 : Below B w w2 := by rw [hw2]; exact hb1.alloc hp1.base _
  rw [hsz1] at hp2
  obtain ⟨A2, hA2⟩ : ∃ A2, A2 = { A1 with x := A1.x ++ [(w.heap.size + 1, Obj.cells #[.int .i64 x.ve, .int .i64 x.bo, .int .i64 x.si, .bool x.no, .string x.fr] 141 (0, 0))] } := ⟨_, rfl⟩
  rw [← hA2] at hp2
  have eA : A2.q = A.q ∧ A2.sb = A.sb ∧ A2.ab = A.ab ∧ A2.av = A.av ∧ A2.wv = A.wv ∧ A2.mb = A.mb := by rw [hA2, hA1]; exact ⟨rfl, rfl, rfl, rfl, rfl, rfl⟩
  have hx4 : A2.x[A.x.length]? = some (w.heap.size, Obj.cells #[.pointer (some ⟨A.ab j, 0, none⟩)] 139 (0, 0)) := by rw [hA2, hA1]; simp
  have hx5 : A2.x[A.x.length + 1]? = some (w.heap.size + 1, Obj.cells #[.int .i64 x.ve, .int .i64 x.bo, .int .i64 x.si, .bool x.no, .string x.fr] 141 (0, 0)) := by rw [hA2, hA1]; simp
  have HL3 : Hid (∀ A' : Adr, AdrLe A2 A' D.ak.length → AdrLe A { A' with x := A.x } D.ak.length ∧ A'.x = A2.x) := Lib.hid (by
    intro A' hl
    rw [hA2, hA1] at hl
    exact ⟨⟨hl.q, hl.d0, hl.d1, hl.d2, hl.d3, hl.sv, hl.gv, hl.sb, hl.mb, rfl, hl.ab⟩, by rw [hA2, hA1]; exact hl.x⟩)
  have HXY : Hid (∃ y, A2.x = A.x ++ y) := Lib.hid (by rw [hA2, hA1]; simp only [List.append_assoc]; exact ⟨_, rfl⟩)
  have HE2 : Hid (EnvD w0 B A2 C R E P) := Lib.hid (by rw [hA2, hA1]; exact ⟨hE.le, hE.c, hE.r, hE.e, hE.p, hE.rb, hE.eb⟩)
  have hqb := hp2.qb.2
  rw [eA.1] at hqb
  have hil : i < D.st.length := (List.getElem?_eq_some_iff.1 hs).1
  have hne : List.range D.st.length ≠ [] := fun e => by rw [List.range_eq_nil] at e; omega
  obtain ⟨g, cap, hsv, hg1, hg2, hg3, hg4, hgc, -⟩ := Own.getk (encP_len A2.sb) hp2.stores hne
  rw [List.length_range] at hsv
  have q4 : w2.cell? ⟨A.q, 4, none⟩ = some (.slice (some ⟨g, 0, none⟩) D.st.length cap) := by rw [cellF hqb 4 rfl, ← hsv]; rfl
  have hiz : (i : Int) < (D.st.length : Int) := by omega
  have s0 : w2.cell? ⟨g, i, none⟩ = some (.pointer (some ⟨A.sb i, 0, none⟩)) := by rw [← eA.2.1]; have h := hgc i i 0 _ (by simp [hil]) rfl; simpa using h
  have k4 := hp2.fr hx4
  have x4 := cellF k4 0 (v := .pointer (some ⟨A.ab j, 0, none⟩)) rfl
  have hab2 := (hp2.ab hjk).2
  rw [eA.2.2.1] at hab2
  have a0 : w2.cell? ⟨A.ab j, 0, none⟩ = some (.int .i64 (i : Nat)) := by rw [hi]; exact cellF hab2 0 rfl
  -- behind the loads
  have HW1 := Lib.hid hw1
  have HW2 := Lib.hid hw2
  have HS1 := Lib.hid hsz1
  have HP2 := Lib.hid hp2
  have HB2 := Lib.hid hb2
  have HF := Lib.hid hF
  have HE := Lib.hid hE
  have HW0 := Lib.hid hw
  have HS := Lib.hid hs
  have HX := Lib.hid hx
  have EA := Lib.hid eA
  have HN := Lib.hid hn
  have HJL := Lib.hid hjl
  have HJK := Lib.hid hjk
  have HJ := Lib.hid hj
  have HI := Lib.hid hi
  have HSD := Lib.hid hsd
  have HKK := Lib.hid hkk
  have HX4 := Lib.hid hx4
  have HX5 := Lib.hid hx5
  have HW0B : Hid (∀ W, Below B w W → Below w0.heap.size w0 W) := Lib.hid (fun W hb => HW0.out.trans (hb.mono HE.out.le))
  clear h hp1 hw1 hb1 hp2 hw2 hb2 hF hE hw hs hx hA1 hA2 hx4 hx5 hn hjl hjk hkk hi hsd hne hqb hsv hg1 hg2 hg3 hg4 hgc k4 hab2 eA hsz1 hj
  go_enter Tryz.func67, Tryz.ntmps67
  go_upto_region 1 with (fail)
  rw [← HW1.out, ← HW2.out]
  go_quiet (fail)
  obtain ⟨w3, hw3⟩ : ∃ w3, w3 = w2.drewN nq := ⟨_, rfl⟩
  have hp3 : PD w3 B A2 D := HP2.out.heapEq (by rw [hw3]; rfl)
  have hb3 : Below B w w3 := by rw [hw3]; exact below_drewN HB2.out _
  rw [← hw3]
  clear hw3 q4 s0 x4 a0 hiz
  have hsb3 := (hp3.sb HS.out).2
  rw [EA.out.2.1] at hsb3
  have c6 : w3.cell? ⟨A.sb i, 6, none⟩ = some (A.av i) := by rw [← EA.out.2.2.2.1]; exact cellF hsb3 6 rfl
  have k4 := hp3.fr HX4.out
  have x4 := cellF k4 0 (v := .pointer (some ⟨A.ab j, 0, none⟩)) rfl
  have hoff : offB w.heap.size (A2.av i) := by
    obtain ⟨M, h1, h2⟩ := hp3
    exact OwnM.off h1 (h2.sa i s HS.out) (h2.fx _ _ _ HX4.out) (by unfold rSt rSa; omega)
  have hdel := delA_any w3 B A2 D i j w.heap.size s hp3 HS.out HF.out.num HJ.out (by rw [EA.out.2.2.1]; exact x4) hoff (Nat.le_trans (HF.out.st i s HS.out).ar (by have := HN.out; omega))
  rw [EA.out.2.2.1, EA.out.2.2.2.1] at hdel
  have HDEL := Lib.hid hdel
  have HP3 := Lib.hid hp3
  have HB3 := Lib.hid hb3
  have HSB3 := Lib.hid hsb3
  have hsl : A.sb i < w3.heap.size := World.block_lt_of_cell? w3 _ c6
  have hofs := hp3.offAr HS.out
  rw [EA.out.2.1, EA.out.2.2.2.1] at hofs
  have HOFS := Lib.hid hofs
  have HSL := Lib.hid hsl
  clear hp3 hb3 hsb3 k4 x4 hoff hdel hsl hofs
  go_wp2_with fail
  refine HDEL.out.mono ?_
  rintro e w4 ⟨v4, rfl, ho4, hb4, hk4⟩
  have hsb4 := (hk4 (A.sb i) HSL.out HOFS.out).1.trans HSB3.out
  have hw4s : w3.heap.size ≤ w4.heap.size := hb4.size
  obtain ⟨v0, hv0⟩ : ∃ v, v = A.av i := ⟨_, rfl⟩
  rw [← hv0] at c6
  have c6' : w4.cell? ⟨A.sb i, 6, none⟩ = some v0 := by
    have h := cellF hsb4 6 (v := A2.av i) rfl
    rw [EA.out.2.2.2.1, ← hv0] at h
    exact h
  have f6 := frozF hsb4 6
  have ho0 := HP3.out.asks HS.out
  rw [EA.out.2.2.2.1, ← hv0, EA.out.2.2.1] at ho0
  obtain ⟨ao0, n0, cp0, rfl⟩ := Own.slv (encP_len A.ab) ho0
  obtain ⟨ao4, n4, cp4, rfl⟩ := Own.slv (encP_len A.ab) ho4
  obtain ⟨w5, hw5⟩ : ∃ w5, w5 = w4.setCell ⟨A.sb i, 6, none⟩ (.slice ao4 n4 cp4) := ⟨_, rfl⟩
  have hp5 := HP3.out.setAr HS.out (W' := w4) (v' := .slice ao4 n4 cp4) (l' := s.ar.filter fun o => !decide (o = j)) (by rw [EA.out.2.2.1]; exact ho4) hw4s (by rw [EA.out.2.2.2.1]; exact hk4)
  have hb5 : Below B w w5 := by rw [hw5]; exact (HB3.out.trans hb4).setCell (by rw [← EA.out.2.1]; exact (HP3.out.sb HS.out).1) _
  obtain ⟨A5, hA5⟩ : ∃ A5, A5 = { A2 with av := upF A2.av i (.slice ao4 n4 cp4) } := ⟨_, rfl⟩
  rw [← hA5, EA.out.2.1, ← hw5] at hp5
  have hl5 : AdrLe A2 A5 D.ak.length := by rw [hA5]; exact ⟨rfl, rfl, rfl, rfl, rfl, rfl, rfl, rfl, rfl, rfl, fun _ _ => rfl⟩
  have hs5 : (D.st.set i { s with ar := s.ar.filter fun o => !decide (o = j) })[i]? = some { s with ar := s.ar.filter fun o => !decide (o = j) } := by rw [List.getElem?_set_self (List.getElem?_eq_some_iff.1 HS.out).1]
  have EA5 : Hid (A5.q = A.q ∧ A5.sb = A.sb ∧ A5.ab = A.ab ∧ A5.wv = A.wv ∧ A5.x = A2.x) := Lib.hid (by rw [hA5]; exact ⟨EA.out.1, EA.out.2.1, EA.out.2.2.1, EA.out.2.2.2.2.1, rfl⟩)
  have HV0 := Lib.hid hv0
  have HW5 := Lib.hid hw5
  have HP5 := Lib.hid hp5
  have HB5 := Lib.hid hb5
  have HL5 := Lib.hid hl5
  have HS5 := Lib.hid hs5
  clear ho4 hb4 hk4 hsb4 hw4s ho0 hv0 hw5 hp5 hb5 hl5 hs5 hA5 HDEL c6
  go_upto_region 3 with (fail)
  rw [← HW5.out]
  clear c6' f6
  have hsb5 := (HP5.out.sb HS5.out).2
  rw [EA5.out.2.1] at hsb5
  have c12 : w5.cell? ⟨A.sb i, 12, none⟩ = some (.int .i64 s.ld.bs) := cellF hsb5 12 rfl
  have f12 := frozF hsb5 12
  have k5 := HP5.out.fr (k := A.x.length + 1) (by rw [EA5.out.2.2.2.2]; exact HX5.out)
  have y2 := cellF k5 2 (v := .int .i64 x.si) rfl
  have hwb : IntKind.i64.wrap (s.ld.bs + x.si) = s.ld.bs + x.si := IntWalk.i64_in _ (by
    have h1 := (HF.out.st i s HS.out).bs
    have h2 := HX.out.si
    have h3 := HN.out
    omega)
  obtain ⟨w6, hw6⟩ : ∃ w6, w6 = (w5.setCell ⟨A.sb i, 12, none⟩ (.int .i64 (s.ld.bs + x.si))).drew := ⟨_, rfl⟩
  obtain ⟨D1, hD1⟩ : ∃ D1, D1 = D.setS i (doneS s j x.si) := ⟨_, rfl⟩
  have hp6 : PD w6 B A5 D1 := by
    have h := HP5.out.setSto HS5.out 12 (.int .i64 (s.ld.bs + x.si)) (doneS s j x.si) rfl rfl rfl rfl
    rw [EA5.out.2.1] at h
    have h2 := h.heapEq (W' := w6) (by rw [hw6]; rfl)
    simp only [List.set_set] at h2
    rw [hD1]
    exact h2
  have hb6 : Below B w w6 := by rw [hw6]; exact (HB5.out.setCell (by rw [← EA5.out.2.1]; exact (HP5.out.sb HS5.out).1) _).drew
  have hF1 : Fit (n + 1) D1 := by rw [hD1]; exact HF.out.done HS.out j HX.out
  have hak1 : D1.ak = D.ak := by rw [hD1]; rfl
  have hwa1 : D1.wa = D.wa := by rw [hD1]; rfl
  have hgo1 : D1.go.length = D.go.length := by rw [hD1]; rfl
  have hno1 : D1.no = D.no := by rw [hD1]; rfl
  have hS1 : D1.st[i]? = some (doneS s j x.si) := by rw [hD1]; show (D.st.set i _)[i]? = _; rw [List.getElem?_set_self (List.getElem?_eq_some_iff.1 HS.out).1]
  have HBK : Hid (D.backD R P j x = if (D.K j).kp = true then ((D.wa j).foldl (fun D f => D.giveD f x) D1).keepD R P i (((D.wa j).foldl (fun D f => D.giveD f x) D1).S i) (D.K j).ke x else (D.wa j).foldl (fun D f => D.giveD f x) D1) := Lib.hid (by rw [hD1, HSD.out, HI.out]; rfl)
  have hwf : ∀ f, f ∈ D.wa j → WFit D1 f := fun f hf => (HF.out.waits HJL.out f hf).of (by rw [hak1]) hgo1
  obtain ⟨L, hL⟩ : ∃ L, L = D.wa j := ⟨_, rfl⟩
  have hLn : L.length ≤ n := by rw [hL]; exact HF.out.wa j
  have hwj : D1.wa j = L := by rw [hwa1, hL]
  rw [← hL] at HBK hwf
  have hjk1 : D1.ak[j]? = some (D.K j) := by rw [hak1]; exact HJK.out
  have k4 := hp6.fr (k := A.x.length) (by rw [EA5.out.2.2.2.2]; exact HX4.out)
  have x4 := cellF k4 0 (v := .pointer (some ⟨A.ab j, 0, none⟩)) rfl
  have hab6 := (hp6.ab hjk1).2
  rw [EA5.out.2.2.1] at hab6
  have a5 : w6.cell? ⟨A.ab j, 5, none⟩ = some (A5.wv j) := cellF hab6 5 rfl
  have how := hp6.wait hjk1
  obtain ⟨vw, hvw⟩ : ∃ v, v = A5.wv j := ⟨_, rfl⟩
  rw [← hvw, hwj] at how
  rw [← hvw] at a5
  obtain ⟨ao, cap8, hvs, hcap8, hmax8, hnil8, -⟩ := Sl.own (encW_len A5.ab) how
  subst hvs
  have hL0 : Hid (BacS w B A5 D1 L x w6 0) := Lib.hid ⟨⟨A5, by simpa using hp6, AdrLe.refl _ _, rfl⟩, hb6⟩
  have HW6 := Lib.hid hw6
  have HP6 := Lib.hid hp6
  have HF1 := Lib.hid hF1
  have HWF := Lib.hid hwf
  have HLN := Lib.hid hLn
  have HVW := Lib.hid hvw
  have HWJ := Lib.hid hwj
  have HJK1 := Lib.hid hjk1
  have HAK1 := Lib.hid hak1
  have HS1D := Lib.hid hS1
  have HNO1 := Lib.hid hno1
  have HL := Lib.hid hL
  have hmax8' : L.length ≤ 9223372036854775807 := by have := HN.out; omega
  clear hsb5 k5 hw6 hp6 hb6 hF1 hwf hLn hvw hwj hjk1 hak1 hS1 hwa1 hgo1 hno1 hL k4 hab6 how hmax8 hnil8 hD1
  go_still_tail 11, (by kernel_rfl)
  change wpList _ _ _ _ _ w5.drew
  go_upto_region 4 with (fail)
  rw [← HW6.out]
  clear c12 f12 y2 hwb
  go_wp2_with fail
  clear x4 a5
  go_loopg [8, 44] L.length (fun gg s8 s44 wr => ∃ m : Nat, m ≤ L.length ∧ L.length - m ≤ gg ∧ s44 = .int .i64 m ∧ Aside (BacS w B A5 D1 L x wr m))
  case atStart => exact ⟨0, Nat.zero_le _, by omega, rfl, (show Aside _ from hL0.out)⟩
  case round =>
    obtain ⟨wq, rfl⟩ : ∃ wq : World, wq = wr := ⟨_, rfl⟩
    obtain ⟨m, hm, hgm, rfl, BS⟩ := hrel
    obtain ⟨A', hpq, hlq, hwv⟩ := BS.out.ex
    have hbq := BS.out.bel
    obtain ⟨Dm, hDm⟩ : ∃ Dm, Dm = (L.take m).foldl (fun D f => D.giveD f x) D1 := ⟨_, rfl⟩
    have hsm := gives_same x (L.take m) D1
    have hFm := HF1.out.gives HX.out (L.take m) (n + 1) D1 (fun f hf => HWF.out f (List.mem_of_mem_take hf))
    rw [← hDm] at hpq hsm hFm
    have hjm : Dm.ak[j]? = some (D.K j) := by rw [hsm.ak]; exact HJK1.out
    by_cases hml : m < L.length
    · have hmz : (m : Int) < (L.length : Int) := by omega
      obtain ⟨f, hf⟩ : ∃ f, L[m]? = some f := ⟨L[m], by simp [hml]⟩
      have how := hpq.wait hjm
      rw [hwv, ← HVW.out, hsm.wa, HWJ.out] at how
      obtain ⟨ao2, cap2, hv2, -, -, -, hel⟩ := Sl.own (encW_len A'.ab) how
      obtain ⟨b, off, hbo, hc⟩ := hel m f hf
      simp only [Value.slice.injEq] at hv2
      obtain ⟨hao, -, hcc⟩ := hv2
      rw [← hao] at hbo
      subst hbo
      have c0 : wq.cell? ⟨b, off + m * 2, none⟩ = some (.int .i64 (f.ge : Nat)) := hc 0 _ rfl
      obtain ⟨po, hpv⟩ : ∃ po : Option Addr, po = (f.ak.map fun j => ⟨A'.ab j, 0, none⟩) := ⟨_, rfl⟩
      have c1 : wq.cell? ⟨b, off + m * 2 + 1, none⟩ = some (.pointer po) := by rw [hpv]; exact hc 1 _ rfl
      obtain ⟨w8, hw8⟩ : ∃ w8, w8 = wq.alloc (.cells #[.int .i64 (f.ge : Nat), .pointer po] 150) := ⟨_, rfl⟩
      have hp8 : PD w8 B A' Dm := hpq.below (by rw [hw8]; exact (Below.refl _ wq).alloc (Nat.le_refl _) _)
      have hb8 : Below B w w8 := by rw [hw8]; exact hbq.alloc hpq.base _
      have hnb : w8.heap[wq.heap.size]? = some (.cells #[.int .i64 (f.ge : Nat), .pointer po] 150 (0, 0)) := by rw [hw8]; exact block_new wq _
      have k5 := hp8.fr (k := A.x.length + 1) (by rw [hlq.x, EA5.out.2.2.2.2]; exact HX5.out)
      have hgv := give_wv w8 B A' Dm (n + 1 + (L.take m).length) f x hp8 hFm (by have := HN.out; have := HLN.out; simp; omega) ((HWF.out f (List.mem_of_getElem? hf)).of (by rw [hsm.ak]) hsm.go)
      rw [show A'.q = A.q from hlq.q.trans EA5.out.1] at hgv
      have e : Value.agg (encW A'.ab f).toArray = .agg #[.int .i64 (f.ge : Nat), .pointer po] := by rw [hpv]; rfl
      rw [e] at hgv
      have HNX : Hid ((L.take (m + 1)).foldl (fun D f => D.giveD f x) D1 = Dm.giveD f x) := Lib.hid (by rw [gives_next hf, hDm])
      have HSM := Lib.hid hsm
      have HW8 := Lib.hid hw8
      have HGV := Lib.hid hgv
      have HLQ := Lib.hid hlq
      have HWV := Lib.hid hwv
      have HB8 := Lib.hid hb8
      have HK5 := Lib.hid k5
      have HNB := Lib.hid hnb
      have HGM := Lib.hid (And.intro hgm hml)
      clear hpq hlq hwv hbq hDm hsm hFm hjm hf how hel hc hao hcc hpv hw8 hp8 hb8 hnb k5 hgv e BS hgm hm
      go_upto_region 7 with (fail)
      rw [← HW8.out]
      clear c0 c1
      have b0 := cellF HNB.out 0 (v := .int .i64 (f.ge : Nat)) rfl
      have b1 := cellF HNB.out 1 (v := .pointer po) rfl
      have y0 := cellF HK5.out 0 (v := .int .i64 x.ve) rfl
      have y1 := cellF HK5.out 1 (v := .int .i64 x.bo) rfl
      have y2 := cellF HK5.out 2 (v := .int .i64 x.si) rfl
      have y3 := cellF HK5.out 3 (v := .bool x.no) rfl
      have y4 := cellF HK5.out 4 (v := .string x.fr) rfl
      go_wp2_with fail
      refine HGV.out.mono ?_
      rintro e w9 ⟨A9, rfl, hp9, hl9, hb9, hv9⟩
      have HBS : Hid (BacS w B A5 D1 L x w9 (m + 1)) := Lib.hid ⟨⟨A9, by rw [HNX.out]; exact hp9, HLQ.out.trans hl9 (by rw [HSM.out.ak]; exact Nat.le_refl _), hv9.trans HWV.out⟩, HB8.out.trans hb9⟩
      clear hp9 hl9 hb9 hv9 b0 b1 y0 y1 y2 y3 y4
      go_wp2_with fail
      go_roundg (L.length - (m + 1))
      case measure => have := HGM.out; omega
      case rel => exact ⟨m + 1, by have := HGM.out; omega, by omega, by go_num, (show Aside _ from HBS.out)⟩
    · obtain rfl : m = L.length := by omega
      have hkk := hsm
      rw [List.take_length] at hDm
      have hFl := hFm
      simp only [List.take_length] at hFl
      have hab := (hpq.ab hjm).2
      have eab : A'.ab j = A.ab j := (hlq.ab j (by rw [HAK1.out]; exact HJL.out)).trans (by rw [EA5.out.2.2.1])
      rw [eab] at hab
      have k4 := hpq.fr (k := A.x.length) (by rw [hlq.x, EA5.out.2.2.2.2]; exact HX4.out)
      have x4 := cellF k4 0 (v := .pointer (some ⟨A.ab j, 0, none⟩)) rfl
      have k5 := hpq.fr (k := A.x.length + 1) (by rw [hlq.x, EA5.out.2.2.2.2]; exact HX5.out)
      obtain ⟨kp, hkp⟩ : ∃ kp, kp = (D.K j).kp := ⟨_, rfl⟩
      have a4 : wq.cell? ⟨A.ab j, 4, none⟩ = some (.bool kp) := by rw [hkp]; exact cellF hab 4 rfl
      have a3 : wq.cell? ⟨A.ab j, 3, none⟩ = some (.string (D.K j).ke) := cellF hab 3 rfl
      have hLA : AdrLe A2 A' D.ak.length := HL5.out.trans (by rw [HAK1.out] at hlq; exact hlq) (Nat.le_refl _)
      have hEn := HL3.out A' hLA
      have HPQ := Lib.hid hpq
      have HLA := Lib.hid hLA
      have HEN := Lib.hid hEn
      have HBQ := Lib.hid hbq
      have hSM : Dm.st[i]? = some (doneS s j x.si) := by rw [hsm.st]; exact HS1D.out
      have HSM := Lib.hid hSM
      have HFL := Lib.hid hFl
      rw [← hDm] at HBK
      have HQX : Hid (A'.q = A.q ∧ A'.sb = A.sb) := Lib.hid ⟨hlq.q.trans EA5.out.1, hlq.sb.trans EA5.out.2.1⟩
      have HFX : Hid (∀ (W : World) (D9 : Day), PD W B A' D9 → D.backD R P j x = D9 → PD W B { A' with x := A.x } (D.backD R P j x)) := Lib.hid (fun W D9 h1 h2 => by
        rw [h2]
        obtain ⟨y, hy⟩ := HXY.out
        exact h1.dropFr ⟨y, by rw [HEN.out.2]; exact hy⟩)
      have HSI : Hid (Dm.S i = doneS s j x.si) := Lib.hid (Day.S_eq hSM)
      clear hpq hlq hwv hDm hsm hFm hjm hkk hFl hab eab k4 hLA hEn hbq hSM BS hgm hm
      cases kp
      case false =>
        have HBE : Hid (D.backD R P j x = Dm) := Lib.hid (by rw [HBK.out, if_neg (by rw [← hkp]; simp)])
        clear hkp
        go_wp2_with fail
        go_end0
        exact ⟨_, rfl, HFX.out _ _ HPQ.out HBE.out, HEN.out.1, HBQ.out⟩
      case true =>
        have HBE : Hid (D.backD R P j x = Dm.keepD R P i (doneS s j x.si) (D.K j).ke x) := Lib.hid (by rw [HBK.out, if_pos hkp.symm, HSI.out])
        have hkeep := keep_any w0 wq.drew B A' Dm C R E P (n + 1 + L.length) i (doneS s j x.si) (D.K j).ke x (HPQ.out.heapEq rfl) HFL.out (by have := HN.out; have := HLN.out; omega) HSM.out HX.out (HE2.out.adr HLA.out) ((HW0B.out _ HBQ.out).drew) HKK.out.2
        rw [HQX.out.1, HQX.out.2] at hkeep
        have HKEEP := Lib.hid hkeep
        have y0 := cellF k5 0 (v := .int .i64 x.ve) rfl
        have y1 := cellF k5 1 (v := .int .i64 x.bo) rfl
        have y2 := cellF k5 2 (v := .int .i64 x.si) rfl
        have y3 := cellF k5 3 (v := .bool x.no) rfl
        have y4 := cellF k5 4 (v := .string x.fr) rfl
        clear hkp hkeep k5
        go_upto_region 10 with (fail)
        go_still_tail 7, (by kernel_rfl)
        change wpList _ _ _ _ _ wq.drew
        go_wp2_with fail
        refine HKEEP.out.mono ?_
        rintro e w9 ⟨rfl, hp9, hb9⟩
        have HP9 := Lib.hid hp9
        have HB9 := Lib.hid hb9
        clear hp9 hb9
        go_wp2_with fail
        go_end0
        exact ⟨_, rfl, HFX.out _ _ HP9.out HBE.out, HEN.out.1, (HBQ.out.drew).trans HB9.out⟩
end Go.Proofs.YtehbmnkbmgnkfaaGreatDoor

/- came: the walk. -/
namespace Go.Proofs.YtehbmnkbmgnkfaaGreatDoor
open Go.RowKit

/-- The day within a call of came: so far it is as the plain function says. -/
structure CamS (w : World) (B : Nat) (A : Adr) (D0 : Day) (R : List Crl) (P : List Pur) (i : Nat) (s : Sto) (key : ByteArray) (f : Wtr) (W : World) (A' : Adr) (D' : Day) (how : Int) : Prop where
  pd : PD W B A' D'
  le : AdrLe A A' D0.ak.length
  bel : Below B w W
  eq : D0.cameD R P i s key f = D'.howD f how
  go : D'.go.length = D0.go.length
theorem infoWt : (Tryz.prog.info? 150).map (fun i => (i.zero, i.size, i.bytes)) = some (some (.agg #[.int .i64 0, .pointer none]), 2, 16) := by kernel_rfl
theorem slWt : SlT Tryz.prog 151 150 2 16 := by
  obtain ⟨i0, hi, hz0, hz1, hz2⟩ := info_parts infoWt
  exact ⟨i0, _, Tryz.underlying151, hi, hz0, hz1, hz2, rfl, by decide, by decide⟩
theorem wait_facts {W : World} {B : Nat} {A : Adr} {D : Day} {j : Nat} {k : Akn} (h : PD W B A D) (hk : D.ak[j]? = some k) :
    ∃ ao n cp, A.wv j = .slice ao n cp ∧ W.cell? ⟨A.ab j, 5, none⟩ = some (.slice ao n cp) ∧ Own W B 150 2 (encW A.ab) (.slice ao n cp) (D.wa j) := by
  have ho := h.wait hk
  have hc := cellF (h.ab hk).2 5 (v := A.wv j) rfl
  obtain ⟨v, hv⟩ : ∃ v, v = A.wv j := ⟨_, rfl⟩
  rw [← hv] at ho hc ⊢
  obtain ⟨ao, n, cp, rfl⟩ := Own.slv (encW_len A.ab) ho
  exact ⟨ao, n, cp, rfl, hc, ho⟩
theorem wait_after {W W0 W5 : World} {B : Nat} {A : Adr} {D : Day} {j : Nat} {k : Akn} {v v5 : Value} (h : PD W B A D) (hk : D.ak[j]? = some k) (hv : A.wv j = v) (hb0 : Below W.heap.size W W0) (hk5 : KeepB W0 W5 v v5) :
    W5.cell? ⟨A.ab j, 5, none⟩ = some v ∧ W5.frozen? ⟨A.ab j, 5, none⟩ = false := by
  have hb := (h.ab hk).2
  have hl : A.ab j < W.heap.size := (Array.getElem?_eq_some_iff.1 hb).1
  have h5 := ((hk5 (A.ab j) (Nat.lt_of_lt_of_le hl hb0.size) (by rw [← hv]; exact h.offWa hk)).1.trans (hb0.block _ hl)).trans hb
  exact ⟨by rw [← hv]; exact cellF h5 5 rfl, frozF h5 5⟩
theorem wait_done {W W0 W5 : World} {B : Nat} {A : Adr} {D : Day} {j : Nat} {k : Akn} {v v5 : Value} {f : Wtr} (h : PD W B A D) (hk : D.ak[j]? = some k) (hv : A.wv j = v) (hb0 : Below W.heap.size W W0) (hb5 : Below B W0 W5) (hk5 : KeepB W0 W5 v v5) (ho5 : Own W5 B 150 2 (encW A.ab) v5 (D.wa j ++ [f])) :
    PD (W5.setCell ⟨A.ab j, 5, none⟩ v5) B { A with wv := upF A.wv j v5 } (D.waitD j f) ∧ Below B W (W5.setCell ⟨A.ab j, 5, none⟩ v5) := by
  have k0 : KeepB W W0 v v := fun b hb ho => ⟨hb0.block b hb, ho⟩
  refine ⟨h.setWa hk ho5 (Nat.le_trans hb0.size hb5.size) (by rw [hv]; exact k0.trans hb0.size hk5), ?_⟩
  exact ((hb0.mono h.base).trans hb5).setCell (h.ab hk).1 _
set_option maxRecDepth 100000 in
set_option maxHeartbeats 4000000 in
theorem came_any (w0 w : World) (B : Nat) (A : Adr) (D : Day) (C : List Cch) (R : List Crl) (E : List Rel) (P : List Pur) (n i : Nat) (s : Sto) (key : ByteArray) (f : Wtr) (h : PD w B A D) (hF : Fit n D) (hn : n ≤ 700000) (hs : D.st[i]? = some s) (hf : WFit D f) (hE : EnvD w0 B A C R E P) (hw : Below w0.heap.size w0 w) (hk : key.size ≤ 300) :
    Calls Tryz.prog 68 #[.pointer (some ⟨A.q, 0, none⟩), .int .i64 (i : Nat), .string key, .agg (encW A.ab f).toArray] w fun e w' => ∃ A', e = .returned (.tuple #[]) ∧ PD w' B A' (D.cameD R P i s key f) ∧ AdrLe A A' D.ak.length ∧ Below B w w' := by
  show Calls Tryz.prog 68 #[.pointer (some ⟨A.q, 0, none⟩), .int .i64 (i : Nat), .string key, .agg #[.int .i64 (f.ge : Nat), .pointer (f.ak.map fun j => ⟨A.ab j, 0, none⟩)]] w _
  obtain ⟨pv, hpv⟩ : ∃ pv, pv = Value.pointer (f.ak.map fun j => ⟨A.ab j, 0, none⟩) := ⟨_, rfl⟩
  obtain ⟨w1, hw1⟩ : ∃ w1, w1 = w.alloc (.cells #[.int .i64 (f.ge : Nat), pv] 150) := ⟨_, rfl⟩
  have hb1 : Below B w w1 := by rw [hw1]; exact (Below.refl _ w).alloc h.base _
  have hp1 := h.addFr (.cells #[.int .i64 (f.ge : Nat), pv] 150 (0, 0))
  rw [← hw1] at hp1
  obtain ⟨A1, hA1⟩ : ∃ A1, A1 = { A with x := A.x ++ [(w.heap.size, Obj.cells #[.int .i64 (f.ge : Nat), pv] 150 (0, 0))] } := ⟨_, rfl⟩
  rw [← hA1] at hp1
  have eq1 : A1.q = A.q := by rw [hA1]
  have es1 : A1.sb = A.sb := by rw [hA1]
  have em1 : A1.mb = A.mb := by rw [hA1]
  have ed1 : A1.d1 = A.d1 := by rw [hA1]
  have hqb := hp1.qb.2
  have hsb := (hp1.sb hs).2
  rw [eq1] at hqb
  rw [es1] at hsb
  have hil : i < D.st.length := (List.getElem?_eq_some_iff.1 hs).1
  have hne : List.range D.st.length ≠ [] := fun e => by rw [List.range_eq_nil] at e; omega
  obtain ⟨g, cap, hsv, hg1, hg2, hg3, hg4, hgc, -⟩ := Own.getk (encP_len A1.sb) hp1.stores hne
  rw [List.length_range] at hsv
  have q4 : w1.cell? ⟨A.q, 4, none⟩ = some (.slice (some ⟨g, 0, none⟩) D.st.length cap) := by rw [cellF hqb 4 rfl, ← hsv]; rfl
  have hiz : (i : Int) < (D.st.length : Int) := by omega
  have s0 : w1.cell? ⟨g, i, none⟩ = some (.pointer (some ⟨A.sb i, 0, none⟩)) := by rw [← es1]; have h := hgc i i 0 _ (by simp [hil]) rfl; simpa using h
  have s7 : w1.cell? ⟨A.sb i, 7, none⟩ = some (.int .i64 s.ld.ca) := cellF hsb 7 rfl
  have z7 := frozF hsb 7
  have hld := (hF.st i s hs).ca
  have hwl : IntKind.i64.wrap (s.ld.ca + 1) = s.ld.ca + 1 := IntWalk.i64_in _ (by omega)
  -- the world behind the first store
  obtain ⟨w2, hw2⟩ : ∃ w2, w2 = w1.setCell ⟨A.sb i, 7, none⟩ (.int .i64 (s.ld.ca + 1)) := ⟨_, rfl⟩
  have hp2 : PD w2 B A1 (D.setS i (incCa s)) := by
    have h := hp1.setSto hs 7 (.int .i64 (s.ld.ca + 1)) (incCa s) rfl rfl rfl rfl
    rw [es1, ← hw2] at h
    exact h
  have hs2 : (D.setS i (incCa s)).st[i]? = some (incCa s) := by show (D.st.set i _)[i]? = _; rw [List.getElem?_set_self hil]
  have hb2 : Below B w w2 := by rw [hw2]; exact hb1.setCell (by rw [← es1]; exact (hp1.sb hs).1) _
  have d1 : w2.cell? ⟨A.q, 1, none⟩ = some A.d1 := by rw [← eq1, ← ed1]; exact cellF hp2.qb.2 1 rfl
  have hw02 : Below w0.heap.size w0 w2 := hw.trans (hb2.mono hE.le)
  have hRU := ruleOf_any w2 R A.d1 key (hE.r.below hw02 (Nat.le_refl _))
  obtain ⟨r, hr⟩ : ∃ r, r = outU R (ruI R key R.length) := ⟨_, rfl⟩
  obtain ⟨ok, hok⟩ : ∃ r, r = (ruI R key R.length).isSome := ⟨_, rfl⟩
  have hrb := outU_ok hE.rb (ruI R key R.length)
  rw [← hr] at hrb
  rw [← hr, ← hok] at hRU
  obtain ⟨has, hhas⟩ : ∃ b, b = onL key s.ks := ⟨_, rfl⟩
  have HC1 : Hid (ok = false → D.cameD R P i s key f = D.newD i s key false f) := Lib.hid fun h => by
    rw [hok] at h
    exact if_pos h
  have HC2 : Hid (ok = true → has = true → D.no < untM r (s.hm key).an false → D.cameD R P i s key f = D.freshD i s key f) := Lib.hid fun h h1 h2 => by
    rw [hok] at h; rw [hhas] at h1; rw [hr] at h2
    unfold Day.cameD
    rw [if_neg (by rw [h]; simp), if_pos ⟨h1, h2⟩]
  have HC3 : Hid (ok = true → has = true → ¬ D.no < untM r (s.hm key).an false → D.no < untM r (s.hm key).an true → D.cameD R P i s key f = ((D.staleG i s key f).moreD i key (purM P key D.no)).howD f 2) := Lib.hid fun h h1 h2 h3 => by
    rw [hok] at h; rw [hhas] at h1; rw [hr] at h2 h3
    unfold Day.cameD
    rw [if_neg (by rw [h]; simp), if_neg (fun e => h2 e.2), if_pos ⟨h1, h3⟩]
  have HC4 : Hid (ok = true → (has = true → untM r (s.hm key).an false ≤ D.no ∧ untM r (s.hm key).an true ≤ D.no) → ∀ o, wayO D s.ar key (purM P key D.no) = o → D.cameD R P i s key f = match o with
      | some j => D.joinD i s j f
      | none => D.newD i s key true f) := Lib.hid fun h h1 o h2 => by
    rw [hok] at h; rw [hhas, hr] at h1
    unfold Day.cameD
    rw [if_neg (by rw [h]; simp), if_neg (fun e => Int.not_lt.2 (h1 e.1).1 e.2), if_neg (fun e => Int.not_lt.2 (h1 e.1).2 e.2), h2]
    cases o <;> rfl
  have HRU := Lib.hid hRU
  have HRB := Lib.hid hrb
  have HW1 := Lib.hid hw1
  have HW2 := Lib.hid hw2
  have HP2 := Lib.hid hp2
  have HB2 := Lib.hid hb2
  have HF := Lib.hid hF
  have HE := Lib.hid hE
  have HW02 := Lib.hid hw02
  have HW0 := Lib.hid hw
  have HS := Lib.hid hs
  have HS2 := Lib.hid hs2
  have HWF := Lib.hid hf
  have HA1 := Lib.hid hA1
  have HPV := Lib.hid hpv
  have HN := Lib.hid (And.intro hn hk)
  have HHAS := Lib.hid hhas
  rw [← hpv]
  clear h hp1 hp2 hqb hsb hgc hsv hw2 hw1 hb1 hb2 hF hE hw hw02 hf hpv hA1 hs hs2 hn hne hg1 hg2 hg3 hg4 hld hk hrb hhas hr hok hRU
  go_enter Tryz.func68, Tryz.ntmps68
  go_upto_region 1 with (fail)
  rw [← HW1.out]
  go_upto_region 3 with (fail)
  rw [← HW2.out]
  clear q4 s0 s7 z7 hiz hwl
  go_wp2_with fail
  refine HRU.out.mono ?_
  rintro e w3 ⟨rfl, hb3⟩
  -- the rule's box
  obtain ⟨w4, hw4⟩ : ∃ w4, w4 = w3.alloc (.cells #[.string r.pr, .int .i64 r.li, .int .i64 r.st, .int .i64 r.go] 27) := ⟨_, rfl⟩
  have hp4 := (HP2.out.below hb3).addFr (.cells #[.string r.pr, .int .i64 r.li, .int .i64 r.st, .int .i64 r.go] 27 (0, 0))
  rw [← hw4] at hp4
  have hb4 : Below B w w4 := by rw [hw4]; exact (HB2.out.trans (hb3.mono HP2.out.base)).alloc (HP2.out.below hb3).base _
  obtain ⟨A2, hA2⟩ : ∃ A2, A2 = { A1 with x := A1.x ++ [(w3.heap.size, Obj.cells #[.string r.pr, .int .i64 r.li, .int .i64 r.st, .int .i64 r.go] 27 (0, 0))] } := ⟨_, rfl⟩
  rw [← hA2] at hp4
  have es2 : A2.sb = A.sb := by rw [hA2]; exact es1
  have em2 : A2.mb = A.mb := by rw [hA2]; exact em1
  have hm4 := (hp4.map HS2.out).2
  rw [em2] at hm4
  obtain ⟨c, hlk, hcf⟩ := hm4.look key (Nat.le_trans HN.out.2 (by unfold maxLen; omega))
  have hlk' : (Instr.lookup 133 (.map (some (A.mb i))) (.string key) true).run Tryz.prog w4 = .ok (.tuple #[.agg #[.int .i64 c.an.ve, .int .i64 c.an.bo, .int .i64 c.an.si, .bool c.an.no, .string c.an.fr, .int .i64 c.us], .bool has]) w4 := by rw [HHAS.out]; exact hlk
  have HCF : Hid (has = true → c = s.hm key) := Lib.hid (fun h => hcf (onL_iff.1 (show onL key s.ks = true by rw [← HHAS.out]; exact h)))
  have c5 : w4.cell? ⟨A.sb i, 5, none⟩ = some (.map (some (A.mb i))) := by rw [← es2, ← em2]; exact cellF (hp4.sb HS2.out).2 5 rfl
  obtain ⟨w5, hw5⟩ : ∃ w5, w5 = w4.alloc (.cells #[.int .i64 c.an.ve, .int .i64 c.an.bo, .int .i64 c.an.si, .bool c.an.no, .string c.an.fr, .int .i64 c.us] 180) := ⟨_, rfl⟩
  have hp5 := hp4.addFr (.cells #[.int .i64 c.an.ve, .int .i64 c.an.bo, .int .i64 c.an.si, .bool c.an.no, .string c.an.fr, .int .i64 c.us] 180 (0, 0))
  rw [← hw5] at hp5
  have hb5 : Below B w w5 := by rw [hw5]; exact hb4.alloc hp4.base _
  obtain ⟨A3, hA3⟩ : ∃ A3, A3 = { A2 with x := A2.x ++ [(w4.heap.size, Obj.cells #[.int .i64 c.an.ve, .int .i64 c.an.bo, .int .i64 c.an.si, .bool c.an.no, .string c.an.fr, .int .i64 c.us] 180 (0, 0))] } := ⟨_, rfl⟩
  rw [← hA3] at hp5
  have HW4 := Lib.hid hw4
  have HW5 := Lib.hid hw5
  have HP5 := Lib.hid hp5
  have HB5 := Lib.hid hb5
  have eq3 : A3.q = A.q := by rw [hA3, hA2]; exact eq1
  have es3 : A3.sb = A.sb := by rw [hA3]; exact es2
  have hx7 : A3.x[A.x.length]? = some (w.heap.size, Obj.cells #[.int .i64 (f.ge : Nat), pv] 150 (0, 0)) := by rw [hA3, hA2, HA1.out]; simp
  have hx10 : A3.x[A.x.length + 1]? = some (w3.heap.size, Obj.cells #[.string r.pr, .int .i64 r.li, .int .i64 r.st, .int .i64 r.go] 27 (0, 0)) := by rw [hA3, hA2, HA1.out]; simp
  have hx12 : A3.x[A.x.length + 2]? = some (w4.heap.size, Obj.cells #[.int .i64 c.an.ve, .int .i64 c.an.bo, .int .i64 c.an.si, .bool c.an.no, .string c.an.fr, .int .i64 c.us] 180 (0, 0)) := by rw [hA3, hA2, HA1.out]; simp
  have HX7 := Lib.hid hx7
  have HX10 := Lib.hid hx10
  have HX12 := Lib.hid hx12
  have HL3 : Hid (∀ A' : Adr, AdrLe A3 A' D.ak.length → AdrLe A { A' with x := A.x } D.ak.length ∧ A'.x = A3.x) := Lib.hid (by
    intro A' hl
    rw [hA3, hA2, HA1.out] at hl
    exact ⟨⟨hl.q, hl.d0, hl.d1, hl.d2, hl.d3, hl.sv, hl.gv, hl.sb, hl.mb, rfl, hl.ab⟩, by rw [hA3, hA2, HA1.out]; exact hl.x⟩)
  have HXY : Hid (∃ y, A3.x = A.x ++ y) := Lib.hid ⟨_, by rw [hA3, hA2, HA1.out]; simp only [List.append_assoc]; rfl⟩
  have HAB : Hid (A3.ab = A.ab) := Lib.hid (by rw [hA3, hA2, HA1.out])
  have HE3 : Hid (EnvD w0 B A3 C R E P) := Lib.hid (by rw [hA3, hA2, HA1.out]; exact ⟨HE.out.le, HE.out.c, HE.out.r, HE.out.e, HE.out.p, HE.out.rb, HE.out.eb⟩)
  have EQ3 := Lib.hid eq3
  have ES3 := Lib.hid es3
  have HW0B : Hid (∀ W, Below B w W → Below w0.heap.size w0 W) := Lib.hid (fun W hb => HW0.out.trans (hb.mono HE.out.le))
  have HB3 := Lib.hid hb3
  clear hb3 hw4 hp4 hb4 hm4 hlk hcf hw5 hp5 hb5 hA2 hA3 eq3 es3 hx7 hx10 hx12 es2 em2 HA1 HP2 HB2 HW02 HW1 HW2 HRU HE d1 eq1 es1 em1 ed1
  go_upto_region 5 with (fail)
  rw [← HW4.out]
  go_upto_block 0 with (fail)
  rw [← HW5.out]
  clear c5 hlk'
  have HLR : Hid (AdrLe A3 A3 D.ak.length) := Lib.hid (AdrLe.refl _ _)
  have HG0 : Hid ((D.setS i (incCa s)).go.length = D.go.length) := Lib.hid rfl
  go_cut [9] (fun s9 W => ∃ (A' : Adr) (D' : Day) (how : Int), s9 = .int .i64 how ∧ Aside (CamS w B A3 D R P i s key f W A' D' how))
  case first =>
    cases ok
    case false =>
      have hask := ask_fit w5 B A3 (D.setS i (incCa s)) (n + 1) i (incCa s) key false HP5.out (HF.out.incs HS.out).1 (by have := HN.out.1; omega) HS2.out
      rw [EQ3.out] at hask
      have HASK := Lib.hid hask
      clear hask
      go_wp2_with fail
      refine HASK.out.mono ?_
      rintro e w6 ⟨A6, rfl, hp6, hl6, hb6⟩
      obtain ⟨j, hj⟩ : ∃ j, j = D.ak.length := ⟨_, rfl⟩
      have hj6 : ((D.setS i (incCa s)).askD i (incCa s) key false).ak[j]? = some ⟨i, D.no, key, false⟩ := by
        rw [hj]
        show (D.ak ++ [_])[D.ak.length]? = _
        rw [List.getElem?_append_right (Nat.le_refl _)]
        simp
        rfl
      have ej : A6.ab (D.setS i (incCa s)).ak.length = A6.ab j := by rw [hj]; rfl
      rw [ej]
      have hew : encW A6.ab f = [.int .i64 (f.ge : Nat), pv] := (WFit.same HWF.out (HL3.out A6 hl6).1).trans (by rw [HPV.out]; rfl)
      have HEQ : Hid (D.cameD R P i s key f = (((D.setS i (incCa s)).askD i (incCa s) key false).waitD j f).howD f 3) := Lib.hid (by rw [HC1.out (by trivial), hj]; rfl)
      have HGL : Hid (((D.setS i (incCa s)).askD i (incCa s) key false).go.length = D.go.length) := Lib.hid rfl
      have HWL : Hid (((D.setS i (incCa s)).askD i (incCa s) key false).wa j = []) := Lib.hid (by rw [hj]; exact upF_same _ _ _)
      obtain ⟨D6, hD6⟩ : ∃ D6, D6 = (D.setS i (incCa s)).askD i (incCa s) key false := ⟨_, rfl⟩
      rw [← hD6] at hp6 hj6 HEQ HGL HWL
      have hb6' : Below B w w6 := HB5.out.trans hb6
      clear hj ej hD6 hb6
      obtain ⟨ao, nn, cp, hv6, c56, ho6⟩ := wait_facts hp6 hj6
      have hx6 := hp6.fr (k := A.x.length) (by rw [hl6.x]; exact HX7.out)
      have x0 := cellF hx6 0 (v := .int .i64 (f.ge : Nat)) rfl
      have x1 := cellF hx6 1 (v := pv) rfl
      have l5 : A6.ab j < w6.heap.size := World.block_lt_of_cell? w6 _ c56
      have l7 : w.heap.size < w6.heap.size := World.block_lt_of_cell? w6 _ x0
      have hBW : Below w6.heap.size w6 (w6.drew.alloc (.cells #[.int .i64 (f.ge : Nat), pv] 150)) := ((Below.refl _ w6).drew).alloc (Nat.le_refl _) _
      have HO6 : Hid (Own (w6.drew.alloc (.cells #[.int .i64 (f.ge : Nat), pv] 150)) B 150 2 (encW A6.ab) (.slice ao nn cp) (D6.wa j)) := Lib.hid (ho6.drew1.al _)
      have HA6 : Hid ((w6.drew.alloc (.cells #[.int .i64 (f.ge : Nat), pv] 150)).heap[w6.heap.size]? = some (.cells (encW A6.ab f).toArray 150 (0, 0))) := Lib.hid (by rw [hew]; exact block_new w6.drew _)
      have HBS : Hid (B ≤ (w6.drew.alloc (.cells #[.int .i64 (f.ge : Nat), pv] 150)).heap.size) := Lib.hid (Nat.le_trans hp6.base hBW.size)
      have HNL : Hid ((D6.wa j).length * 16 ≤ 140737488355328) := Lib.hid (by rw [HWL.out]; decide)
      have HK6 := Lib.hid hp6
      have HJ6 := Lib.hid hj6
      have HV6 := Lib.hid hv6
      have HBW := Lib.hid hBW
      have HL6 := Lib.hid hl6
      have HBB := Lib.hid hb6'
      clear hp6 hj6 hv6 hBW hl6 hb6' ho6 hew hx6 HASK
      go_upto_region 14 with (fail)
      go_region_law (first | (refine step_pushB (enc := encW A6.ab) (v := .slice ao nn cp) (l := D6.wa j) rfl _ _ 151 rfl slWt (by decide) rfl rfl f rfl rfl HO6.out HA6.out HNL.out HBS.out ?_; intro v7 w7 ho7 hb7 hk7; obtain ⟨ao7, n7, cp7, rfl⟩ := Own.slv (encW_len A6.ab) ho7; obtain ⟨z5, y5⟩ := wait_after HK6.out HJ6.out HV6.out HBW.out hk7; have HDN := Lib.hid (wait_done HK6.out HJ6.out HV6.out HBW.out hb7 hk7 ho7); clear ho7 hb7 hk7) | fail)
      all_goals go_wp2_with fail
      all_goals go_meet
      all_goals exact ⟨_, _, 3, rfl, (show Aside _ from ⟨HDN.out.1, HL6.out.trans ⟨rfl, rfl, rfl, rfl, rfl, rfl, rfl, rfl, rfl, rfl, fun _ _ => rfl⟩ (Nat.le_refl _), HBB.out.trans HDN.out.2, HEQ.out, HGL.out⟩)⟩
    case true =>
      obtain ⟨u1, hu1⟩ : ∃ u, u = untM r (s.hm key).an false := ⟨_, rfl⟩
      obtain ⟨u2, hu2⟩ : ∃ u, u = untM r (s.hm key).an true := ⟨_, rfl⟩
      have HU : Hid (has = true → ∀ (W : World) (st : Bool), Calls Tryz.prog 92 #[.agg #[.string r.pr, .int .i64 r.li, .int .i64 r.st, .int .i64 r.go], .agg #[.int .i64 (s.hm key).an.ve, .int .i64 (s.hm key).an.bo, .int .i64 (s.hm key).an.si, .bool (s.hm key).an.no, .string (s.hm key).an.fr], .bool st] W fun e w' => e = .returned (.int .i64 (if st = true then u2 else u1)) ∧ Below W.heap.size W w') := Lib.hid fun h W st => by
        have hk := onL_iff.1 (by rw [← HHAS.out]; exact h : onL key s.ks = true)
        have ha := (HF.out.an i s HS.out key hk).bo
        have H := until_any W r (s.hm key).an st ⟨ha.1, Int.le_trans ha.2 (by decide)⟩ HRB.out.1 HRB.out.2.1 HRB.out.2.2
        have e : (if st = true then u2 else u1) = untM r (s.hm key).an st := by cases st <;> simp [hu1, hu2]
        rw [e]
        exact H
      rw [← hu1] at HC2
      rw [← hu1, ← hu2] at HC3 HC4
      have HU1 := Lib.hid hu1
      have HU2 := Lib.hid hu2
      clear hu1 hu2
      have hq8 : w5.cell? ⟨A.q, 8, none⟩ = some (.int .i64 D.no) := by rw [← EQ3.out]; exact cellF HP5.out.qb.2 8 rfl
      have k10 := HP5.out.fr HX10.out
      have k12 := HP5.out.fr HX12.out
      have HSS : Hid (∀ W : World, Below w5.heap.size w5 W → W.cell? ⟨A.q, 8, none⟩ = some (.int .i64 D.no) ∧ W.cell? ⟨w3.heap.size, 0, none⟩ = some (.string r.pr) ∧ W.cell? ⟨w3.heap.size, 1, none⟩ = some (.int .i64 r.li) ∧ W.cell? ⟨w3.heap.size, 2, none⟩ = some (.int .i64 r.st) ∧ W.cell? ⟨w3.heap.size, 3, none⟩ = some (.int .i64 r.go) ∧ W.cell? ⟨w4.heap.size, 0, none⟩ = some (.int .i64 c.an.ve) ∧ W.cell? ⟨w4.heap.size, 1, none⟩ = some (.int .i64 c.an.bo) ∧ W.cell? ⟨w4.heap.size, 2, none⟩ = some (.int .i64 c.an.si) ∧ W.cell? ⟨w4.heap.size, 3, none⟩ = some (.bool c.an.no) ∧ W.cell? ⟨w4.heap.size, 4, none⟩ = some (.string c.an.fr)) := Lib.hid fun W hb => by
        have g10 := (hb.block _ (Array.getElem?_eq_some_iff.1 k10).1).trans k10
        have g12 := (hb.block _ (Array.getElem?_eq_some_iff.1 k12).1).trans k12
        exact ⟨(hb.cell (p := ⟨A.q, 8, none⟩) (World.block_lt_of_cell? w5 _ hq8)).trans hq8, cellF g10 0 rfl, cellF g10 1 rfl, cellF g10 2 rfl, cellF g10 3 rfl, cellF g12 0 rfl, cellF g12 1 rfl, cellF g12 2 rfl, cellF g12 3 rfl, cellF g12 4 rfl⟩
      have HBD : Hid (Below w5.heap.size w5 w5.drew) := Lib.hid (Below.refl _ w5).drew
      clear k10 k12 hq8
      go_upto_region 15 with (fail)
      go_cut [97] (fun sv W => sv = .bool (has && decide (D.no < u1)) ∧ Aside (Below w5.heap.size w5 W))
      case first =>
        cases has
        case false =>
          have hund : undef = Value.tuple #[] := rfl
          go_quiet (fail)
          clear hund
          go_wp2
          go_meet
          exact ⟨by simp, (show Aside _ from below_drewN (Below.refl _ _) _)⟩
        case true =>
          obtain rfl := HCF.out (by trivial)
          have HU5 := Lib.hid (HU.out (by trivial) w5.drew false)
          go_region_held3 (fun W => W.cell? ⟨A.q, 8, none⟩ = some (.int .i64 D.no) ∧ W.cell? ⟨w3.heap.size, 0, none⟩ = some (.string r.pr) ∧ W.cell? ⟨w3.heap.size, 1, none⟩ = some (.int .i64 r.li) ∧ W.cell? ⟨w3.heap.size, 2, none⟩ = some (.int .i64 r.st) ∧ W.cell? ⟨w3.heap.size, 3, none⟩ = some (.int .i64 r.go) ∧ W.cell? ⟨w4.heap.size, 0, none⟩ = some (.int .i64 (s.hm key).an.ve) ∧ W.cell? ⟨w4.heap.size, 1, none⟩ = some (.int .i64 (s.hm key).an.bo) ∧ W.cell? ⟨w4.heap.size, 2, none⟩ = some (.int .i64 (s.hm key).an.si) ∧ W.cell? ⟨w4.heap.size, 3, none⟩ = some (.bool (s.hm key).an.no) ∧ W.cell? ⟨w4.heap.size, 4, none⟩ = some (.string (s.hm key).an.fr))
            (first | exact HSS.out _ HBD.out | exact HSS.out _ HB9.out | fail)
            (first | (go_at_call 92; (with_reducible refine HU5.out.mono ?_); rintro e w9 ⟨rfl, hb9⟩; have HB9 := Lib.hid (HBD.out.thru hb9); clear hb9) | fail)
          go_wp2
          go_meet
          exact ⟨by simp, (show Aside _ from HB9.out)⟩
      obtain ⟨rfl, BW⟩ := hcut
      obtain ⟨w6, rfl⟩ : ∃ W : World, W = wc := ⟨_, rfl⟩
      have HB6 := Lib.hid BW.out
      obtain ⟨tb, htb⟩ : ∃ tb, tb = (has && decide (D.no < u1)) := ⟨_, rfl⟩
      rw [← htb]
      have HTB := Lib.hid htb
      have HP6 := Lib.hid (HP5.out.below HB6.out)
      clear htb BW
      cases tb
      case true =>
        have hh := HTB.out.symm
        rw [Bool.and_eq_true, decide_eq_true_eq] at hh
        have HHH := Lib.hid hh
        clear hh
        have hsb6 := (HP6.out.sb HS2.out).2
        rw [ES3.out] at hsb6
        have c8 : w6.cell? ⟨A.sb i, 8, none⟩ = some (.int .i64 s.ld.fr) := cellF hsb6 8 rfl
        have z8 := frozF hsb6 8
        have hwf : IntKind.i64.wrap (s.ld.fr + 1) = s.ld.fr + 1 := IntWalk.i64_in _ (by have := (HF.out.st i s HS.out).fr; have := HN.out.1; omega)
        obtain ⟨w7, hw7⟩ : ∃ w7, w7 = w6.setCell ⟨A.sb i, 8, none⟩ (.int .i64 (s.ld.fr + 1)) := ⟨_, rfl⟩
        have hp7 : PD w7 B A3 (D.setS i (incFr (incCa s))) := by
          have h := HP6.out.setSto HS2.out 8 (.int .i64 (s.ld.fr + 1)) (incFr (incCa s)) rfl rfl rfl rfl
          rw [ES3.out, ← hw7] at h
          rw [← setS_setS D i (incCa s)]
          exact h
        have hb7 : Below B w w7 := by rw [hw7]; exact (HB5.out.trans (HB6.out.mono HP5.out.base)).setCell (by rw [← ES3.out]; exact (HP6.out.sb HS2.out).1) _
        have hs7 : (D.setS i (incFr (incCa s))).st[i]? = some (incFr (incCa s)) := by show (D.st.set i _)[i]? = _; rw [List.getElem?_set_self hil]
        have hF7 : Fit (n + 1) (D.setS i (incFr (incCa s))) := (HF.out.incs HS.out).2.1
        have hon : onL key (incFr (incCa s)).ks = true := by show onL key s.ks = true; rw [← HHAS.out]; exact HHH.out.1
        have hT := take_fit w7.drew B A3 (D.setS i (incFr (incCa s))) (n + 1) i (incFr (incCa s)) key (hp7.heapEq rfl) hF7 (by have := HN.out.1; omega) hs7 hon
        have hF8 : Fit (n + 2) ((D.setS i (incFr (incCa s))).takeD i (incFr (incCa s)) key) := hF7.take hs7 key (onL_iff.1 hon)
        have hW8 : WFit ((D.setS i (incFr (incCa s))).takeD i (incFr (incCa s)) key) f := HWF.out
        obtain ⟨x, hx⟩ : ∃ x, x = tookA (incFr (incCa s)) key := ⟨_, rfl⟩
        have HD7G : Hid (((D.setS i (incFr (incCa s))).takeD i (incFr (incCa s)) key).go.length = D.go.length ∧ ((D.setS i (incFr (incCa s))).takeD i (incFr (incCa s)) key).ak.length = D.ak.length) := Lib.hid ⟨rfl, rfl⟩
        have HDEQ := Lib.hid (show ((D.setS i (incFr (incCa s))).takeD i (incFr (incCa s)) key).giveD f x = ((D.setS i (incFr (incCa s))).takeD i (incFr (incCa s)) key).giveD f (tookA s key) by rw [hx]; rfl)
        have HAX : Hid (AFit x) := Lib.hid (by rw [hx]; have h := HF.out.an i s HS.out key (onL_iff.1 hon); exact ⟨h.bo, h.si⟩)
        obtain ⟨D7, hD7⟩ : ∃ D7, D7 = (D.setS i (incFr (incCa s))).takeD i (incFr (incCa s)) key := ⟨_, rfl⟩
        rw [← hD7] at HD7G
        have hgv : ∀ W, PD W B A3 D7 → Calls Tryz.prog 70 #[.pointer (some ⟨A.q, 0, none⟩), .agg #[.int .i64 (f.ge : Nat), pv], .agg #[.int .i64 x.ve, .int .i64 x.bo, .int .i64 x.si, .bool x.no, .string x.fr]] W fun e w' => ∃ A', e = .returned (.tuple #[]) ∧ PD w' B A' (D7.giveD f x) ∧ AdrLe A3 A' D.ak.length ∧ Below B W w' := fun W hW => by
          have H := give_any W B A3 D7 (n + 2) f x hW (by rw [hD7]; exact hF8) (by have := HN.out.1; omega) (by rw [hD7]; exact hW8)
          rw [EQ3.out, show D7.ak.length = D.ak.length from HD7G.out.2] at H
          have e : Value.agg (encW A3.ab f).toArray = .agg #[.int .i64 (f.ge : Nat), pv] := by rw [HAB.out, HPV.out]; rfl
          rw [e] at H
          exact H
        have hT2 : Calls Tryz.prog 93 #[.pointer (some ⟨A.q, 0, none⟩), .pointer (some ⟨A.sb i, 0, none⟩), .string key] w7.drew fun e w' => e = .returned (.agg #[.int .i64 x.ve, .int .i64 x.bo, .int .i64 x.si, .bool x.no, .string x.fr]) ∧ PD w' B A3 D7 ∧ Below B w7.drew w' := by
          rw [EQ3.out, ES3.out, ← hx, ← hD7] at hT
          exact hT
        have HT := Lib.hid hT2
        have HGV := Lib.hid hgv
        have HSX : Hid (∀ (W : World) (A' : Adr) (D' : Day), PD W B A' D' → A'.x = A3.x → W.cell? ⟨w.heap.size, 0, none⟩ = some (.int .i64 (f.ge : Nat)) ∧ W.cell? ⟨w.heap.size, 1, none⟩ = some pv) := Lib.hid fun W A' D' hW hA => by
          have k7 := hW.fr (k := A.x.length) (by rw [hA]; exact HX7.out)
          exact ⟨cellF k7 0 rfl, cellF k7 1 rfl⟩
        have HPD7 : Hid (PD w7.drew B A3 (D.setS i (incFr (incCa s)))) := Lib.hid (hp7.heapEq rfl)
        have HB7 := Lib.hid hb7
        have HW7 := Lib.hid hw7
        have HF8 := Lib.hid hF8
        have HD7 := Lib.hid hD7
        clear hsb6 hw7 hp7 hb7 hs7 hF7 hon hT hF8 hW8 hx hgv hT2 hD7
        go_upto_region 17 with (fail)
        rw [← HW7.out]
        go_upto_region 18 with (fail)
        go_region_held3 (fun W => W.cell? ⟨w.heap.size, 0, none⟩ = some (.int .i64 (f.ge : Nat)) ∧ W.cell? ⟨w.heap.size, 1, none⟩ = some pv)
          (first | exact HSX.out _ _ _ HPD7.out rfl | exact HSX.out _ _ _ HP8.out rfl | exact HSX.out _ _ _ HP9.out HX9.out | fail)
          (first | (go_at_call 93; (with_reducible refine HT.out.mono ?_); rintro e w8 ⟨rfl, hp8, hb8⟩; have HP8 := Lib.hid hp8; have HB8 := Lib.hid hb8; have HGV8 := Lib.hid (HGV.out _ hp8); clear hp8 hb8)
                 | (go_at_call 70; (with_reducible refine HGV8.out.mono ?_); rintro e w9 ⟨A9, rfl, hp9, hl9, hb9⟩; have HP9 := Lib.hid hp9; have HL9 := Lib.hid hl9; have HX9 := Lib.hid hl9.x; have HB9 := Lib.hid hb9; clear hp9 hl9 hb9)
                 | fail)

        go_wp2_with fail
        go_meet
        exact ⟨A9, D7.giveD f x, 1, rfl, (show Aside _ from ⟨HP9.out, HL9.out, ((HB7.out.drew).trans HB8.out).trans HB9.out, by rw [HC2.out (by trivial) HHH.out.1 HHH.out.2, HD7.out, HDEQ.out]; rfl, go_len.trans HD7G.out.1⟩)⟩
      have HBD6 : Hid (Below w5.heap.size w5 w6.drew) := Lib.hid HB6.out.drew
      go_upto_region 19 with (fail)
      go_cut [126] (fun sv W => sv = .bool (has && decide (D.no < u2)) ∧ Aside (Below w6.heap.size w6 W))
      case first =>
        cases has
        case false =>
          have hund : undef = Value.tuple #[] := rfl
          go_quiet (fail)
          clear hund
          go_wp2
          go_meet
          exact ⟨by simp, (show Aside _ from below_drewN (Below.refl _ _) _)⟩
        case true =>
          obtain rfl := HCF.out (by trivial)
          have HU5 := Lib.hid (HU.out (by trivial) w6.drew true)
          have HBE : Hid (Below w6.heap.size w6 w6.drew) := Lib.hid (Below.refl _ w6).drew
          go_region_held3 (fun W => W.cell? ⟨A.q, 8, none⟩ = some (.int .i64 D.no) ∧ W.cell? ⟨w3.heap.size, 0, none⟩ = some (.string r.pr) ∧ W.cell? ⟨w3.heap.size, 1, none⟩ = some (.int .i64 r.li) ∧ W.cell? ⟨w3.heap.size, 2, none⟩ = some (.int .i64 r.st) ∧ W.cell? ⟨w3.heap.size, 3, none⟩ = some (.int .i64 r.go) ∧ W.cell? ⟨w4.heap.size, 0, none⟩ = some (.int .i64 (s.hm key).an.ve) ∧ W.cell? ⟨w4.heap.size, 1, none⟩ = some (.int .i64 (s.hm key).an.bo) ∧ W.cell? ⟨w4.heap.size, 2, none⟩ = some (.int .i64 (s.hm key).an.si) ∧ W.cell? ⟨w4.heap.size, 3, none⟩ = some (.bool (s.hm key).an.no) ∧ W.cell? ⟨w4.heap.size, 4, none⟩ = some (.string (s.hm key).an.fr))
            (first | exact HSS.out _ HBD6.out | exact HSS.out _ HB8.out | fail)
            (first | (go_at_call 92; (with_reducible refine HU5.out.mono ?_); rintro e w9 ⟨rfl, hb9⟩; have HB8 := Lib.hid (HBD6.out.thru hb9); have HB9 := Lib.hid (HBE.out.thru hb9); clear hb9) | fail)
          go_wp2
          go_meet
          exact ⟨by simp, (show Aside _ from HB9.out)⟩
      obtain ⟨rfl, BW⟩ := hcut
      obtain ⟨w10, rfl⟩ : ∃ W : World, W = wc := ⟨_, rfl⟩
      have HB10 := Lib.hid BW.out
      obtain ⟨tc, htc⟩ : ∃ tc, tc = (has && decide (D.no < u2)) := ⟨_, rfl⟩
      rw [← htc]
      have HTC := Lib.hid htc
      have HP10 := Lib.hid (HP6.out.below HB10.out)
      clear htc BW
      cases tc
      case true =>
        have hh := HTC.out.symm
        rw [Bool.and_eq_true, decide_eq_true_eq] at hh
        have HHH := Lib.hid hh
        have HNF : Hid (¬ D.no < u1) := Lib.hid (by
          have h := HTB.out.symm
          rw [hh.1] at h
          simpa using h)
        clear hh
        have hsb6 := (HP10.out.sb HS2.out).2
        rw [ES3.out] at hsb6
        have c8 : w10.cell? ⟨A.sb i, 9, none⟩ = some (.int .i64 s.ld.sl) := cellF hsb6 9 rfl
        have z8 := frozF hsb6 9
        have hwf : IntKind.i64.wrap (s.ld.sl + 1) = s.ld.sl + 1 := IntWalk.i64_in _ (by have := (HF.out.st i s HS.out).sl; have := HN.out.1; omega)
        obtain ⟨w7, hw7⟩ : ∃ w7, w7 = w10.setCell ⟨A.sb i, 9, none⟩ (.int .i64 (s.ld.sl + 1)) := ⟨_, rfl⟩
        have hp7 : PD w7 B A3 (D.setS i (incSl (incCa s))) := by
          have h := HP10.out.setSto HS2.out 9 (.int .i64 (s.ld.sl + 1)) (incSl (incCa s)) rfl rfl rfl rfl
          rw [ES3.out, ← hw7] at h
          rw [← setS_setS D i (incCa s)]
          exact h
        have hb7 : Below B w w7 := by rw [hw7]; exact ((HB5.out.trans (HB6.out.mono HP5.out.base)).trans (HB10.out.mono HP6.out.base)).setCell (by rw [← ES3.out]; exact (HP10.out.sb HS2.out).1) _
        have hs7 : (D.setS i (incSl (incCa s))).st[i]? = some (incSl (incCa s)) := by show (D.st.set i _)[i]? = _; rw [List.getElem?_set_self hil]
        have hF7 : Fit (n + 1) (D.setS i (incSl (incCa s))) := (HF.out.incs HS.out).2.2.1
        have hon : onL key (incSl (incCa s)).ks = true := by show onL key s.ks = true; rw [← HHAS.out]; exact HHH.out.1
        have hT := take_fit w7.drew B A3 (D.setS i (incSl (incCa s))) (n + 1) i (incSl (incCa s)) key (hp7.heapEq rfl) hF7 (by have := HN.out.1; omega) hs7 hon
        have hF8 : Fit (n + 2) ((D.setS i (incSl (incCa s))).takeD i (incSl (incCa s)) key) := hF7.take hs7 key (onL_iff.1 hon)
        have hW8 : WFit ((D.setS i (incSl (incCa s))).takeD i (incSl (incCa s)) key) f := HWF.out
        obtain ⟨x, hx⟩ : ∃ x, x = tookA (incSl (incCa s)) key := ⟨_, rfl⟩
        have HD7G : Hid (((D.setS i (incSl (incCa s))).takeD i (incSl (incCa s)) key).go.length = D.go.length ∧ ((D.setS i (incSl (incCa s))).takeD i (incSl (incCa s)) key).ak.length = D.ak.length) := Lib.hid ⟨rfl, rfl⟩
        have HDEQ := Lib.hid (show ((D.setS i (incSl (incCa s))).takeD i (incSl (incCa s)) key).giveD f x = ((D.setS i (incSl (incCa s))).takeD i (incSl (incCa s)) key).giveD f (tookA s key) by rw [hx]; rfl)
        have HAX : Hid (AFit x) := Lib.hid (by rw [hx]; have h := HF.out.an i s HS.out key (onL_iff.1 hon); exact ⟨h.bo, h.si⟩)
        obtain ⟨D7, hD7⟩ : ∃ D7, D7 = (D.setS i (incSl (incCa s))).takeD i (incSl (incCa s)) key := ⟨_, rfl⟩
        rw [← hD7] at HD7G
        have hgv : ∀ W, PD W B A3 D7 → Calls Tryz.prog 70 #[.pointer (some ⟨A.q, 0, none⟩), .agg #[.int .i64 (f.ge : Nat), pv], .agg #[.int .i64 x.ve, .int .i64 x.bo, .int .i64 x.si, .bool x.no, .string x.fr]] W fun e w' => ∃ A', e = .returned (.tuple #[]) ∧ PD w' B A' (D7.giveD f x) ∧ AdrLe A3 A' D.ak.length ∧ Below B W w' := fun W hW => by
          have H := give_any W B A3 D7 (n + 2) f x hW (by rw [hD7]; exact hF8) (by have := HN.out.1; omega) (by rw [hD7]; exact hW8)
          rw [EQ3.out, show D7.ak.length = D.ak.length from HD7G.out.2] at H
          have e : Value.agg (encW A3.ab f).toArray = .agg #[.int .i64 (f.ge : Nat), pv] := by rw [HAB.out, HPV.out]; rfl
          rw [e] at H
          exact H
        have hT2 : Calls Tryz.prog 93 #[.pointer (some ⟨A.q, 0, none⟩), .pointer (some ⟨A.sb i, 0, none⟩), .string key] w7.drew fun e w' => e = .returned (.agg #[.int .i64 x.ve, .int .i64 x.bo, .int .i64 x.si, .bool x.no, .string x.fr]) ∧ PD w' B A3 D7 ∧ Below B w7.drew w' := by
          rw [EQ3.out, ES3.out, ← hx, ← hD7] at hT
          exact hT
        have HT := Lib.hid hT2
        have HGV := Lib.hid hgv
        have HSX : Hid (∀ (W : World) (A' : Adr) (D' : Day), PD W B A' D' → A'.x = A3.x → W.cell? ⟨w.heap.size, 0, none⟩ = some (.int .i64 (f.ge : Nat)) ∧ W.cell? ⟨w.heap.size, 1, none⟩ = some pv) := Lib.hid fun W A' D' hW hA => by
          have k7 := hW.fr (k := A.x.length) (by rw [hA]; exact HX7.out)
          exact ⟨cellF k7 0 rfl, cellF k7 1 rfl⟩
        have HPD7 : Hid (PD w7.drew B A3 (D.setS i (incSl (incCa s)))) := Lib.hid (hp7.heapEq rfl)
        have HB7 := Lib.hid hb7
        have HW7 := Lib.hid hw7
        have HF8 := Lib.hid hF8
        have HD7 := Lib.hid hD7
        clear hsb6 hw7 hp7 hb7 hs7 hF7 hon hT hF8 hW8 hx hgv hT2 hD7
        go_upto_region 21 with (fail)
        rw [← HW7.out]
        go_upto_region 22 with (fail)
        go_region_held3 (fun W => W.cell? ⟨w.heap.size, 0, none⟩ = some (.int .i64 (f.ge : Nat)) ∧ W.cell? ⟨w.heap.size, 1, none⟩ = some pv)
          (first | exact HSX.out _ _ _ HPD7.out rfl | exact HSX.out _ _ _ HP8.out rfl | exact HSX.out _ _ _ HP9.out HX9.out | fail)
          (first | (go_at_call 93; (with_reducible refine HT.out.mono ?_); rintro e w8 ⟨rfl, hp8, hb8⟩; have HP8 := Lib.hid hp8; have HB8 := Lib.hid hb8; have HGV8 := Lib.hid (HGV.out _ hp8); clear hp8 hb8)
                 | (go_at_call 70; (with_reducible refine HGV8.out.mono ?_); rintro e w9 ⟨A9, rfl, hp9, hl9, hb9⟩; have HP9 := Lib.hid hp9; have HL9 := Lib.hid hl9; have HX9 := Lib.hid hl9.x; have HB9 := Lib.hid hb9; clear hp9 hl9 hb9)
                 | fail)
        have hs9 : (D7.giveD f x).st[i]? = some (takeS (incSl (incCa s)) key D.no) := by
          rw [giveD_st, HD7.out]
          show ((D.st.set i _).set i _)[i]? = _
          rw [List.getElem?_set_self (by rw [List.length_set]; exact hil)]
          rfl
        have hF9 : Fit (n + 3) (D7.giveD f x) := (show Fit (n + 2) D7 by rw [HD7.out]; exact HF8.out).give (show WFit D7 f by rw [HD7.out]; exact HWF.out) HAX.out
        have hb9 : Below B w w9 := ((HB7.out.drew).trans HB8.out).trans HB9.out
        have hno9 : (D7.giveD f x).no = D.no := by rw [giveD_no, HD7.out]; rfl
        have hal9 : (D7.giveD f x).ak.length = D.ak.length := by rw [giveD_ak, HD7.out]; rfl
        have HG9 : Hid ((D7.giveD f x).go.length = D.go.length) := Lib.hid (go_len.trans HD7G.out.1)
        have HST : Hid (D7.giveD f x = D.staleG i s key f) := Lib.hid (by rw [HD7.out, HDEQ.out]; rfl)
        obtain ⟨D9, hD9⟩ : ∃ D9, D9 = D7.giveD f x := ⟨_, rfl⟩
        rw [← hD9] at HP9 hs9 hF9 hno9 hal9 HG9 HST
        have hwy := way_fit w0 w9 B A9 D9 C R E P (n + 3) i (takeS (incSl (incCa s)) key D.no) key HP9.out hF9 hs9 (HE3.out.adr HL9.out) (HW0B.out w9 hb9)
        rw [hno9, show A9.q = A.q from HL9.out.q.trans EQ3.out, show A9.sb = A.sb from HL9.out.sb.trans ES3.out] at hwy
        have HMR : Hid (∀ o, wayO D9 (takeS (incSl (incCa s)) key D.no).ar key (purM P key D.no) = o → D9.moreD i key (purM P key D.no) = match o with
            | some _ => D9
            | none => D9.askD i (takeS (incSl (incCa s)) key D.no) key true) := Lib.hid (fun o ho => by
          unfold Day.moreD
          rw [Day.S_eq hs9, ho]
          cases o <;> rfl)
        obtain ⟨o, ho⟩ : ∃ o, o = wayO D9 (takeS (incSl (incCa s)) key D.no).ar key (purM P key D.no) := ⟨_, rfl⟩
        rw [← ho] at hwy
        have HMO := Lib.hid (HMR.out o ho.symm)
        have HWY := Lib.hid hwy
        have HS9 := Lib.hid hs9
        have HF9 := Lib.hid hF9
        have HAL9 := Lib.hid hal9
        have HBW9 := Lib.hid hb9
        clear hs9 hF9 hb9 hno9 hal9 hD9 hwy ho HMR
        go_wp2_with fail
        refine HWY.out.mono ?_
        rintro e w11 ⟨rfl, hb11⟩
        have HP11 := Lib.hid (HP9.out.below hb11)
        have HB11 := Lib.hid (hb11.mono HP9.out.base)
        clear hb11
        cases o
        case some jo =>
          go_wp2_with fail
          go_meet
          exact ⟨A9, D9, 2, rfl, (show Aside _ from ⟨HP11.out, HL9.out, HBW9.out.trans HB11.out, by rw [HC3.out (by trivial) HHH.out.1 HNF.out HHH.out.2, ← HST.out, HMO.out], HG9.out⟩)⟩
        case none =>
          have hask := ask_fit w11 B A9 D9 (n + 3) i (takeS (incSl (incCa s)) key D.no) key true HP11.out HF9.out (by have := HN.out.1; omega) HS9.out
          rw [show A9.q = A.q from HL9.out.q.trans EQ3.out] at hask
          have HASK := Lib.hid hask
          clear hask
          go_wp2_with fail
          refine HASK.out.mono ?_
          rintro e w12 ⟨A12, rfl, hp12, hl12, hb12⟩
          have HP12 := Lib.hid hp12
          have HL12 := Lib.hid (HL9.out.trans hl12 (by rw [HAL9.out]; exact Nat.le_refl _))
          have HB12 := Lib.hid hb12
          clear hp12 hl12 hb12
          go_wp2_with fail
          go_meet
          exact ⟨A12, D9.askD i (takeS (incSl (incCa s)) key D.no) key true, 2, rfl, (show Aside _ from ⟨HP12.out, HL12.out, (HBW9.out.trans HB11.out).trans HB12.out, by rw [HC3.out (by trivial) HHH.out.1 HNF.out HHH.out.2, ← HST.out, HMO.out], HG9.out⟩)⟩
      have HNH : Hid (has = true → u1 ≤ D.no ∧ u2 ≤ D.no) := Lib.hid (fun h => by
        have h1 := HTB.out.symm
        have h2 := HTC.out.symm
        rw [h] at h1 h2
        exact ⟨by simpa using h1, by simpa using h2⟩)
      have hbw10 : Below B w w10 := (HB5.out.trans (HB6.out.mono HP5.out.base)).trans (HB10.out.mono HP6.out.base)
      have hwy := way_fit w0 w10 B A3 (D.setS i (incCa s)) C R E P (n + 1) i (incCa s) key HP10.out (HF.out.incs HS.out).1 HS2.out HE3.out (HW0B.out w10 hbw10)
      rw [EQ3.out, ES3.out] at hwy
      have HCO := Lib.hid (HC4.out (by trivial) HNH.out)
      obtain ⟨o, ho⟩ : ∃ o, o = wayO D s.ar key (purM P key D.no) := ⟨_, rfl⟩
      rw [show wayO (D.setS i (incCa s)) (incCa s).ar key (purM P key (D.setS i (incCa s)).no) = o from ho.symm] at hwy
      have HWY := Lib.hid hwy
      have HBW10 := Lib.hid hbw10
      have HO := Lib.hid ho
      clear hwy hbw10 ho
      go_wp2_with fail
      refine HWY.out.mono ?_
      rintro e w11 ⟨rfl, hb11⟩
      have HP11 := Lib.hid (HP10.out.below hb11)
      have HB11 := Lib.hid (HBW10.out.trans (hb11.mono HP10.out.base))
      clear hb11
      cases o
      case some j =>
        have hjl : j < D.ak.length := HF.out.num.ar i s HS.out j (List.mem_of_find?_eq_some HO.out.symm)
        have HEQ : Hid (D.cameD R P i s key f = ((D.setS i (incWt (incCa s))).waitD j f).howD f 4) := Lib.hid (by rw [HCO.out _ HO.out.symm]; rfl)
        have HGL : Hid ((D.setS i (incWt (incCa s))).go.length = D.go.length) := Lib.hid rfl
        have hwl : ((D.setS i (incWt (incCa s))).wa j).length ≤ 800000 := Nat.le_trans (HF.out.wa j) (by have := HN.out.1; omega)
        have hj6 : (D.setS i (incWt (incCa s))).ak[j]? = some (D.K j) := Day.ak_at hjl
        have hsb6 := (HP11.out.sb HS2.out).2
        rw [ES3.out] at hsb6
        have c8 : w11.cell? ⟨A.sb i, 10, none⟩ = some (.int .i64 s.ld.wt) := cellF hsb6 10 rfl
        have z8 := frozF hsb6 10
        have hwf : IntKind.i64.wrap (s.ld.wt + 1) = s.ld.wt + 1 := IntWalk.i64_in _ (by have := (HF.out.st i s HS.out).wt; have := HN.out.1; omega)
        obtain ⟨w13, hw13⟩ : ∃ w13, w13 = w11.setCell ⟨A.sb i, 10, none⟩ (.int .i64 (s.ld.wt + 1)) := ⟨_, rfl⟩
        have hp6 : PD w13 B A3 (D.setS i (incWt (incCa s))) := by
          have h := HP11.out.setSto HS2.out 10 (.int .i64 (s.ld.wt + 1)) (incWt (incCa s)) rfl rfl rfl rfl
          rw [ES3.out, ← hw13] at h
          rw [← setS_setS D i (incCa s)]
          exact h
        have hbw : Below B w w13 := by rw [hw13]; exact HB11.out.setCell (by rw [← ES3.out]; exact (HP11.out.sb HS2.out).1) _
        have hl6 := HLR.out
        obtain ⟨D6, hD6⟩ : ∃ D6, D6 = D.setS i (incWt (incCa s)) := ⟨_, rfl⟩
        rw [← hD6] at hp6 hj6 HEQ HGL hwl
        have HW13 := Lib.hid hw13
        clear hjl hsb6 hw13 hD6
        go_upto_region 9 with (fail)
        rw [← HW13.out]
        clear c8 z8 hwf
        have hew : encW A3.ab f = [.int .i64 (f.ge : Nat), pv] := (WFit.same HWF.out (HL3.out A3 hl6).1).trans (by rw [HPV.out]; rfl)
        obtain ⟨ao, nn, cp, hv6, c56, ho6⟩ := wait_facts hp6 hj6
        have hx6 := hp6.fr (k := A.x.length) (by rw [hl6.x]; exact HX7.out)
        have x0 := cellF hx6 0 (v := .int .i64 (f.ge : Nat)) rfl
        have x1 := cellF hx6 1 (v := pv) rfl
        have l5 : A3.ab j < w13.heap.size := World.block_lt_of_cell? w13 _ c56
        have l7 : w.heap.size < w13.heap.size := World.block_lt_of_cell? w13 _ x0
        have hBW : Below w13.heap.size w13 (w13.drew.alloc (.cells #[.int .i64 (f.ge : Nat), pv] 150)) := ((Below.refl _ w13).drew).alloc (Nat.le_refl _) _
        have HO6 : Hid (Own (w13.drew.alloc (.cells #[.int .i64 (f.ge : Nat), pv] 150)) B 150 2 (encW A3.ab) (.slice ao nn cp) (D6.wa j)) := Lib.hid (ho6.drew1.al _)
        have HA6 : Hid ((w13.drew.alloc (.cells #[.int .i64 (f.ge : Nat), pv] 150)).heap[w13.heap.size]? = some (.cells (encW A3.ab f).toArray 150 (0, 0))) := Lib.hid (by rw [hew]; exact block_new w13.drew _)
        have HBS : Hid (B ≤ (w13.drew.alloc (.cells #[.int .i64 (f.ge : Nat), pv] 150)).heap.size) := Lib.hid (Nat.le_trans hp6.base hBW.size)
        have HNL : Hid ((D6.wa j).length * 16 ≤ 140737488355328) := Lib.hid (by have := hwl; omega)
        have HK6 := Lib.hid hp6
        have HJ6 := Lib.hid hj6
        have HV6 := Lib.hid hv6
        have HBW := Lib.hid hBW
        have HL6 := Lib.hid hl6
        have HBB := Lib.hid hbw
        clear hp6 hj6 hv6 hBW hl6 hbw ho6 hew hx6 hwl
        go_upto_region 11 with (fail)
        go_region_law (first | (refine step_pushB (enc := encW A3.ab) (v := .slice ao nn cp) (l := D6.wa j) rfl _ _ 151 rfl slWt (by decide) rfl rfl f rfl rfl HO6.out HA6.out HNL.out HBS.out ?_; intro v7 w7 ho7 hb7 hk7; obtain ⟨ao7, n7, cp7, rfl⟩ := Own.slv (encW_len A3.ab) ho7; obtain ⟨z5, y5⟩ := wait_after HK6.out HJ6.out HV6.out HBW.out hk7; have HDN := Lib.hid (wait_done HK6.out HJ6.out HV6.out HBW.out hb7 hk7 ho7); clear ho7 hb7 hk7) | fail)
        all_goals go_wp2_with fail
        all_goals go_meet
        all_goals exact ⟨_, _, 4, rfl, (show Aside _ from ⟨HDN.out.1, HL6.out.trans ⟨rfl, rfl, rfl, rfl, rfl, rfl, rfl, rfl, rfl, rfl, fun _ _ => rfl⟩ (Nat.le_refl _), HBB.out.trans HDN.out.2, HEQ.out, HGL.out⟩)⟩
      case none =>
        have hask := ask_fit w11 B A3 (D.setS i (incCa s)) (n + 1) i (incCa s) key true HP11.out (HF.out.incs HS.out).1 (by have := HN.out.1; omega) HS2.out
        rw [EQ3.out] at hask
        have HASK := Lib.hid hask
        clear hask
        go_wp2_with fail
        refine HASK.out.mono ?_
        rintro e w9 ⟨A6, rfl, hp6, hl6, hb6⟩
        obtain ⟨j, hj⟩ : ∃ j, j = D.ak.length := ⟨_, rfl⟩
        have hj6 : ((D.setS i (incCa s)).askD i (incCa s) key true).ak[j]? = some ⟨i, D.no, key, true⟩ := by
          rw [hj]
          show (D.ak ++ [_])[D.ak.length]? = _
          rw [List.getElem?_append_right (Nat.le_refl _)]
          simp
          rfl
        have ej : A6.ab (D.setS i (incCa s)).ak.length = A6.ab j := by rw [hj]; rfl
        rw [ej]
        have HEQ : Hid (D.cameD R P i s key f = (((D.setS i (incCa s)).askD i (incCa s) key true).waitD j f).howD f 3) := Lib.hid (by rw [HCO.out _ HO.out.symm, hj]; rfl)
        have HGL : Hid (((D.setS i (incCa s)).askD i (incCa s) key true).go.length = D.go.length) := Lib.hid rfl
        have hwl : (((D.setS i (incCa s)).askD i (incCa s) key true).wa j).length ≤ 800000 := by
          rw [hj]
          show (upF D.wa D.ak.length [] D.ak.length).length ≤ _
          rw [upF_same]
          exact Nat.zero_le _
        obtain ⟨D6, hD6⟩ : ∃ D6, D6 = (D.setS i (incCa s)).askD i (incCa s) key true := ⟨_, rfl⟩
        rw [← hD6] at hp6 hj6 HEQ HGL hwl
        have hbw : Below B w w9 := (HB11.out).trans hb6
        clear hj ej hD6 hb6 HASK
        have hew : encW A6.ab f = [.int .i64 (f.ge : Nat), pv] := (WFit.same HWF.out (HL3.out A6 hl6).1).trans (by rw [HPV.out]; rfl)
        obtain ⟨ao, nn, cp, hv6, c56, ho6⟩ := wait_facts hp6 hj6
        have hx6 := hp6.fr (k := A.x.length) (by rw [hl6.x]; exact HX7.out)
        have x0 := cellF hx6 0 (v := .int .i64 (f.ge : Nat)) rfl
        have x1 := cellF hx6 1 (v := pv) rfl
        have l5 : A6.ab j < w9.heap.size := World.block_lt_of_cell? w9 _ c56
        have l7 : w.heap.size < w9.heap.size := World.block_lt_of_cell? w9 _ x0
        have hBW : Below w9.heap.size w9 (w9.drew.alloc (.cells #[.int .i64 (f.ge : Nat), pv] 150)) := ((Below.refl _ w9).drew).alloc (Nat.le_refl _) _
        have HO6 : Hid (Own (w9.drew.alloc (.cells #[.int .i64 (f.ge : Nat), pv] 150)) B 150 2 (encW A6.ab) (.slice ao nn cp) (D6.wa j)) := Lib.hid (ho6.drew1.al _)
        have HA6 : Hid ((w9.drew.alloc (.cells #[.int .i64 (f.ge : Nat), pv] 150)).heap[w9.heap.size]? = some (.cells (encW A6.ab f).toArray 150 (0, 0))) := Lib.hid (by rw [hew]; exact block_new w9.drew _)
        have HBS : Hid (B ≤ (w9.drew.alloc (.cells #[.int .i64 (f.ge : Nat), pv] 150)).heap.size) := Lib.hid (Nat.le_trans hp6.base hBW.size)
        have HNL : Hid ((D6.wa j).length * 16 ≤ 140737488355328) := Lib.hid (by have := hwl; omega)
        have HK6 := Lib.hid hp6
        have HJ6 := Lib.hid hj6
        have HV6 := Lib.hid hv6
        have HBW := Lib.hid hBW
        have HL6 := Lib.hid hl6
        have HBB := Lib.hid hbw
        clear hp6 hj6 hv6 hBW hl6 hbw ho6 hew hx6 hwl
        go_upto_region 11 with (fail)
        go_region_law (first | (refine step_pushB (enc := encW A6.ab) (v := .slice ao nn cp) (l := D6.wa j) rfl _ _ 151 rfl slWt (by decide) rfl rfl f rfl rfl HO6.out HA6.out HNL.out HBS.out ?_; intro v7 w7 ho7 hb7 hk7; obtain ⟨ao7, n7, cp7, rfl⟩ := Own.slv (encW_len A6.ab) ho7; obtain ⟨z5, y5⟩ := wait_after HK6.out HJ6.out HV6.out HBW.out hk7; have HDN := Lib.hid (wait_done HK6.out HJ6.out HV6.out HBW.out hb7 hk7 ho7); clear ho7 hb7 hk7) | fail)
        all_goals go_wp2_with fail
        all_goals go_meet
        all_goals exact ⟨_, _, 3, rfl, (show Aside _ from ⟨HDN.out.1, HL6.out.trans ⟨rfl, rfl, rfl, rfl, rfl, rfl, rfl, rfl, rfl, rfl, fun _ _ => rfl⟩ (Nat.le_refl _), HBB.out.trans HDN.out.2, HEQ.out, HGL.out⟩)⟩
  obtain ⟨A', D', how, rfl, CS⟩ := hcut
  obtain ⟨w6, rfl⟩ : ∃ W : World, W = wc := ⟨_, rfl⟩
  have HC := Lib.hid CS.out
  clear CS
  have hx7 := HC.out.pd.fr (k := A.x.length) (by rw [HC.out.le.x]; exact HX7.out)
  have x0 := cellF hx7 0 (v := .int .i64 (f.ge : Nat)) rfl
  have x1 := cellF hx7 1 (v := pv) rfl
  have HEN : Hid (∀ (W : World) (A2 : Adr) (D2 : Day), PD W B A2 D2 → AdrLe A3 A2 D.ak.length → D.cameD R P i s key f = D2 → PD W B { A2 with x := A.x } (D.cameD R P i s key f) ∧ AdrLe A { A2 with x := A.x } D.ak.length) := Lib.hid (fun W A2 D2 h1 h2 h3 => by
    rw [h3]
    obtain ⟨g1, g2⟩ := HL3.out A2 h2
    obtain ⟨y, hy⟩ := HXY.out
    exact ⟨h1.dropFr ⟨y, by rw [g2]; exact hy⟩, g1⟩)
  cases hfa : f.ak with
  | some ja =>
    have hpv : pv = .pointer (some ⟨A.ab ja, 0, none⟩) := by rw [HPV.out, hfa]; rfl
    have HEQ : Hid (D.cameD R P i s key f = D') := Lib.hid (by rw [HC.out.eq]; unfold Day.howD; rw [hfa])
    subst hpv
    clear hfa hx7
    go_wp2_with fail
    go_end0
    exact ⟨_, rfl, (HEN.out _ _ _ HC.out.pd HC.out.le HEQ.out).1, (HEN.out _ _ _ HC.out.pd HC.out.le HEQ.out).2, HC.out.bel⟩
  | none =>
    have hpv : pv = .pointer none := by rw [HPV.out, hfa]; rfl
    have hgl : f.ge < D'.go.length := by
      rw [HC.out.go]
      have h := HWF.out
      unfold WFit at h
      rw [hfa] at h
      exact h
    have HEQ : Hid (D.cameD R P i s key f = { D' with go := D'.go.set f.ge { D'.G f.ge with ho := how } }) := Lib.hid (by rw [HC.out.eq]; unfold Day.howD; rw [hfa])
    subst hpv
    have hg := Day.go_at hgl
    have hneg : D'.go ≠ [] := fun e => by rw [e] at hgl; exact absurd hgl (by simp)
    obtain ⟨g2, cap2, hgv, hg1, hg2, hg3, hg4, hgc, hgf⟩ := Own.getk encN_len HC.out.pd.gots hneg
    have hqb := HC.out.pd.qb.2
    rw [HC.out.le.q, EQ3.out] at hqb
    have q7 : w6.cell? ⟨A.q, 7, none⟩ = some (.slice (some ⟨g2, 0, none⟩) D'.go.length cap2) := by rw [cellF hqb 7 rfl, ← hgv]; rfl
    have g4 : w6.cell? ⟨g2, f.ge * 5 + 4, none⟩ = some (.int .i64 (D'.G f.ge).ho) := hgc f.ge _ 4 _ hg rfl
    have f4 := hgf (f.ge * 5 + 4)
    have hgz : (f.ge : Int) < (D'.go.length : Int) := by omega
    have HOW : Hid (Own ((w6.setCell ⟨g2, f.ge * 5 + 4, none⟩ (.int .i64 how)).drew) B 57 5 encN (.slice (some ⟨g2, 0, none⟩) D'.go.length cap2) (D'.go.set f.ge { D'.G f.ge with ho := how })) := Lib.hid (by
      have ho := HC.out.pd.gots
      rw [hgv] at ho
      have h5 : Own (w6.setCell ⟨g2, f.ge * 5 + 4, none⟩ (.int .i64 how)) B 57 5 encN (.slice (some ⟨g2, 0, none⟩) D'.go.length cap2) (D'.go.set f.ge { D'.G f.ge with ho := how }) := Own.store encN_len ho rfl hg (show 4 < 5 by decide) rfl
      exact h5.drew1)
    have HON : Hid (Onl g2 w6 ((w6.setCell ⟨g2, f.ge * 5 + 4, none⟩ (.int .i64 how)).drew)) := Lib.hid ((Onl.set g2 w6 _ _).trans (Onl.of_below (Below.refl _ _).drew))
    have HGV := Lib.hid hgv
    have HG1 := Lib.hid hg1
    clear hfa hx7 hg hneg hqb hgc hgf hgv hg1 hg2 hg3 hg4 hgl
    go_upto_region 26 with (fail)
    go_still_tail 9, (by kernel_rfl)
    change wpList _ _ _ _ _ w6.drew
    go_wp2_with fail
    go_end0
    have hpe := HC.out.pd.setGo HGV.out (l' := D'.go.set f.ge { D'.G f.ge with ho := how }) (by rw [HGV.out]; exact HOW.out) HON.out HON.out.size
    exact ⟨rfl, _, (HEN.out _ _ _ hpe HC.out.le HEQ.out).1, (HEN.out _ _ _ hpe HC.out.le HEQ.out).2, HC.out.bel.trans (HON.out.toBelow HC.out.pd.base HG1.out)⟩
end Go.Proofs.YtehbmnkbmgnkfaaGreatDoor

/- run: the walk. -/
namespace Go.Proofs.YtehbmnkbmgnkfaaGreatDoor
open Go.RowKit

/-- Where the walk of run stands. -/
structure RunS (w : World) (B : Nat) (A : Adr) (P : List Pur) (L : List Gt) (I : Nat → Cfg → Prop) (k0 : Nat) (W : World) (k : Nat) (c : Cfg) : Prop where
  inv : I k c
  ex : ∃ A', PD W B A' c.D ∧ AdrLe A A' 0
  bel : Below B w W
  le : k ≤ k0
  due : c.m ≠ .out → (k < k0 ∨ due P L c)
theorem QCel {W : World} {B : Nat} {A : Adr} {D : Day} (h : PD W B A D) : ∃ ao cap, A.qv = .slice ao D.qu.length cap ∧ D.qu.length ≤ cap ∧ W.cell? ⟨A.q, 5, none⟩ = some (.slice ao D.qu.length cap) ∧
    (0 < D.qu.length → ∃ g, ao = some ⟨g, 0, none⟩ ∧ W.cell? ⟨g, 0, none⟩ = some (.int .i64 (hdE D).ti) ∧ W.cell? ⟨g, 1, none⟩ = some (.bool (hdE D).bk)) := by
  have ho := h.queue.own
  have hc := cellF h.qb.2 5 (v := A.qv) rfl
  by_cases hq : D.qu = []
  · obtain ⟨ao, cap, hv, hcap, -, -, -⟩ := Sl.own (encE_len A.ab) ho
    refine ⟨ao, cap, hv, hcap, by rw [← hv]; exact hc, fun h0 => ?_⟩
    rw [hq] at h0
    exact absurd h0 (by simp)
  · obtain ⟨g, cap, hv, h1, h2, h3, h4, h5, -⟩ := Own.getk (encE_len A.ab) ho hq
    refine ⟨_, cap, hv, h3, by rw [← hv]; exact hc, fun h0 => ⟨g, rfl, ?_, ?_⟩⟩
    · have h := h5 0 (hdE D) 0 _ (hat_some h0) rfl
      simpa using h
    · have h := h5 0 (hdE D) 1 _ (hat_some h0) rfl
      simpa using h
/-- heap.Pop: the first event. -/
theorem pop_any (w : World) (B : Nat) (A : Adr) (D : Day) (n q : Nat) (he : q = A.q) (h : PD w B A D) (hF : Fit n D) (hn : n ≤ 800000) (hq : 0 < D.qu.length) :
    Calls Tryz.prog 66 #[.iface 145 (.pointer (some ⟨q, 5, none⟩))] w fun e w' => ∃ v', e = .returned (.iface 143 (.agg #[.int .i64 (hdE D).ti, .bool (hdE D).bk, .pointer (some ⟨A.ab (hdE D).ak, 0, none⟩), .int .i64 (hdE D).an.ve, .int .i64 (hdE D).an.bo, .int .i64 (hdE D).an.si, .bool (hdE D).an.no, .string (hdE D).an.fr])) ∧ PD w' B { A with qv := v' } D.popD ∧ Below B w w' := by
  subst he
  have H := heapPop_any w A.q B A.ab D.K A.qv D.qu h.queue (Nat.le_trans hF.qu (by omega)) hq (fun y hy => h.askR (hF.num.qu y hy))
  rw [hpop_fst (List.length_pos_iff.1 hq)] at H
  exact H.mono fun e w' ⟨h1, v', h2, h3⟩ => ⟨v', h1, h.setQu h2 h3, h3.toBelow h.queue h.qb.1⟩
theorem RunS.turn {w W : World} {B : Nat} {A : Adr} {C : List Cch} {R : List Crl} {E : List Rel} {P : List Pur} {L : List Gt} {lim : Int} {I : Nat → Cfg → Prop} {k0 k : Nat} {c c' : Cfg} (h : RunS w B A P L I k0 W k c) (hI : RunInv C R E P L lim I) (hn : c.next C R E P L lim = some c') (hD : c'.D = c.D) : ∃ k', k' ≤ k ∧ RunS w B A P L I k0 W k' c' := by
  obtain ⟨k1, g1, g2, g3⟩ := due_step C R E P L lim hI h.inv h.le h.due hn
  obtain ⟨k2, e1, e2, e3⟩ := hI.step k c c' h.inv hn
  by_cases hk : k1 ≤ k
  · exact ⟨k1, hk, g1, by rw [hD]; exact h.ex, h.bel, g2, fun _ => g3⟩
  · refine ⟨k2, e2, e1, by rw [hD]; exact h.ex, h.bel, Nat.le_trans e2 h.le, fun _ => ?_⟩
    rcases g3 with g3 | g3
    · exact .inl (by omega)
    · exact .inr g3
theorem RunS.work {w W W' : World} {B : Nat} {A A' : Adr} {C : List Cch} {R : List Crl} {E : List Rel} {P : List Pur} {L : List Gt} {lim : Int} {I : Nat → Cfg → Prop} {k0 k : Nat} {c c' : Cfg} (h : RunS w B A P L I k0 W k c) (hI : RunInv C R E P L lim I) (hn : c.next C R E P L lim = some c') (hm : c'.m = c.m) (hp : PD W' B A' c'.D) (hl : AdrLe A A' 0) (hb : Below B w W') : ∃ k', k' < k ∧ RunS w B A P L I k0 W' k' c' := by
  obtain ⟨k2, e1, e2, e3⟩ := hI.step k c c' h.inv hn
  have e3 := e3 hm
  exact ⟨k2, e3, e1, ⟨A', hp, hl⟩, hb, by have := h.le; omega, fun _ => .inl (by have := h.le; omega)⟩
set_option maxRecDepth 100000 in
set_option maxHeartbeats 8000000 in
theorem run_any (w0 w : World) (B : Nat) (A : Adr) (D : Day) (C : List Cch) (R : List Crl) (E : List Rel) (P : List Pur) (L : List Gt) (vl : Value) (lim : Int) (I : Nat → Cfg → Prop) (k0 : Nat) (hI : RunInv C R E P L lim I) (h : PD w B A D) (h0 : I k0 ⟨.out, D, 0, 0⟩) (hE : EnvD w0 B A C R E P) (hw : Below w0.heap.size w0 w) (hL : Sl w0 3 encT vl L) (hl : 0 ≤ lim ∧ lim ≤ 1152921504606846976) (hP : P.length ≤ 1000 ∧ L.length ≤ 1000) (hPk : ∀ x, x ∈ P → x.ke.size ≤ 300) :
    Calls Tryz.prog 41 #[.pointer (some ⟨A.q, 0, none⟩), vl, .int .i64 lim] w fun e w' => ∃ A' k c, e = .returned (.tuple #[]) ∧ PD w' B A' c.D ∧ AdrLe A A' 0 ∧ Below B w w' ∧ I k c ∧ c.next C R E P L lim = none := by
  have HS0 : Hid (RunS w B A P L I k0 w k0 ⟨.out, D, 0, 0⟩) := Lib.hid ⟨h0, ⟨A, h, AdrLe.refl _ _⟩, Below.refl _ _, Nat.le_refl _, fun h => absurd rfl h⟩
  have HI := Lib.hid hI
  have HE := Lib.hid hE
  have HW0B : Hid (∀ W, Below B w W → Below w0.heap.size w0 W) := Lib.hid (fun W hb => hw.trans (hb.mono hE.le))
  have HLL := Lib.hid hL
  obtain ⟨al, capl, rfl, hcapl, -, -, hell⟩ := hL
  have HELL := Lib.hid hell
  have HEP := Lib.hid (show Sl w0 2 encG A.d3 P from hE.p)
  obtain ⟨ap, capp, hd3, hcapp, -, -, hepp⟩ := hE.p
  have HEPP := Lib.hid hepp
  have HD3 := Lib.hid hd3
  have HB0 : Hid (w0.heap.size ≤ B) := Lib.hid hE.le
  have hwl : IntKind.i64.wrap (lim + 1) = lim + 1 := IntWalk.i64_in _ (by omega)
  have HWL := Lib.hid hwl
  have HPK := Lib.hid hPk
  have hPl : P.length ≤ 9223372036854775807 := by omega
  have hLl : L.length ≤ 9223372036854775807 := by omega
  clear h h0 hE hw hell hepp hd3 hI hwl hPk
  go_enter Tryz.func41, Tryz.ntmps41
  go_wp2_with fail
  go_loopg [6, 7, 8, 10, 11, 12, 13] k0 (fun gg s6 s7 s8 s10 s11 s12 s13 wr => ∃ (k : Nat) (D : Day) (g p : Nat), k ≤ gg ∧ s6 = .int .i64 (g : Nat) ∧ s7 = .int .i64 (p : Nat) ∧ Aside (RunS w B A P L I k wr k ⟨.out, D, g, p⟩))
  case atStart => exact ⟨k0, D, 0, 0, Nat.le_refl _, rfl, rfl, (show Aside _ from HS0.out)⟩
  case round =>
    obtain ⟨wq, rfl⟩ : ∃ wq : World, wq = wr := ⟨_, rfl⟩
    obtain ⟨k, D, g, p, hgk, rfl, rfl, RS⟩ := hrel
    obtain ⟨A', hp0, hl0⟩ := RS.out.ex
    obtain ⟨hg0, hp0', -⟩ := HI.out.pos _ _ RS.out.inv
    dsimp only at hg0 hp0'
    obtain ⟨ao, qc, hqv, hqc, q5, hq1⟩ := QCel hp0
    have hqb := hp0.qb.2
    have eq : A'.q = A.q := hl0.q
    rw [eq] at q5 hqb
    have q3 : wq.cell? ⟨A.q, 3, none⟩ = some (.slice ap P.length capp) := by rw [← HD3.out, ← hl0.d3]; exact cellF hqb 3 rfl
    have HRS := Lib.hid RS.out
    have HP0 := Lib.hid hp0
    have HL0 := Lib.hid hl0
    have HQB := Lib.hid hqb
    have HGKO := Lib.hid hgk
    have HBW := Lib.hid (HW0B.out _ RS.out.bel)
    clear RS hp0 hl0 hqv hqb hgk HS0
    have hwl := HWL.out
    -- the queue
    go_upto_if 21 with (fail)
    clear hwl
    go_cut [8] (fun s8 W => s8 = .int .i64 (nxt1 D lim) ∧ wq = W)
    case first =>
      rename_i hK hB hJ hK2 hm1 hm2
      clear hB hK
      as_aux_lemma =>
        by_cases hq : 0 < D.qu.length
        · obtain ⟨gq, rfl, e0, e1⟩ := hq1 hq
          have hqz : (0 : Int) < (D.qu.length : Int) := by omega
          have hv : Hid (nxt1 D lim = min (lim + 1) (hdE D).ti) := Lib.hid (if_pos hq)
          go_wp2
          go_meet
          exact ⟨by rw [hv.out], rfl⟩
        · have hqz : ¬ (0 : Int) < (D.qu.length : Int) := by omega
          have hv : Hid (nxt1 D lim = lim + 1) := Lib.hid (if_neg hq)
          go_wp2
          go_meet
          exact ⟨by rw [hv.out], rfl⟩
    obtain ⟨rfl, rfl⟩ := hcut
    obtain ⟨t1, ht1⟩ : ∃ t, t = nxt1 D lim := ⟨_, rfl⟩
    rw [← ht1]
    have HT1 := Lib.hid ht1
    clear ht1
    -- the gets
    go_upto_if 34 with (fail)
    go_cut [8] (fun s8 W => s8 = .int .i64 (nxt2 D L g lim) ∧ wq = W)
    case first =>
      rename_i hK hB hJ hK2 hm1 hm2
      clear hB hK
      as_aux_lemma =>
        by_cases hg : g < L.length
        · have hgz : (g : Int) < (L.length : Int) := by omega
          obtain ⟨x, hx⟩ : ∃ x, L[g]? = some x := ⟨L[g], by simp [hg]⟩
          obtain ⟨b, off, hao, hc⟩ := HELL.out g x hx
          subst hao
          have p0 : w0.cell? ⟨b, off + g * 3, none⟩ = some (.int .i64 x.ti) := hc 0 _ rfl
          have c0 := (HBW.out.cell (p := ⟨b, off + g * 3, none⟩) (World.block_lt_of_cell? w0 _ p0)).trans p0
          have hv : Hid (nxt2 D L g lim = min t1 x.ti) := Lib.hid (by unfold nxt2; rw [if_pos hg, HT1.out, List.getD_eq_getElem?_getD, hx]; rfl)
          clear hc p0 hx
          go_wp2
          go_meet
          exact ⟨by rw [hv.out], rfl⟩
        · have hgz : ¬ (g : Int) < (L.length : Int) := by omega
          have hv : Hid (nxt2 D L g lim = t1) := Lib.hid (by unfold nxt2; rw [if_neg hg, HT1.out])
          go_wp2
          go_meet
          exact ⟨by rw [hv.out], rfl⟩
    obtain ⟨rfl, rfl⟩ := hcut
    obtain ⟨t2, ht2⟩ : ∃ t, t = nxt2 D L g lim := ⟨_, rfl⟩
    rw [← ht2]
    have HT2 := Lib.hid ht2
    clear ht2
    -- the purges
    go_upto_if 49 with (fail)
    go_cut [8] (fun s8 W => s8 = .int .i64 (nxtD D L P g p lim) ∧ wq = W)
    case first =>
      rename_i hK hB hJ hK2 hm1 hm2
      clear hB hK
      as_aux_lemma =>
        by_cases hp : p < P.length
        · have hpz : (p : Int) < (P.length : Int) := by omega
          obtain ⟨x, hx⟩ : ∃ x, P[p]? = some x := ⟨P[p], by simp [hp]⟩
          obtain ⟨b, off, hao, hc⟩ := HEPP.out p x hx
          subst hao
          have p0 : w0.cell? ⟨b, off + p * 2, none⟩ = some (.int .i64 x.ti) := hc 0 _ rfl
          have c0 := (HBW.out.cell (p := ⟨b, off + p * 2, none⟩) (World.block_lt_of_cell? w0 _ p0)).trans p0
          have hv : Hid (nxtD D L P g p lim = min t2 x.ti) := Lib.hid (by unfold nxtD; rw [if_pos hp, HT2.out, List.getD_eq_getElem?_getD, hx]; rfl)
          clear hc p0 hx
          go_wp2
          go_meet
          exact ⟨by rw [hv.out], rfl⟩
        · have hpz : ¬ (p : Int) < (P.length : Int) := by omega
          have hv : Hid (nxtD D L P g p lim = t2) := Lib.hid (by unfold nxtD; rw [if_neg hp, HT2.out])
          go_wp2
          go_meet
          exact ⟨by rw [hv.out], rfl⟩
    obtain ⟨rfl, rfl⟩ := hcut
    obtain ⟨t, ht⟩ : ∃ t, t = nxtD D L P g p lim := ⟨_, rfl⟩
    rw [← ht]
    have HT := Lib.hid ht
    clear ht
    by_cases hlt : lim < t
    · have HNO : Hid ((⟨.out, D, g, p⟩ : Cfg).next C R E P L lim = none) := Lib.hid (by unfold Cfg.next; dsimp only; rw [if_pos (by rw [← HT.out]; exact hlt)])
      go_wp2_with fail
      ((try simp only [Exit.inBlock, Exit.then]); refine bodyPost_ret (results_none rfl _ _ _) rfl ?_)
      exact ⟨rfl, A', k, _, HP0.out, HL0.out, HRS.out.bel, HRS.out.inv, HNO.out⟩
    -- the time
    have HNX : Hid ((⟨.out, D, g, p⟩ : Cfg).next C R E P L lim = some ⟨.pur, D.nowD t, g, p⟩) := Lib.hid (by unfold Cfg.next; dsimp only; rw [if_neg (by rw [← HT.out]; exact hlt), ← HT.out])
    have f8 := frozF HQB.out 8
    have c8 := cellF HQB.out 8 (v := .int .i64 D.no) rfl
    obtain ⟨w2, hw2⟩ : ∃ w2, w2 = wq.setCell ⟨A.q, 8, none⟩ (.int .i64 t) := ⟨_, rfl⟩
    have hp2 : PD w2 B A' (D.nowD t) := by
      have h := HP0.out.setNow t
      rw [HL0.out.q, ← hw2] at h
      exact h
    have hb2 : Below B w w2 := by rw [hw2]; exact HRS.out.bel.setCell (by rw [← HL0.out.q]; exact HP0.out.qb.1) _
    have HR2 : Hid (∃ k', RunS w B A P L I k w2 k' ⟨.pur, D.nowD t, g, p⟩) := Lib.hid (by
      obtain ⟨k', h1, h2, h3⟩ := due_step C R E P L lim HI.out HRS.out.inv (Nat.le_refl k) (fun h => absurd rfl h) HNX.out
      exact ⟨k', h1, ⟨A', hp2, HL0.out⟩, hb2, h2, fun _ => h3⟩)
    have HW2 := Lib.hid hw2
    clear hp2 hb2 hw2 q5 q3 hq1
    go_upto_block 2 with (fail)
    rw [← HW2.out]
    clear f8 c8
    obtain ⟨k2, HR2⟩ := HR2.out
    have HR2 := Lib.hid HR2
    go_cut [7] (fun s7 W => ∃ (k' : Nat) (D' : Day) (p' : Nat), s7 = .int .i64 (p' : Nat) ∧ Aside (RunS w B A P L I k W k' ⟨.bak, D', g, p'⟩) ∧ Aside (D'.no = t))
    case first =>
      rename_i hK hB hJ hK2 hm1 hm2
      clear hB hK
      as_aux_lemma =>
        go_wp2_with fail
        go_loopg [7, 10, 96] k (fun gg s7 s10 s96 wr => ∃ (k' : Nat) (D' : Day) (p' : Nat), k' ≤ gg ∧ s7 = .int .i64 (p' : Nat) ∧ Aside (RunS w B A P L I k wr k' ⟨.pur, D', g, p'⟩) ∧ Aside (D'.no = t))
        case atStart => exact ⟨k2, _, p, HR2.out.le, rfl, (show Aside _ from HR2.out), (show Aside (_ = _) from rfl)⟩
        case round =>
          obtain ⟨wp, rfl⟩ : ∃ wp : World, wp = wr := ⟨_, rfl⟩
          obtain ⟨k', D', p', hgk, rfl, RS, NO⟩ := hrel
          obtain ⟨A1, hp1, hl1⟩ := RS.out.ex
          have hqb := hp1.qb.2
          rw [show A1.q = A.q from hl1.q] at hqb
          have q3 : wp.cell? ⟨A.q, 3, none⟩ = some (.slice ap P.length capp) := by rw [← HD3.out, ← hl1.d3]; exact cellF hqb 3 rfl
          have HRS := Lib.hid RS.out
          have HNO := Lib.hid NO.out
          have HP1 := Lib.hid hp1
          have HL1 := Lib.hid hl1
          have HQB := Lib.hid hqb
          have HGK := Lib.hid hgk
          have HBW1 := Lib.hid (HW0B.out _ RS.out.bel)
          have HEXIT : Hid (¬ purgeDue P ⟨.pur, D', g, p'⟩ → ∃ k'', RunS w B A P L I k wp k'' ⟨.bak, D', g, p'⟩) := Lib.hid (fun hn => by
            obtain ⟨k'', _, h2⟩ := HRS.out.turn HI.out (c' := ⟨.bak, D', g, p'⟩) (by unfold Cfg.next; dsimp only; rw [if_neg hn]) rfl
            exact ⟨k'', h2⟩)
          clear RS NO hp1 hl1 hqb hgk HR2
          by_cases hp : p' < P.length
          case neg =>
            have hpz : ¬ (p' : Int) < (P.length : Int) := by omega
            have hpd : decide ((p' : Int) < (P.length : Int)) = false := decide_eq_false hpz
            obtain ⟨k'', hK⟩ := HEXIT.out (fun h => hp h.1)
            have HK := Lib.hid hK
            clear hK
            go_wp2
            go_meet
            exact ⟨k'', D', p', rfl, (show Aside _ from HK.out), (show Aside (_ = _) from HNO.out)⟩
          have hpz : (p' : Int) < (P.length : Int) := by omega
          obtain ⟨x, hx⟩ : ∃ x, P[p']? = some x := ⟨P[p'], by simp [hp]⟩
          obtain ⟨b, off, hao, hc⟩ := HEPP.out p' x hx
          subst hao
          have p0 : w0.cell? ⟨b, off + p' * 2, none⟩ = some (.int .i64 x.ti) := hc 0 _ rfl
          have p1 : w0.cell? ⟨b, off + p' * 2 + 1, none⟩ = some (.string x.ke) := hc 1 _ rfl
          have c0 := (HBW1.out.cell (p := ⟨b, off + p' * 2, none⟩) (World.block_lt_of_cell? w0 _ p0)).trans p0
          have HGD : Hid (P.getD p' default = x) := Lib.hid (by rw [List.getD_eq_getElem?_getD, hx]; rfl)
          have HX := Lib.hid hx
          have HPP1 := Lib.hid p1
          clear hc p0 p1 hx
          by_cases ht : x.ti = t
          case neg =>
            have htb : (x.ti == t) = false := by rw [beq_eq_false_iff_ne]; exact ht
            obtain ⟨k'', hK⟩ := HEXIT.out (fun h => ht (by rw [← HGD.out, ← HNO.out]; exact h.2))
            have HK := Lib.hid hK
            clear hK ht
            go_wp2
            go_meet
            exact ⟨k'', D', p', rfl, (show Aside _ from HK.out), (show Aside (_ = _) from HNO.out)⟩
          have htb : (x.ti == t) = true := by rw [beq_iff_eq]; exact ht
          have HNX : Hid ((⟨.pur, D', g, p'⟩ : Cfg).next C R E P L lim = some ⟨.pur, D'.purD x.ke, g, p' + 1⟩) := Lib.hid (by unfold Cfg.next; dsimp only; rw [if_pos ⟨hp, by rw [HGD.out, HNO.out]; exact ht⟩, HGD.out])
          have hwp : IntKind.i64.wrap ((p' : Int) + 1) = (p' : Int) + 1 := IntWalk.i64_in _ (by omega)
          have HWP := Lib.hid hwp
          obtain ⟨n, hn, hF⟩ := HI.out.fit _ _ HRS.out.inv
          have HFT := Lib.hid hF
          have hks : ∀ (i : Nat) (s : Sto), D'.st[i]? = some s → True := fun _ _ _ => trivial
          obtain ⟨so, scap, hsv, hscap, hsmax, -, hsel⟩ := Sl.own (encP_len A1.sb) HP1.out.stores
          rw [List.length_range] at hsv
          have q4 : wp.cell? ⟨A.q, 4, none⟩ = some (.slice so D'.st.length scap) := by rw [cellF HQB.out 4 rfl, ← hsv]; rfl
          have HSV := Lib.hid hsv
          have hkx : x.ke.size ≤ maxLen := Nat.le_trans (HPK.out x (List.mem_of_getElem? HX.out)) (by unfold maxLen; omega)
          have HKX := Lib.hid hkx
          have hsm : D'.st.length ≤ 9223372036854775807 := Nat.le_trans (HI.out.pos _ _ HRS.out.inv).2.2 (by omega)
          clear ht hwp hF hsv hks hsel hsmax hscap hkx
          go_upto_region 12 with (fail)
          clear c0 htb
          go_wp2_with fail
          clear q4
          go_loopg [10, 96] D'.st.length (fun gg s10 s96 wr => ∃ i : Nat, i ≤ D'.st.length ∧ D'.st.length - i ≤ gg ∧ s96 = .int .i64 i ∧ Aside (PD wr B A1 (D'.purU x.ke i)) ∧ Aside (Below B w wr))
          case atStart => exact ⟨0, Nat.zero_le _, by omega, rfl, (show Aside _ by rw [Day.purU_zero]; exact HP1.out), (show Aside _ from HRS.out.bel)⟩
          case round =>
            obtain ⟨ws, rfl⟩ : ∃ ws : World, ws = wr := ⟨_, rfl⟩
            obtain ⟨i, hi, hgi, rfl, PU, BU⟩ := hrel
            have HPU := Lib.hid PU.out
            have HBU := Lib.hid BU.out
            clear PU BU
            have hqb := HPU.out.qb.2
            rw [show A1.q = A.q from HL1.out.q] at hqb
            by_cases hil : i < D'.st.length
            · have hiz : (i : Int) < (D'.st.length : Int) := by omega
              have hs : (D'.purU x.ke i).st[i]? = some (D'.S i) := Day.purU_at hil
              have hne : List.range (D'.purU x.ke i).st.length ≠ [] := fun e => by rw [List.range_eq_nil, Day.purU_len] at e; omega
              obtain ⟨gs, cap2, hv2, hg1, hg2, hg3, hg4, hgc, -⟩ := Own.getk (encP_len A1.sb) HPU.out.stores hne
              rw [List.length_range, Day.purU_len, HSV.out] at hv2
              simp only [Value.slice.injEq] at hv2
              obtain ⟨hso, -, -⟩ := hv2
              subst hso
              have s0 : ws.cell? ⟨gs, i, none⟩ = some (.pointer (some ⟨A.sb i, 0, none⟩)) := by rw [← show A1.sb = A.sb from HL1.out.sb]; have h := hgc i i 0 _ (by simp [Day.purU_len, hil]) rfl; simpa using h
              have hsb := (HPU.out.sb hs).2
              rw [show A1.sb = A.sb from HL1.out.sb] at hsb
              have c5 : ws.cell? ⟨A.sb i, 5, none⟩ = some (.map (some (A.mb i))) := by rw [← show A1.mb = A.mb from HL1.out.mb]; exact cellF hsb 5 rfl
              have q3 : ws.cell? ⟨A.q, 3, none⟩ = some (.slice (some ⟨b, off, none⟩) P.length capp) := by rw [← HD3.out, ← HL1.out.d3]; exact cellF hqb 3 rfl
              have hb0 := HW0B.out _ HBU.out
              have c1 := (hb0.cell (p := ⟨b, off + p' * 2 + 1, none⟩) (World.block_lt_of_cell? w0 _ HPP1.out)).trans HPP1.out
              obtain ⟨hmb, hmp⟩ := HPU.out.map hs
              rw [show A1.mb = A.mb from HL1.out.mb] at hmb hmp
              obtain ⟨w9, hdl, hm9, hg9⟩ := (show MapH ws.drew (A.mb i) D'.pu (D'.S i).hm (D'.S i).ks from hmp).del x.ke HKX.out 0
              have hon : Onl (A.mb i) ws w9 := (Onl.of_below (Below.refl _ ws).drew).trans hg9
              have hp9 : PD w9 B A1 (D'.purU x.ke (i + 1)) := by
                have h := HPU.out.setMap hs (W' := w9) (n := D'.pu) (f := (D'.S i).hm) (ks := rmv x.ke (D'.S i).ks) (by rw [show A1.mb = A.mb from HL1.out.mb]; exact hm9) (Nat.le_refl _) (by rw [show A1.mb = A.mb from HL1.out.mb]; exact hon)
                rw [← Day.purU_next hil]
                exact h
              have HP9 := Lib.hid hp9
              have HB9 : Hid (Below B w w9) := Lib.hid (HBU.out.trans (Onl.toBelow hon HPU.out.base hmb))
              have hdl' : (Builtin.delete_ #[133, 9] 0 #[.map (some (A.mb i)), .string x.ke]).run Tryz.prog ws.drew = .ok (.tuple #[]) w9 := hdl
              have HGI := Lib.hid (And.intro hgi hil)
              clear hqb hs hne hg1 hg2 hg3 hg4 hgc hsb hb0 hmb hmp hdl hm9 hg9 hon hp9 hgi
              go_upto_region 15 with (fail)
              clear s0
              go_still_tail 13, (by kernel_rfl)
              change wpList _ _ _ _ _ ws.drew
              go_wp2_with fail
              go_roundg (D'.st.length - (i + 1))
              case measure => have := HGI.out; omega
              case rel => exact ⟨i + 1, by have := HGI.out; omega, by omega, by go_num, (show Aside _ from HP9.out), (show Aside _ from HB9.out)⟩
            · obtain rfl : i = D'.st.length := by omega
              have hpu : PD ws B A1 (D'.purD x.ke) := by rw [← Day.purU_all]; exact HPU.out
              obtain ⟨k'', hk1, hk2⟩ := HRS.out.work HI.out HNX.out rfl hpu HL1.out HBU.out
              have HK := Lib.hid (And.intro hk1 hk2)
              have hwp := HWP.out
              clear hpu hk1 hk2 hqb
              go_wp2_with fail
              go_roundg k''
              case measure => have := HK.out.1; have := HGK.out; omega
              case rel => exact ⟨k'', _, p' + 1, Nat.le_refl _, by go_num, (show Aside _ from HK.out.2), (show Aside (_ = _) from HNO.out)⟩
    obtain ⟨k3, D3, p3, rfl, RS3, NO3⟩ := hcut
    obtain ⟨w3, rfl⟩ : ∃ W : World, W = wc := ⟨_, rfl⟩
    have HR3 := Lib.hid RS3.out
    have HN3 := Lib.hid NO3.out
    clear RS3 NO3 HR2
    go_upto_block 6 with (fail)
    go_cut [] (fun W => ∃ (k' : Nat) (D' : Day), Aside (RunS w B A P L I k W k' ⟨.get, D', g, p3⟩) ∧ Aside (D'.no = t))
    case first =>
      rename_i hK hB hJ hK2 hm1 hm2
      clear hB hK
      as_aux_lemma =>
        go_wp2_with fail
        go_loopg [11] k (fun gg s11 wr => ∃ (k' : Nat) (D' : Day), k' ≤ gg ∧ Aside (RunS w B A P L I k wr k' ⟨.bak, D', g, p3⟩) ∧ Aside (D'.no = t))
        case atStart => exact ⟨k3, D3, HR3.out.le, (show Aside _ from HR3.out), (show Aside (_ = _) from HN3.out)⟩
        case round =>
          obtain ⟨wp, rfl⟩ : ∃ wp : World, wp = wr := ⟨_, rfl⟩
          obtain ⟨k', D', hgk, RS, NO⟩ := hrel
          obtain ⟨A1, hp1, hl1⟩ := RS.out.ex
          obtain ⟨ao, qc, hqv, hqc, q5, hq1⟩ := QCel hp1
          rw [show A1.q = A.q from hl1.q] at q5
          have HRS := Lib.hid RS.out
          have HNO := Lib.hid NO.out
          have HP1 := Lib.hid hp1
          have HL1 := Lib.hid hl1
          have HGK := Lib.hid hgk
          obtain ⟨n, hn, hF⟩ := HI.out.fit _ _ HRS.out.inv
          have HFT := Lib.hid hF
          clear RS NO hp1 hl1 hgk hqv hF
          have HEXIT : Hid (¬ (headDue ⟨.bak, D', g, p3⟩ ∧ (hdE D').bk = true) → ∃ k'', RunS w B A P L I k wp k'' ⟨.get, D', g, p3⟩) := Lib.hid (fun hn => by
            obtain ⟨k'', _, h2⟩ := HRS.out.turn HI.out (c' := ⟨.get, D', g, p3⟩) (by unfold Cfg.next; dsimp only; rw [if_neg hn]) rfl
            exact ⟨k'', h2⟩)
          clear HR3 HN3
          by_cases hq : 0 < D'.qu.length
          case neg =>
            have hqz : ¬ (0 : Int) < (D'.qu.length : Int) := by omega
            have hqd : decide ((0 : Int) < (D'.qu.length : Int)) = false := decide_eq_false hqz
            obtain ⟨k'', hK⟩ := HEXIT.out (fun h => hq h.1.1)
            have HK := Lib.hid hK
            clear hK hq hq1
            go_wp2
            go_meet
            exact ⟨k'', D', (show Aside _ from HK.out), (show Aside (_ = _) from HNO.out)⟩
          have hqz : (0 : Int) < (D'.qu.length : Int) := by omega
          have hqd : decide ((0 : Int) < (D'.qu.length : Int)) = true := decide_eq_true hqz
          obtain ⟨gq, rfl, e0, e1⟩ := hq1 hq
          by_cases ht : (hdE D').ti = t
          case neg =>
            have htb : ((hdE D').ti == t) = false := by rw [beq_eq_false_iff_ne]; exact ht
            obtain ⟨k'', hK⟩ := HEXIT.out (fun h => ht (by rw [← HNO.out]; exact h.1.2))
            have HK := Lib.hid hK
            clear hK hq hq1 ht
            go_wp2
            go_meet
            exact ⟨k'', D', (show Aside _ from HK.out), (show Aside (_ = _) from HNO.out)⟩
          have htb : ((hdE D').ti == t) = true := by rw [beq_iff_eq]; exact ht
          obtain ⟨bk, hbk⟩ : ∃ b, b = (hdE D').bk := ⟨_, rfl⟩
          rw [← hbk] at e1
          have HBK := Lib.hid hbk
          have HT3 := Lib.hid ht
          clear hbk ht hq1
          cases bk
          case false =>
            obtain ⟨k'', hK⟩ := HEXIT.out (fun h => by rw [← HBK.out] at h; exact absurd h.2 (by simp))
            have HK := Lib.hid hK
            clear hK hq
            go_wp2
            go_meet
            exact ⟨k'', D', (show Aside _ from HK.out), (show Aside (_ = _) from HNO.out)⟩
          have hHD : headDue ⟨.bak, D', g, p3⟩ := ⟨hq, by rw [HNO.out]; exact HT3.out⟩
          have HHD := Lib.hid hHD
          clear hHD
          go_upto_region 18 with (fail)
          clear e0 e1 q5 htb hqd
          have hpop := pop_any wp B A1 D' n A.q HL1.out.q.symm HP1.out HFT.out (by omega) hq
          obtain ⟨e, he⟩ : ∃ e, e = hdE D' := ⟨_, rfl⟩
          rw [← he] at hpop
          have hjl : e.ak < D'.ak.length := by rw [he]; exact HFT.out.num.qu _ (hdE_mem hq)
          have hae : AFit e.an := by rw [he]; exact HFT.out.qa _ (hdE_mem hq)
          obtain ⟨ab, hab⟩ : ∃ x, x = A1.ab e.ak := ⟨_, rfl⟩
          rw [← hab] at hpop
          have HPOP := Lib.hid hpop
          have HEE := Lib.hid he
          have HJL := Lib.hid hjl
          have HAE := Lib.hid hae
          have HAB := Lib.hid hab
          have hta := assertEv
          clear hpop he hjl hae hab
          go_wp2_with fail
          refine HPOP.out.mono ?_
          rintro r w1 ⟨v1, rfl, hp2, hb2⟩
          obtain ⟨w2, hw2⟩ : ∃ W, W = w1.alloc (.cells #[.int .i64 e.ti, .bool e.bk, .pointer (some ⟨ab, 0, none⟩), .int .i64 e.an.ve, .int .i64 e.an.bo, .int .i64 e.an.si, .bool e.an.no, .string e.an.fr] 143) := ⟨_, rfl⟩
          have hp3 := hp2.addFr (.cells #[.int .i64 e.ti, .bool e.bk, .pointer (some ⟨ab, 0, none⟩), .int .i64 e.an.ve, .int .i64 e.an.bo, .int .i64 e.an.si, .bool e.an.no, .string e.an.fr] 143 (0, 0))
          rw [← hw2] at hp3
          obtain ⟨A2, hA2⟩ : ∃ A2, A2 = { A1 with qv := v1, x := A1.x ++ [(w1.heap.size, Obj.cells #[.int .i64 e.ti, .bool e.bk, .pointer (some ⟨ab, 0, none⟩), .int .i64 e.an.ve, .int .i64 e.an.bo, .int .i64 e.an.si, .bool e.an.no, .string e.an.fr] 143 (0, 0))] } := ⟨_, rfl⟩
          replace hp3 : PD w2 B A2 D'.popD := by rw [hA2]; exact hp3
          have hb3 : Below B w w2 := by rw [hw2]; exact (HRS.out.bel.trans hb2).alloc hp2.base _
          have hF2 : Fit n D'.popD := HFT.out.pop hq
          have HL2 : Hid (∀ A' m, AdrLe A2 A' m → AdrLe A { A' with x := A.x } 0) := Lib.hid (by
            intro A' m hl
            rw [hA2] at hl
            have h1 := HL1.out
            exact ⟨hl.q.trans h1.q, hl.d0.trans h1.d0, hl.d1.trans h1.d1, hl.d2.trans h1.d2, hl.d3.trans h1.d3, hl.sv.trans h1.sv, hl.gv.trans h1.gv, hl.sb.trans h1.sb, hl.mb.trans h1.mb, rfl, fun j hj => absurd hj (by omega)⟩)
          have HXX : Hid (∀ A' m, AdrLe A2 A' m → ∃ y, A'.x = A.x ++ y) := Lib.hid (by
            intro A' m hl
            rw [hl.x, hA2, ← HL1.out.x]
            exact ⟨_, rfl⟩)
          have HE2 : Hid (EnvD w0 B A2 C R E P) := Lib.hid (by rw [hA2]; exact ⟨(HE.out.adr HL1.out).le, (HE.out.adr HL1.out).c, (HE.out.adr HL1.out).r, (HE.out.adr HL1.out).e, (HE.out.adr HL1.out).p, HE.out.rb, HE.out.eb⟩)
          have HA2 : Hid (A2.q = A.q ∧ A2.sb = A.sb ∧ A2.ab e.ak = ab ∧ A2.x[A1.x.length]? = some (w1.heap.size, Obj.cells #[.int .i64 e.ti, .bool e.bk, .pointer (some ⟨ab, 0, none⟩), .int .i64 e.an.ve, .int .i64 e.an.bo, .int .i64 e.an.si, .bool e.an.no, .string e.an.fr] 143 (0, 0))) := Lib.hid (by rw [hA2]; exact ⟨HL1.out.q, HL1.out.sb, HAB.out.symm, by simp⟩)
          have hk := hp3.fr HA2.out.2.2.2
          have HP3 := Lib.hid hp3
          have HB3 := Lib.hid hb3
          have HF2 := Lib.hid hF2
          have HW2 := Lib.hid hw2
          have HK := Lib.hid hk
          clear hp2 hb2 hp3 hb3 hw2 hF2 hA2 hk
          have HJB : Hid (e.ak ∈ (D'.popD.S (D'.popD.K e.ak).ca).ar) := Lib.hid (by
            have h := HI.out.back _ _ HRS.out.inv rfl HHD.out HBK.out.symm
            rw [HEE.out]
            exact h)
          have hback := back_any w0 w2 B A2 D'.popD C R E P n e.ak e.an HP3.out HF2.out hn HJL.out HJB.out HAE.out HE2.out (HW0B.out _ HB3.out)
          rw [HA2.out.1, HA2.out.2.2.1] at hback
          have HBACK := Lib.hid hback
          have HNX : Hid ((⟨.bak, D', g, p3⟩ : Cfg).next C R E P L lim = some ⟨.bak, D'.popD.backD R P e.ak e.an, g, p3⟩) := Lib.hid (by
            unfold Cfg.next; dsimp only
            rw [if_pos ⟨HHD.out, HBK.out.symm⟩, HEE.out])
          clear hback
          go_upto_region 19 with (fail)
          rw [← HW2.out]
          clear hta
          have b2 := cellF HK.out 2 (v := .pointer (some ⟨ab, 0, none⟩)) rfl
          have b3 := cellF HK.out 3 (v := .int .i64 e.an.ve) rfl
          have b4 := cellF HK.out 4 (v := .int .i64 e.an.bo) rfl
          have b5 := cellF HK.out 5 (v := .int .i64 e.an.si) rfl
          have b6 := cellF HK.out 6 (v := .bool e.an.no) rfl
          have b7 := cellF HK.out 7 (v := .string e.an.fr) rfl
          go_wp2_with fail
          refine HBACK.out.mono ?_
          rintro r w4 ⟨A4, rfl, hp4, hl4, hb4⟩
          obtain ⟨k'', hk1, hk2⟩ := HRS.out.work HI.out HNX.out rfl (hp4.dropFr (HXX.out A4 _ hl4)) (HL2.out A4 _ hl4) (HB3.out.trans hb4)
          have HKK := Lib.hid (And.intro hk1 hk2)
          have HNO4 : Hid ((D'.popD.backD R P e.ak e.an).no = t) := Lib.hid (by rw [Day.backD_no]; exact HNO.out)
          clear hp4 hl4 hb4 hk1 hk2 b2 b3 b4 b5 b6 b7
          go_wp2_with fail
          go_roundg k''
          case measure => have := HKK.out.1; have := HGK.out; omega
          case rel => exact ⟨k'', _, Nat.le_refl _, (show Aside _ from HKK.out.2), (show Aside (_ = _) from HNO4.out)⟩
    obtain ⟨k4, D4, RS4, NO4⟩ := hcut
    obtain ⟨w4, rfl⟩ : ∃ W : World, W = wc := ⟨_, rfl⟩
    have HR4 := Lib.hid RS4.out
    have HN4 := Lib.hid NO4.out
    clear RS4 NO4 HR3 HN3
    go_upto_block 8 with (fail)
    go_cut [6] (fun s6 W => ∃ (k' : Nat) (D' : Day) (g' : Nat), s6 = .int .i64 (g' : Nat) ∧ Aside (RunS w B A P L I k W k' ⟨.arr, D', g', p3⟩) ∧ Aside (D'.no = t))
    case first =>
      rename_i hK hB hJ hK2 hm1 hm2
      clear hB hK
      as_aux_lemma =>
        go_wp2_with fail
        go_loopg [6] k (fun gg s6 wr => ∃ (k' : Nat) (D' : Day) (g' : Nat), k' ≤ gg ∧ s6 = .int .i64 (g' : Nat) ∧ Aside (RunS w B A P L I k wr k' ⟨.get, D', g', p3⟩) ∧ Aside (D'.no = t))
        case atStart => exact ⟨k4, D4, g, HR4.out.le, rfl, (show Aside _ from HR4.out), (show Aside (_ = _) from HN4.out)⟩
        case round =>
          obtain ⟨wp, rfl⟩ : ∃ wp : World, wp = wr := ⟨_, rfl⟩
          obtain ⟨k', D', g', hgk, rfl, RS, NO⟩ := hrel
          obtain ⟨A1, hp1, hl1⟩ := RS.out.ex
          have HRS := Lib.hid RS.out
          have HNO := Lib.hid NO.out
          have HP1 := Lib.hid hp1
          have HL1 := Lib.hid hl1
          have HGK := Lib.hid hgk
          have HBW1 := Lib.hid (HW0B.out _ RS.out.bel)
          obtain ⟨n, hn, hF⟩ := HI.out.fit _ _ HRS.out.inv
          have HFT := Lib.hid hF
          have HEXIT : Hid (¬ getDue L ⟨.get, D', g', p3⟩ → ∃ k'', RunS w B A P L I k wp k'' ⟨.arr, D', g', p3⟩) := Lib.hid (fun hn => by
            obtain ⟨k'', _, h2⟩ := HRS.out.turn HI.out (c' := ⟨.arr, D', g', p3⟩) (by unfold Cfg.next; dsimp only; rw [if_neg hn]) rfl
            exact ⟨k'', h2⟩)
          clear RS NO hp1 hl1 hgk hF HR4 HN4
          by_cases hg : g' < L.length
          case neg =>
            have hgz : ¬ (g' : Int) < (L.length : Int) := by omega
            have hgd : decide ((g' : Int) < (L.length : Int)) = false := decide_eq_false hgz
            obtain ⟨k'', hK⟩ := HEXIT.out (fun h => hg h.1)
            have HK := Lib.hid hK
            clear hK hg
            go_wp2
            go_meet
            exact ⟨k'', D', g', rfl, (show Aside _ from HK.out), (show Aside (_ = _) from HNO.out)⟩
          have hgz : (g' : Int) < (L.length : Int) := by omega
          have hgd : decide ((g' : Int) < (L.length : Int)) = true := decide_eq_true hgz
          obtain ⟨x, hx⟩ : ∃ x, L[g']? = some x := ⟨L[g'], by simp [hg]⟩
          obtain ⟨b, off, hao, hc⟩ := HELL.out g' x hx
          subst hao
          have p0 : w0.cell? ⟨b, off + g' * 3, none⟩ = some (.int .i64 x.ti) := hc 0 _ rfl
          have p1 : w0.cell? ⟨b, off + g' * 3 + 1, none⟩ = some (.string x.ca) := hc 1 _ rfl
          have p2 : w0.cell? ⟨b, off + g' * 3 + 2, none⟩ = some (.string x.ke) := hc 2 _ rfl
          have c0 := (HBW1.out.cell (p := ⟨b, off + g' * 3, none⟩) (World.block_lt_of_cell? w0 _ p0)).trans p0
          have HGD : Hid (L.getD g' default = x) := Lib.hid (by rw [List.getD_eq_getElem?_getD, hx]; rfl)
          have HSS : Hid (∀ W : World, Below B w W → W.cell? ⟨b, off + g' * 3 + 1, none⟩ = some (.string x.ca) ∧ W.cell? ⟨b, off + g' * 3 + 2, none⟩ = some (.string x.ke)) := Lib.hid fun W hb => ⟨((HW0B.out _ hb).cell (p := ⟨b, off + g' * 3 + 1, none⟩) (World.block_lt_of_cell? w0 _ p1)).trans p1, ((HW0B.out _ hb).cell (p := ⟨b, off + g' * 3 + 2, none⟩) (World.block_lt_of_cell? w0 _ p2)).trans p2⟩
          clear hc p0 p1 p2 hx
          by_cases ht : x.ti = t
          case neg =>
            have htb : (x.ti == t) = false := by rw [beq_eq_false_iff_ne]; exact ht
            obtain ⟨k'', hK⟩ := HEXIT.out (fun h => ht (by rw [← HGD.out, ← HNO.out]; exact h.2))
            have HK := Lib.hid hK
            clear hK ht hg
            go_wp2
            go_meet
            exact ⟨k'', D', g', rfl, (show Aside _ from HK.out), (show Aside (_ = _) from HNO.out)⟩
          have htb : (x.ti == t) = true := by rw [beq_iff_eq]; exact ht
          have hdu : getDue L ⟨.get, D', g', p3⟩ := ⟨hg, by rw [HGD.out, HNO.out]; exact ht⟩
          obtain ⟨i, hi1, hi2, hi3, hi4⟩ := HI.out.get _ _ HRS.out.inv rfl hdu
          rw [show L.getD (⟨.get, D', g', p3⟩ : Cfg).g default = x from HGD.out] at hi1 hi3
          have hgi : getI C L ⟨.get, D', g', p3⟩ = i := by
            unfold getI
            rw [show L.getD (⟨.get, D', g', p3⟩ : Cfg).g default = x from HGD.out, hi1]
            rfl
          have HNX : Hid ((⟨.get, D', g', p3⟩ : Cfg).next C R E P L lim = some ⟨.get, D'.cameD R P i (D'.S i) x.ke ⟨g', none⟩, g' + 1, p3⟩) := Lib.hid (by
            unfold Cfg.next; dsimp only
            rw [if_pos hdu, hgi, HGD.out])
          have hwp : IntKind.i64.wrap ((g' : Int) + 1) = (g' : Int) + 1 := IntWalk.i64_in _ (by omega)
          have HWP := Lib.hid hwp
          have hnu := number_any wp.drew A.q C A1.d0 x.ca (by rw [← show A1.q = A.q from HL1.out.q]; exact cellF (HP1.out.heapEq (W' := wp.drew) rfl).qb.2 0 rfl) ((HE.out.adr HL1.out).c.below ((HBW1.out).drew) (Nat.le_refl _))
          rw [hi1] at hnu
          have hcm : ∀ W, Below wp.heap.size wp W → Calls Tryz.prog 68 #[.pointer (some ⟨A.q, 0, none⟩), .int .i64 (i : Nat), .string x.ke, .agg #[.int .i64 (g' : Nat), .pointer none]] W fun e w' => ∃ A', e = .returned (.tuple #[]) ∧ PD w' B A' (D'.cameD R P i (D'.S i) x.ke ⟨g', none⟩) ∧ AdrLe A1 A' D'.ak.length ∧ Below B W w' := fun W hb => by
            have H := came_any w0 W B A1 D' C R E P n i (D'.S i) x.ke ⟨g', none⟩ (HP1.out.below hb) HFT.out (by omega) (Day.at_ hi2) hi4 (HE.out.adr HL1.out) (HW0B.out _ (HRS.out.bel.trans (hb.mono HP1.out.base))) hi3
            rw [show A1.q = A.q from HL1.out.q] at H
            exact H
          have HNU := Lib.hid hnu
          have HCM := Lib.hid hcm
          have HBD : Hid (Below wp.heap.size wp wp.drew) := Lib.hid (Below.refl _ wp).drew
          have HRB : Hid (Below B w wp.drew) := Lib.hid HRS.out.bel.drew
          have HNC : Hid ((D'.cameD R P i (D'.S i) x.ke ⟨g', none⟩).no = t) := Lib.hid (by rw [Day.cameD_no]; exact HNO.out)
          clear ht hg hdu hi1 hi2 hi3 hi4 hgi hnu hcm hwp
          go_upto_region 22 with (fail)
          clear c0 htb hgd
          go_region_held3 (fun W => W.cell? ⟨b, off + g' * 3 + 1, none⟩ = some (.string x.ca) ∧ W.cell? ⟨b, off + g' * 3 + 2, none⟩ = some (.string x.ke))
            (first | exact HSS.out _ HRB.out | exact HSS.out _ HB8.out | exact HSS.out _ HB9.out | fail)
            (first | (go_at_call 69; (with_reducible refine HNU.out.mono ?_); rintro e w8 ⟨rfl, hb8⟩; have HB8 := Lib.hid (HRB.out.trans (hb8.mono HP1.out.base)); have HCM8 := Lib.hid (HCM.out _ (HBD.out.thru hb8)); clear hb8)
                   | (go_at_call 68; (with_reducible refine HCM8.out.mono ?_); rintro e w9 ⟨A9, rfl, hp9, hl9, hb9⟩; have HP9 := Lib.hid hp9; have HL9 := Lib.hid hl9; have HB9 := Lib.hid (HB8.out.trans hb9); clear hp9 hl9 hb9)
                   | fail)
          obtain ⟨k'', hk1, hk2⟩ := HRS.out.work HI.out HNX.out rfl HP9.out (HL1.out.trans HL9.out (Nat.zero_le _)) HB9.out
          have HK := Lib.hid (And.intro hk1 hk2)
          have hwp := HWP.out
          clear hk1 hk2
          go_wp2_with fail
          go_roundg k''
          case measure => have := HK.out.1; have := HGK.out; omega
          case rel => exact ⟨k'', _, g' + 1, Nat.le_refl _, by go_num, (show Aside _ from HK.out.2), (show Aside (_ = _) from HNC.out)⟩
    obtain ⟨k5, D5, g5, rfl, RS5, NO5⟩ := hcut
    obtain ⟨w5, rfl⟩ : ∃ W : World, W = wc := ⟨_, rfl⟩
    have HR5 := Lib.hid RS5.out
    have HN5 := Lib.hid NO5.out
    clear RS5 NO5 HR4 HN4
    as_aux_lemma =>
      go_wp2_with fail
      go_loopg [12, 13] k (fun gg s12 s13 wr => ∃ (k' : Nat) (D' : Day), k' ≤ gg ∧ Aside (RunS w B A P L I k wr k' ⟨.arr, D', g5, p3⟩) ∧ Aside (D'.no = t))
      case atStart => exact ⟨k5, D5, HR5.out.le, (show Aside _ from HR5.out), (show Aside (_ = _) from HN5.out)⟩
      case round =>
        obtain ⟨wp, rfl⟩ : ∃ wp : World, wp = wr := ⟨_, rfl⟩
        obtain ⟨k', D', hgk, RS, NO⟩ := hrel
        obtain ⟨A1, hp1, hl1⟩ := RS.out.ex
        obtain ⟨ao, qc, hqv, hqc, q5, hq1⟩ := QCel hp1
        rw [show A1.q = A.q from hl1.q] at q5
        have HRS := Lib.hid RS.out
        have HNO := Lib.hid NO.out
        have HP1 := Lib.hid hp1
        have HL1 := Lib.hid hl1
        have HGK := Lib.hid hgk
        obtain ⟨n, hn, hF⟩ := HI.out.fit _ _ HRS.out.inv
        have HFT := Lib.hid hF
        clear RS NO hp1 hl1 hgk hqv hF
        have HEXIT : Hid (¬ headDue ⟨.arr, D', g5, p3⟩ → ∃ k'', k'' < k ∧ RunS w B A P L I k'' wp k'' ⟨.out, D', g5, p3⟩) := Lib.hid (fun hn => by
          obtain ⟨k'', h1, h2, h3⟩ := due_step C R E P L lim HI.out HRS.out.inv HRS.out.le HRS.out.due (c' := ⟨.out, D', g5, p3⟩) (by unfold Cfg.next; dsimp only; rw [if_neg hn])
          refine ⟨k'', ?_, h1, HRS.out.ex, HRS.out.bel, Nat.le_refl _, fun h => absurd rfl h⟩
          rcases h3 with h3 | h3
          · exact h3
          · exact h3.elim)
        clear HR5 HN5
        by_cases hq : 0 < D'.qu.length
        case neg =>
          have hqz : ¬ (0 : Int) < (D'.qu.length : Int) := by omega
          have hqd : decide ((0 : Int) < (D'.qu.length : Int)) = false := decide_eq_false hqz
          obtain ⟨k'', hK⟩ := HEXIT.out (fun h => hq h.1)
          have HK := Lib.hid hK
          clear hK hq hq1
          go_wp2
          go_roundg k''
          case measure => have := HK.out.1; have := HGKO.out; omega
          case rel => exact ⟨k'', D', g5, p3, Nat.le_refl _, rfl, rfl, (show Aside _ from HK.out.2)⟩
        have hqz : (0 : Int) < (D'.qu.length : Int) := by omega
        have hqd : decide ((0 : Int) < (D'.qu.length : Int)) = true := decide_eq_true hqz
        obtain ⟨gq, rfl, e0, e1⟩ := hq1 hq
        by_cases ht : (hdE D').ti = t
        case neg =>
          have htb : ((hdE D').ti == t) = false := by rw [beq_eq_false_iff_ne]; exact ht
          obtain ⟨k'', hK⟩ := HEXIT.out (fun h => ht (by rw [← HNO.out]; exact h.2))
          have HK := Lib.hid hK
          clear hK hq hq1 ht
          go_wp2
          go_roundg k''
          case measure => have := HK.out.1; have := HGKO.out; omega
          case rel => exact ⟨k'', D', g5, p3, Nat.le_refl _, rfl, rfl, (show Aside _ from HK.out.2)⟩
        have htb : ((hdE D').ti == t) = true := by rw [beq_iff_eq]; exact ht
        have hHD : headDue ⟨.arr, D', g5, p3⟩ := ⟨hq, by rw [HNO.out]; exact ht⟩
        have HHD := Lib.hid hHD
        clear hHD ht hq1
        go_upto_region 24 with (fail)
        clear e0 e1 q5 htb hqd
        have hpop := pop_any wp B A1 D' n A.q HL1.out.q.symm HP1.out HFT.out (by omega) hq
        obtain ⟨e, he⟩ : ∃ e, e = hdE D' := ⟨_, rfl⟩
        rw [← he] at hpop
        have hjl : e.ak < D'.ak.length := by rw [he]; exact HFT.out.num.qu _ (hdE_mem hq)
        have hae : AFit e.an := by rw [he]; exact HFT.out.qa _ (hdE_mem hq)
        obtain ⟨ab, hab⟩ : ∃ x, x = A1.ab e.ak := ⟨_, rfl⟩
        rw [← hab] at hpop
        have HPOP := Lib.hid hpop
        have HEE := Lib.hid he
        have HJL := Lib.hid hjl
        have HAE := Lib.hid hae
        have HAB := Lib.hid hab
        have hta := assertEv
        clear hpop he hjl hae hab
        go_wp2_with fail
        refine HPOP.out.mono ?_
        rintro r w1 ⟨v1, rfl, hp2, hb2⟩
        obtain ⟨w2, hw2⟩ : ∃ W, W = w1.alloc (.cells #[.int .i64 e.ti, .bool e.bk, .pointer (some ⟨ab, 0, none⟩), .int .i64 e.an.ve, .int .i64 e.an.bo, .int .i64 e.an.si, .bool e.an.no, .string e.an.fr] 143) := ⟨_, rfl⟩
        have hp3 := hp2.addFr (.cells #[.int .i64 e.ti, .bool e.bk, .pointer (some ⟨ab, 0, none⟩), .int .i64 e.an.ve, .int .i64 e.an.bo, .int .i64 e.an.si, .bool e.an.no, .string e.an.fr] 143 (0, 0))
        rw [← hw2] at hp3
        obtain ⟨A2, hA2⟩ : ∃ A2, A2 = { A1 with qv := v1, x := A1.x ++ [(w1.heap.size, Obj.cells #[.int .i64 e.ti, .bool e.bk, .pointer (some ⟨ab, 0, none⟩), .int .i64 e.an.ve, .int .i64 e.an.bo, .int .i64 e.an.si, .bool e.an.no, .string e.an.fr] 143 (0, 0))] } := ⟨_, rfl⟩
        replace hp3 : PD w2 B A2 D'.popD := by rw [hA2]; exact hp3
        have hb3 : Below B w w2 := by rw [hw2]; exact (HRS.out.bel.trans hb2).alloc hp2.base _
        have hF2 : Fit n D'.popD := HFT.out.pop hq
        have HL2 : Hid (∀ A' m, AdrLe A2 A' m → AdrLe A { A' with x := A.x } 0) := Lib.hid (by
          intro A' m hl
          rw [hA2] at hl
          have h1 := HL1.out
          exact ⟨hl.q.trans h1.q, hl.d0.trans h1.d0, hl.d1.trans h1.d1, hl.d2.trans h1.d2, hl.d3.trans h1.d3, hl.sv.trans h1.sv, hl.gv.trans h1.gv, hl.sb.trans h1.sb, hl.mb.trans h1.mb, rfl, fun j hj => absurd hj (by omega)⟩)
        have HXX : Hid (∀ A' m, AdrLe A2 A' m → ∃ y, A'.x = A.x ++ y) := Lib.hid (by
          intro A' m hl
          rw [hl.x, hA2, ← HL1.out.x]
          exact ⟨_, rfl⟩)
        have HE2 : Hid (EnvD w0 B A2 C R E P) := Lib.hid (by rw [hA2]; exact ⟨(HE.out.adr HL1.out).le, (HE.out.adr HL1.out).c, (HE.out.adr HL1.out).r, (HE.out.adr HL1.out).e, (HE.out.adr HL1.out).p, HE.out.rb, HE.out.eb⟩)
        have HA2 : Hid (A2.q = A.q ∧ A2.sb = A.sb ∧ A2.ab e.ak = ab ∧ A2.x[A1.x.length]? = some (w1.heap.size, Obj.cells #[.int .i64 e.ti, .bool e.bk, .pointer (some ⟨ab, 0, none⟩), .int .i64 e.an.ve, .int .i64 e.an.bo, .int .i64 e.an.si, .bool e.an.no, .string e.an.fr] 143 (0, 0))) := Lib.hid (by rw [hA2]; exact ⟨HL1.out.q, HL1.out.sb, HAB.out.symm, by simp⟩)
        have hk := hp3.fr HA2.out.2.2.2
        have HP3 := Lib.hid hp3
        have HB3 := Lib.hid hb3
        have HF2 := Lib.hid hF2
        have HW2 := Lib.hid hw2
        have HK := Lib.hid hk
        clear hp2 hb2 hp3 hb3 hw2 hF2 hA2 hk
        -- the cache of the ask, and its parent
        have HKC : Hid ((D'.popD.K e.ak).ca < D'.popD.st.length ∧ (D'.popD.K e.ak).ke.size ≤ 300) := Lib.hid (HF2.out.kk e.ak _ (Day.ak_at HJL.out))
        obtain ⟨i, hi⟩ : ∃ i, i = (D'.popD.K e.ak).ca := ⟨_, rfl⟩
        obtain ⟨s, hs⟩ : ∃ s, s = D'.popD.S i := ⟨_, rfl⟩
        have hsi : D'.popD.st[i]? = some s := by rw [hs]; exact Day.at_ (by rw [hi]; exact HKC.out.1)
        have hjk := Day.ak_at (D := D'.popD) HJL.out
        have hqb := HP3.out.qb.2
        rw [HA2.out.1] at hqb
        have hil : i < D'.popD.st.length := (List.getElem?_eq_some_iff.1 hsi).1
        have hne : List.range D'.popD.st.length ≠ [] := fun e => by rw [List.range_eq_nil] at e; omega
        obtain ⟨gs, scap, hsv, hg1, hg2, hg3, hg4, hgc, -⟩ := Own.getk (encP_len A2.sb) HP3.out.stores hne
        rw [List.length_range] at hsv
        obtain ⟨sl, hsl⟩ : ∃ n, n = D'.popD.st.length := ⟨_, rfl⟩
        rw [← hsl] at hsv
        have q4 : w2.cell? ⟨A.q, 4, none⟩ = some (.slice (some ⟨gs, 0, none⟩) sl scap) := by rw [cellF hqb 4 rfl, ← hsv]; rfl
        have hiz : (i : Int) < (sl : Int) := by omega
        have s0 : w2.cell? ⟨gs, i, none⟩ = some (.pointer (some ⟨A.sb i, 0, none⟩)) := by rw [← HA2.out.2.1]; have h := hgc i i 0 _ (by simp [hil]) rfl; simpa using h
        have hsb := (HP3.out.sb hsi).2
        rw [HA2.out.2.1] at hsb
        have s4 : w2.cell? ⟨A.sb i, 4, none⟩ = some (.int .i64 s.pa) := cellF hsb 4 rfl
        have hab := (HP3.out.ab hjk).2
        rw [HA2.out.2.2.1] at hab
        have a0 : w2.cell? ⟨ab, 0, none⟩ = some (.int .i64 (i : Nat)) := by rw [hi]; exact cellF hab 0 rfl
        have a3 : w2.cell? ⟨ab, 3, none⟩ = some (.string (D'.popD.K e.ak).ke) := cellF hab 3 rfl
        have b2 := cellF HK.out 2 (v := .pointer (some ⟨ab, 0, none⟩)) rfl
        have HNX : Hid ((⟨.arr, D', g5, p3⟩ : Cfg).next C R E P L lim = some ⟨.arr, D'.popD.arrD R E P e.ak, g5, p3⟩) := Lib.hid (by
          unfold Cfg.next; dsimp only
          rw [if_pos HHD.out, HEE.out])
        have hpar := HI.out.par _ _ HRS.out.inv rfl HHD.out
        have HPAR : Hid (s.pa < (D'.popD.st.length : Int)) := Lib.hid (by rw [hs, hi, HEE.out]; exact hpar)
        have HAR : Hid (D'.popD.arrD R E P e.ak = if 0 ≤ s.pa then D'.popD.cameD R P s.pa.toNat (D'.popD.S s.pa.toNat) (D'.popD.K e.ak).ke ⟨0, some e.ak⟩ else D'.popD.giveD ⟨0, some e.ak⟩ (oriM E (D'.popD.K e.ak).ke D'.popD.no)) := Lib.hid (by rw [hs, hi]; rfl)
        have HNA : Hid ((D'.popD.arrD R E P e.ak).no = t) := Lib.hid (by rw [Day.arrD_no]; exact HNO.out)
        have HA3 := Lib.hid a3
        have HB2K := Lib.hid b2
        clear hi hs hsi hjk hqb hne hsv hg1 hg2 hg3 hg4 hgc hsl hsb hab hpar hil
        go_upto_region 25 with (fail)
        rw [← HW2.out]
        clear hta
        go_quiet (fail)
        obtain ⟨w3, hw3⟩ : ∃ w3, w3 = w2.drewN nq := ⟨_, rfl⟩
        have hb23 : Below w2.heap.size w2 w3 := by rw [hw3]; exact below_drewN (Below.refl _ _) _
        have b3' : w3.cell? ⟨w1.heap.size, 2, none⟩ = some (.pointer (some ⟨ab, 0, none⟩)) := by rw [hw3]; exact HB2K.out
        have a3' : w3.cell? ⟨ab, 3, none⟩ = some (.string (D'.popD.K e.ak).ke) := by rw [hw3]; exact HA3.out
        rw [← hw3]
        have HP4 := Lib.hid (HP3.out.below hb23)
        have HB4 := Lib.hid (HB3.out.trans (hb23.mono HP3.out.base))
        clear hw3 hb23 a0 a3 b2 s0 s4 q4 hiz
        have HDN : Hid (∀ (W : World) (A9 : Adr), PD W B A9 (D'.popD.arrD R E P e.ak) → AdrLe A2 A9 D'.popD.ak.length → Below B w3 W → ∃ k'', k'' < k' ∧ RunS w B A P L I k W k'' ⟨.arr, D'.popD.arrD R E P e.ak, g5, p3⟩) := Lib.hid (fun W A9 hp hl hb =>
          HRS.out.work HI.out HNX.out rfl (hp.dropFr (HXX.out A9 _ hl)) (HL2.out A9 _ hl) (HB4.out.trans hb))
        by_cases hpa : 0 ≤ s.pa
        · -- it comes to a cache
          obtain ⟨i2, hi2⟩ : ∃ i2 : Nat, s.pa = (i2 : Int) := ⟨s.pa.toNat, by omega⟩
          rw [hi2] at hpa HPAR HAR ⊢
          have HAE2 : Hid (D'.popD.arrD R E P e.ak = D'.popD.cameD R P i2 (D'.popD.S i2) (D'.popD.K e.ak).ke ⟨0, some e.ak⟩) := Lib.hid (by rw [HAR.out, if_pos hpa, Int.toNat_natCast])
          have hcm := came_any w0 w3.drew B A2 D'.popD C R E P n i2 (D'.popD.S i2) (D'.popD.K e.ak).ke ⟨0, some e.ak⟩ (HP4.out.heapEq rfl) HF2.out (by omega) (Day.at_ (by have := HPAR.out; omega)) HJL.out HE2.out (HW0B.out _ (HB4.out.drew)) HKC.out.2
          rw [HA2.out.1, ← HAE2.out] at hcm
          have hcm2 : Calls Tryz.prog 68 #[.pointer (some ⟨A.q, 0, none⟩), .int .i64 (i2 : Nat), .string (D'.popD.K e.ak).ke, .agg #[.int .i64 0, .pointer (some ⟨ab, 0, none⟩)]] w3.drew fun e' w' => ∃ A', e' = .returned (.tuple #[]) ∧ PD w' B A' (D'.popD.arrD R E P e.ak) ∧ AdrLe A2 A' D'.popD.ak.length ∧ Below B w3.drew w' := by
            have e : Value.agg (encW A2.ab ⟨0, some e.ak⟩).toArray = .agg #[.int .i64 0, .pointer (some ⟨ab, 0, none⟩)] := by rw [← HA2.out.2.2.1]; rfl
            rw [e] at hcm
            exact hcm
          have HCM := Lib.hid hcm2
          have hpz : decide ((0 : Int) ≤ (i2 : Int)) = true := decide_eq_true hpa
          clear hcm hcm2 hi2
          go_upto_region 27 with (fail)
          clear hpz
          go_still_tail 10, (by kernel_rfl)
          change wpList _ _ _ _ _ w3.drew
          go_wp2_with fail
          refine HCM.out.mono ?_
          rintro r w5 ⟨A5, rfl, hp5, hl5, hb5⟩
          obtain ⟨k'', hk1, hk2⟩ := HDN.out w5 A5 hp5 hl5 (((Below.refl B w3).drew).trans hb5)
          have HKK := Lib.hid (And.intro hk1 hk2)
          clear hp5 hl5 hb5 hk1 hk2 b3' a3'
          go_wp2_with fail
          go_roundg k''
          case measure => have := HKK.out.1; have := HGK.out; omega
          case rel => exact ⟨k'', _, Nat.le_refl _, (show Aside _ from HKK.out.2), (show Aside (_ = _) from HNA.out)⟩
        · -- it comes to the origin
          have HAE2 : Hid (D'.popD.arrD R E P e.ak = D'.popD.giveD ⟨0, some e.ak⟩ (oriM E (D'.popD.K e.ak).ke D'.popD.no)) := Lib.hid (by rw [HAR.out, if_neg hpa])
          have hor := origin_any w3.drew B A2 D'.popD E (D'.popD.K e.ak).ke (HP4.out.heapEq rfl) (HE2.out.e.below (HW0B.out _ (HB4.out.drew)) (Nat.le_refl _))
          rw [HA2.out.1] at hor
          obtain ⟨y, hy⟩ : ∃ y, y = oriM E (D'.popD.K e.ak).ke D'.popD.no := ⟨_, rfl⟩
          rw [← hy] at hor HAE2
          have hgv : ∀ W, Below w3.heap.size w3 W → Calls Tryz.prog 70 #[.pointer (some ⟨A.q, 0, none⟩), .agg #[.int .i64 0, .pointer (some ⟨ab, 0, none⟩)], .agg #[.int .i64 y.ve, .int .i64 y.bo, .int .i64 y.si, .bool y.no, .string y.fr]] W fun e' w' => ∃ A', e' = .returned (.tuple #[]) ∧ PD w' B A' (D'.popD.arrD R E P e.ak) ∧ AdrLe A2 A' D'.popD.ak.length ∧ Below B W w' := fun W hb => by
            have H := give_any W B A2 D'.popD n ⟨0, some e.ak⟩ y (HP4.out.below hb) HF2.out (by omega) HJL.out
            rw [HA2.out.1, ← HAE2.out] at H
            have e : Value.agg (encW A2.ab ⟨0, some e.ak⟩).toArray = .agg #[.int .i64 0, .pointer (some ⟨ab, 0, none⟩)] := by rw [← HA2.out.2.2.1]; rfl
            rw [e] at H
            exact H
          have HOR := Lib.hid hor
          have HGV := Lib.hid hgv
          have HBD : Hid (Below w3.heap.size w3 w3.drew) := Lib.hid (Below.refl _ w3).drew
          have hpz : decide ((0 : Int) ≤ s.pa) = false := decide_eq_false hpa
          have hl1 : w1.heap.size < w3.heap.size := World.block_lt_of_cell? w3 _ b3'
          have hl2 : ab < w3.heap.size := World.block_lt_of_cell? w3 _ a3'
          have HSS : Hid (∀ W : World, Below w3.heap.size w3 W → W.cell? ⟨w1.heap.size, 2, none⟩ = some (.pointer (some ⟨ab, 0, none⟩)) ∧ W.cell? ⟨ab, 3, none⟩ = some (.string (D'.popD.K e.ak).ke)) := Lib.hid fun W hb => ⟨(hb.cell (p := ⟨w1.heap.size, 2, none⟩) hl1).trans b3', (hb.cell (p := ⟨ab, 3, none⟩) hl2).trans a3'⟩
          have HAB3 : Hid (∀ (W : World) (A9 : Adr), PD W B A9 (D'.popD.arrD R E P e.ak) → AdrLe A2 A9 D'.popD.ak.length → W.cell? ⟨w1.heap.size, 2, none⟩ = some (.pointer (some ⟨ab, 0, none⟩)) ∧ W.cell? ⟨ab, 3, none⟩ = some (.string (D'.popD.K e.ak).ke)) := Lib.hid fun W A9 hp hl => by
            have g1 := hp.fr (k := A1.x.length) (by rw [hl.x]; exact HA2.out.2.2.2)
            have hak : (D'.popD.arrD R E P e.ak).ak[e.ak]? = some (D'.popD.K e.ak) := by rw [HAE2.out, giveD_ak]; exact Day.ak_at HJL.out
            have g2 := (hp.ab hak).2
            rw [hl.ab _ HJL.out, HA2.out.2.2.1] at g2
            exact ⟨cellF g1 2 rfl, cellF g2 3 rfl⟩
          clear hor hgv hpa hl1 hl2 hy
          go_upto_region 28 with (fail)
          clear hpz
          go_region_held3 (fun W => W.cell? ⟨w1.heap.size, 2, none⟩ = some (.pointer (some ⟨ab, 0, none⟩)) ∧ W.cell? ⟨ab, 3, none⟩ = some (.string (D'.popD.K e.ak).ke))
            (first | exact HSS.out _ HBD.out | exact HSS.out _ HB8.out | exact HAB3.out _ _ HP9.out HL9.out | fail)
            (first | (go_at_call 71; (with_reducible refine HOR.out.mono ?_); rintro r w8 ⟨rfl, hb8⟩; have HB8 := Lib.hid (HBD.out.thru hb8); have HGV8 := Lib.hid (HGV.out _ (HBD.out.thru hb8)); clear hb8)
                   | (go_at_call 70; (with_reducible refine HGV8.out.mono ?_); rintro r w9 ⟨A9, rfl, hp9, hl9, hb9⟩; have HP9 := Lib.hid hp9; have HL9 := Lib.hid hl9; have HB9 := Lib.hid ((HB8.out.mono HP4.out.base).trans hb9); clear hp9 hl9 hb9)
                   | fail)
          obtain ⟨k'', hk1, hk2⟩ := HDN.out _ A9 HP9.out HL9.out HB9.out
          have HKK := Lib.hid (And.intro hk1 hk2)
          clear hk1 hk2 b3' a3'
          go_wp2_with fail
          go_roundg k''
          case measure => have := HKK.out.1; have := HGK.out; omega
          case rel => exact ⟨k'', _, Nat.le_refl _, (show Aside _ from HKK.out.2), (show Aside (_ = _) from HNA.out)⟩
end Go.Proofs.YtehbmnkbmgnkfaaGreatDoor

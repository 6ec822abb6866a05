/- take, underWay: the walks. -/
import Derived.Test.YtehbmnkbmgnkfaaGreatDoorB12
import Derived.StillTailTactics
namespace Go.Proofs.YtehbmnkbmgnkfaaGreatDoor
open Go.RowKit

theorem Onl.belowN {P : Nat} {a b c : World} (h : Onl P a b) (k : Below a.heap.size b c) : Onl P a c :=
  ⟨k.os.trans (World.grownBy.os h), k.tape.trans (World.grownBy.tape h), k.output.trans (World.grownBy.output h), Nat.le_trans h.size k.size, fun i hi hP => (k.block i hi).trans (World.grownBy.block h i hi hP)⟩
set_option maxRecDepth 100000 in
set_option maxHeartbeats 2000000 in
theorem take_any (w : World) (B : Nat) (A : Adr) (D : Day) (i : Nat) (s : Sto) (key : ByteArray) (h : PD w B A D) (hs : D.st[i]? = some s) (hk : key ∈ s.ks) (hpu : D.pu < maxLen) :
    Calls Tryz.prog 93 #[.pointer (some ⟨A.q, 0, none⟩), .pointer (some ⟨A.sb i, 0, none⟩), .string key] w fun e w' => e = .returned (aggA { (s.hm key).an with fr := s.ch.na }) ∧ PD w' B A { D with st := D.st.set i { s with ks := addL key s.ks, hm := fun d => if d = key then ⟨(s.hm key).an, D.no⟩ else s.hm d }, pu := D.pu + 1 } ∧ Below B w w' := by
  have hsb := (h.sb hs).2
  have hqb := h.qb.2
  obtain ⟨hmb, hm⟩ := h.map hs
  have c5 : w.cell? ⟨A.sb i, 5, none⟩ = some (.map (some (A.mb i))) := cellF hsb 5 rfl
  have c0 : w.cell? ⟨A.sb i, 0, none⟩ = some (.string s.ch.na) := cellF hsb 0 rfl
  have q8 : w.cell? ⟨A.q, 8, none⟩ = some (.int .i64 D.no) := cellF hqb 8 rfl
  have hsl := World.block_lt_of_cell? w _ c5
  have hql := World.block_lt_of_cell? w _ q8
  have hml := hm.lt
  have hlk : (Instr.lookup 133 (.map (some (A.mb i))) (.string key) false).run Tryz.prog (w.alloc (.cells #[.int .i64 0, .int .i64 0, .int .i64 0, .bool false, .string ⟨#[]⟩] 141)) = .ok (.agg #[.int .i64 (s.hm key).an.ve, .int .i64 (s.hm key).an.bo, .int .i64 (s.hm key).an.si, .bool (s.hm key).an.no, .string (s.hm key).an.fr, .int .i64 (s.hm key).us]) (w.alloc (.cells #[.int .i64 0, .int .i64 0, .int .i64 0, .bool false, .string ⟨#[]⟩] 141)) := (hm.same (Below.heap_alloc w _ _ hml)).look1 key hk
  have HH := Lib.hid h
  have HM := Lib.hid hm
  clear h hm hsb hqb
  go_enter Tryz.func93, Tryz.ntmps93
  go_wp2_with fail
  obtain ⟨w2, hw2⟩ : ∃ w2, w2 = (w.alloc (.cells #[.int .i64 0, .int .i64 0, .int .i64 0, .bool false, .string ⟨#[]⟩] 141)).alloc (.cells #[.int .i64 (s.hm key).an.ve, .int .i64 (s.hm key).an.bo, .int .i64 (s.hm key).an.si, .bool (s.hm key).an.no, .string (s.hm key).an.fr, .int .i64 D.no] 180) := ⟨_, rfl⟩
  rw [← hw2]
  have hb2 : Below w.heap.size w w2 := by rw [hw2]; exact ((Below.refl _ w).alloc (Nat.le_refl _) _).alloc (by simp) _
  have hm2 : MapH w2.drew (A.mb i) D.pu s.hm s.ks := HM.out.same (hb2.block _ hml)
  obtain ⟨w3, hup, hm3, hg3⟩ := hm2.put hpu key (HM.out.2.1 key hk) ⟨(s.hm key).an, D.no⟩
  have ho3 : Onl (A.mb i) w w3 := (Onl.of_below hb2.drew).trans hg3
  have HO3 := Lib.hid ho3
  have HM3 := Lib.hid hm3
  have hsm : A.sb i ≠ A.mb i := fun e => by
    have h1 := (HH.out.sb hs).2
    obtain ⟨_, _, _, ⟨es, cl, h2, _⟩, _⟩ := HM.out
    rw [e, h2] at h1
    cases h1
  have c0' : w3.cell? ⟨A.sb i, 0, none⟩ = some (.string s.ch.na) := World.grownBy.cell ho3 c0 (fun e => hsm (by simpa using e))
  have hN1 : w2.heap[w.heap.size + 1]? = some (.cells #[.int .i64 (s.hm key).an.ve, .int .i64 (s.hm key).an.bo, .int .i64 (s.hm key).an.si, .bool (s.hm key).an.no, .string (s.hm key).an.fr, .int .i64 D.no] 180 (0, 0)) := by
    have h0 := block_new (w.alloc (.cells #[.int .i64 0, .int .i64 0, .int .i64 0, .bool false, .string ⟨#[]⟩] 141)) (.cells #[.int .i64 (s.hm key).an.ve, .int .i64 (s.hm key).an.bo, .int .i64 (s.hm key).an.si, .bool (s.hm key).an.no, .string (s.hm key).an.fr, .int .i64 D.no] 180 (0, 0))
    rw [hw2]
    simpa using h0
  have hN0 : w2.heap[w.heap.size]? = some (.cells #[.int .i64 0, .int .i64 0, .int .i64 0, .bool false, .string ⟨#[]⟩] 141 (0, 0)) := by
    rw [hw2]
    rw [Below.heap_alloc _ _ _ (by simp)]
    exact block_new w _
  have k1 : w3.heap[w.heap.size + 1]? = _ := (hg3.block _ (by show _ < w2.heap.size; rw [hw2]; simp) (by simp; omega)).trans hN1
  have k0 : w3.heap[w.heap.size]? = _ := (hg3.block _ (by show _ < w2.heap.size; rw [hw2]; simp; omega) (by simp; omega)).trans hN0
  have e0 := cellF k1 0 rfl
  have e1 := cellF k1 1 rfl
  have e2 := cellF k1 2 rfl
  have e3 := cellF k1 3 rfl
  have e4 := cellF k1 4 rfl
  have f4 := frozF k1 4
  have a0 := cellF k0 0 rfl
  have a1 := cellF k0 1 rfl
  have a2 := cellF k0 2 rfl
  have a3 := cellF k0 3 rfl
  have a4 := cellF k0 4 rfl
  have f0 := frozF k0 0
  have f1 := frozF k0 1
  have f2 := frozF k0 2
  have f3 := frozF k0 3
  have f4' := frozF k0 4
  have p5 : w2.cell? ⟨A.sb i, 5, none⟩ = some (.map (some (A.mb i))) := (hb2.cell (p := ⟨A.sb i, 5, none⟩) hsl).trans c5
  have n0 := cellF hN1 0 rfl
  have n1 := cellF hN1 1 rfl
  have n2 := cellF hN1 2 rfl
  have n3 := cellF hN1 3 rfl
  have n4 := cellF hN1 4 rfl
  have n5 := cellF hN1 5 rfl
  have HB2 := Lib.hid hb2
  have hup' : (Instr.mapUpdate 133 (.map (some (A.mb i))) (.string key) (.agg #[.int .i64 (s.hm key).an.ve, .int .i64 (s.hm key).an.bo, .int .i64 (s.hm key).an.si, .bool (s.hm key).an.no, .string (s.hm key).an.fr, .int .i64 D.no])).run Tryz.prog w2.drew = .ok () w3 := hup
  clear hup hm2 hm3 hg3 ho3 k1 k0 hN1 hN0 hb2 hw2
  go_still_tail 6, (by kernel_rfl)
  change wpList _ _ _ _ _ w2.drew
  go_wp2_with fail
  have HBW := Lib.hid (((((((Below.refl w.heap.size w3).setCell (p := ⟨w.heap.size + 1, 4, none⟩) (Nat.le_succ _) (.string s.ch.na)).setCell (p := ⟨w.heap.size, 0, none⟩) (Nat.le_refl _) (.int .i64 (s.hm key).an.ve)).setCell (p := ⟨w.heap.size, 1, none⟩) (Nat.le_refl _) (.int .i64 (s.hm key).an.bo)).setCell (p := ⟨w.heap.size, 2, none⟩) (Nat.le_refl _) (.int .i64 (s.hm key).an.si)).setCell (p := ⟨w.heap.size, 3, none⟩) (Nat.le_refl _) (.bool (s.hm key).an.no)).setCell (p := ⟨w.heap.size, 4, none⟩) (Nat.le_refl _) (.string s.ch.na))
  refine bodyPost_ret (v := aggA { (s.hm key).an with fr := s.ch.na }) (by simp [results, Tryz.results93, go_sem, a0, a1, a2, a3, a4]) rfl ⟨rfl, ?_, ?_⟩
  · exact HH.out.setMap hs (HM3.out.same (HBW.out.block _ hml)) (Nat.le_succ _) (HO3.out.belowN HBW.out)
  · exact (HO3.out.belowN HBW.out).toBelow HH.out.base hmb
end Go.Proofs.YtehbmnkbmgnkfaaGreatDoor

/- underWay: the walk. -/
namespace Go.Proofs.YtehbmnkbmgnkfaaGreatDoor
open Go.RowKit

/-- Is the ask one for the key, with a rule, made since the last purge? -/
def wayB (D : Day) (key : ByteArray) (last : Int) (j : Nat) : Bool := ((D.K j).ke.toList == key.toList) && ((D.K j).kp && decide (last ≤ (D.K j).ma))
/-- The ask that is under way. -/
def wayO (D : Day) (l : List Nat) (key : ByteArray) (last : Int) : Option Nat := l.find? (wayB D key last)
theorem find_hit {α : Type} {l : List α} {p : α → Bool} {n : Nat} {x : α} (hx : l[n]? = some x) (h : (l.take n).find? p = none) (hp : p x = true) : l.find? p = some x := by
  have e : l = l.take n ++ (x :: l.drop (n + 1)) := by
    have h1 := (List.getElem?_eq_some_iff.1 hx)
    obtain ⟨h1, h2⟩ := h1
    rw [← h2, ← List.drop_eq_getElem_cons h1, List.take_append_drop]
  rw [e, List.find?_append, h, Option.none_or, List.find?_cons, hp]
theorem find_miss {α : Type} {l : List α} {p : α → Bool} {n : Nat} {x : α} (hx : l[n]? = some x) (h : (l.take n).find? p = none) (hp : p x = false) : (l.take (n + 1)).find? p = none := by
  rw [List.take_add_one, hx, List.find?_append, h, Option.none_or]
  simp [hp]
set_option maxRecDepth 100000 in
set_option maxHeartbeats 2000000 in
theorem way_any (w : World) (B : Nat) (A : Adr) (D : Day) (P : List Pur) (i : Nat) (s : Sto) (key : ByteArray) (h : PD w B A D) (hs : D.st[i]? = some s) (hN : ∀ j, j ∈ s.ar → j < D.ak.length) (hP : Sl w 2 encG A.d3 P) :
    Calls Tryz.prog 94 #[.pointer (some ⟨A.q, 0, none⟩), .pointer (some ⟨A.sb i, 0, none⟩), .string key] w fun e w' => e = .returned (.pointer ((wayO D s.ar key (purM P key D.no)).map fun j => ⟨A.ab j, 0, none⟩)) ∧ Below w.heap.size w w' := by
  have hsb := (h.sb hs).2
  have hqb := h.qb.2
  have c6 : w.cell? ⟨A.sb i, 6, none⟩ = some (A.av i) := cellF hsb 6 rfl
  have hsl := World.block_lt_of_cell? w _ c6
  have HPU := Lib.hid (purged_any w A.q P A.d3 key D.no hP (cellF hqb 3 rfl) (cellF hqb 8 rfl))
  obtain ⟨last, hlast⟩ : ∃ x, x = purM P key D.no := ⟨_, rfl⟩
  rw [← hlast] at HPU ⊢
  obtain ⟨ao, cap, hav, hcap, hmax, hnil, hel⟩ := Sl.own (encP_len A.ab) (h.asks hs)
  unfold maxLen at hmax
  rw [hav] at c6
  have HEL := Lib.hid hel
  have HAK : Hid (∀ j, j ∈ s.ar → w.heap[A.ab j]? = some (.cells (cellsA A j (D.K j)) 153 (0, 0))) := Lib.hid fun j hj => by
    have hl := hN j hj
    have hk : D.ak[j]? = some (D.K j) := by unfold Day.K; rw [List.getD_eq_getElem?_getD, List.getElem?_eq_getElem hl]; rfl
    exact (h.ab hk).2
  clear h hsb hqb hP hlast hel hav hs hN
  obtain ⟨l, hl⟩ : ∃ l, l = s.ar := ⟨_, rfl⟩
  rw [← hl] at HAK HEL hcap c6 ⊢
  clear hl
  go_enter Tryz.func94, Tryz.ntmps94
  go_wp2_with fail
  refine HPU.out.mono ?_
  rintro e wp ⟨rfl, HB⟩
  have d6 := (HB.cell (p := ⟨A.sb i, 6, none⟩) hsl).trans c6
  have HBP := Lib.hid HB
  clear HB
  go_wp2_with fail
  go_loopg [9, 18] l.length (fun gg s9 s18 wr => ∃ n : Nat, n ≤ l.length ∧ l.length - n ≤ gg ∧ s18 = .int .i64 n ∧ Aside ((l.take n).find? (wayB D key last) = none) ∧ Aside (Below w.heap.size w wr))
  case atStart => exact ⟨0, by omega, by omega, rfl, (show Aside (_ = _) from rfl), (show Aside _ from HBP.out)⟩
  case round =>
    obtain ⟨wq, rfl⟩ : ∃ wq : World, wq = wr := ⟨_, rfl⟩
    obtain ⟨n, hn, hgn, rfl, FD, BW⟩ := hrel
    have HB := Lib.hid BW.out
    have HFD := Lib.hid FD.out
    clear BW FD
    by_cases hnl : n < l.length
    · have hnz : (n : Int) < (l.length : Int) := by omega
      obtain ⟨j, hj⟩ : ∃ j, l[n]? = some j := ⟨l[n], by simp [hnl]⟩
      obtain ⟨b, off, rfl, hc⟩ := HEL.out n j hj
      have p0 : w.cell? ⟨b, off + n, none⟩ = some (.pointer (some ⟨A.ab j, 0, none⟩)) := by simpa using hc 0 _ rfl
      have q0 := (HB.out.cell (p := ⟨b, off + n, none⟩) (World.block_lt_of_cell? w _ p0)).trans p0
      have hbk := HAK.out j (List.mem_of_getElem? hj)
      have hbq := (HB.out.block (A.ab j) (Array.getElem?_eq_some_iff.1 hbk).1).trans hbk
      have k3 : wq.cell? ⟨A.ab j, 3, none⟩ = some (.string (D.K j).ke) := cellF hbq 3 rfl
      have k4 : wq.cell? ⟨A.ab j, 4, none⟩ = some (.bool (D.K j).kp) := cellF hbq 4 rfl
      have k2 : wq.cell? ⟨A.ab j, 2, none⟩ = some (.int .i64 (D.K j).ma) := cellF hbq 2 rfl
      have HHIT := Lib.hid (fun h => find_hit hj HFD.out h)
      have HMISS := Lib.hid (fun h => find_miss hj HFD.out h)
      have HW : Hid (wayB D key last j = (((D.K j).ke.toList == key.toList) && ((D.K j).kp && decide (last ≤ (D.K j).ma)))) := Lib.hid rfl
      generalize (D.K j).ke = ke at *
      generalize (D.K j).kp = kp at *
      generalize (D.K j).ma = ma at *
      clear hj hc p0 hbk hbq
      cases e1 : (ke.toList == key.toList)
      case false =>
        have HN := Lib.hid (HMISS.out (by rw [HW.out, e1]; rfl))
        go_wp2
        go_roundg (l.length - (n + 1))
        case measure => omega
        case rel => exact ⟨n + 1, by omega, by omega, by go_num, (show Aside (_ = _) from HN.out), (show Aside _ from HB.out)⟩
      case true =>
        cases kp
        case false =>
          have HN := Lib.hid (HMISS.out (by rw [HW.out, e1]; rfl))
          go_wp2
          go_roundg (l.length - (n + 1))
          case measure => omega
          case rel => exact ⟨n + 1, by omega, by omega, by go_num, (show Aside (_ = _) from HN.out), (show Aside _ from HB.out)⟩
        case true =>
          by_cases h5 : last ≤ ma
          · have HN := Lib.hid (HHIT.out (by rw [HW.out, e1]; simp [h5]))
            go_wp2
            go_ret
            exact ⟨by unfold wayO; rw [HN.out]; rfl, HB.out⟩
          · have HN := Lib.hid (HMISS.out (by rw [HW.out, e1]; simp [h5]))
            go_wp2
            go_roundg (l.length - (n + 1))
            case measure => omega
            case rel => exact ⟨n + 1, by omega, by omega, by go_num, (show Aside (_ = _) from HN.out), (show Aside _ from HB.out)⟩
    · obtain rfl : n = l.length := by omega
      go_wp2
      go_ret
      refine ⟨?_, HB.out⟩
      have h := HFD.out
      rw [List.take_length] at h
      unfold wayO
      rw [h]
      rfl
end Go.Proofs.YtehbmnkbmgnkfaaGreatDoor

/- ask: the walk. -/
namespace Go.Proofs.YtehbmnkbmgnkfaaGreatDoor
open Go.RowKit

theorem infoP : (Tryz.prog.info? 139).map (fun i => (i.zero, i.size, i.bytes)) = some (some (.pointer none), 1, 8) := by kernel_rfl
theorem slP : SlT Tryz.prog 134 139 1 8 := by
  obtain ⟨i0, hi, hz0, hz1, hz2⟩ := info_parts infoP
  exact ⟨i0, _, Tryz.underlying134, hi, hz0, hz1, hz2, rfl, by decide, by decide⟩
theorem PD.heapEq {W W' : World} {B : Nat} {A : Adr} {D : Day} (h : PD W B A D) (he : W'.heap = W.heap) : PD W' B A D := by
  obtain ⟨M, h1, h2⟩ := h
  exact ⟨M, h1.keep (by rw [he]; exact Nat.le_refl _) (fun _ b _ _ => by rw [he]), h2⟩
theorem QChg.toBelow {Q B : Nat} {a : Nat → Nat} {w w' : World} {v v' : Value} {l : List Evn} (h : QChg Q w w' v v') (hq : QAt Q B a w v l) (hQ : B ≤ Q) : Below B w w' :=
  ⟨h.os, h.tape, h.output, h.size, fun b hb => (h.other b (Nat.lt_of_lt_of_le hb hq.base) (by omega) (hq.own.offB hb)).1⟩
theorem PD.offAr {W : World} {B : Nat} {A : Adr} {D : Day} (h : PD W B A D) {i : Nat} {s : Sto} (hs : D.st[i]? = some s) : offB (A.sb i) (A.av i) := by
  obtain ⟨M, h1, h2⟩ := h
  exact OwnM.off h1 (h2.sa i s hs) (h2.st i s hs) (by unfold rSt rSa; omega)
theorem PD.offWa {W : World} {B : Nat} {A : Adr} {D : Day} (h : PD W B A D) {j : Nat} {k : Akn} (hk : D.ak[j]? = some k) : offB (A.ab j) (A.wv j) := by
  obtain ⟨M, h1, h2⟩ := h
  exact OwnM.off h1 (h2.wa j k hk) (h2.ak j k hk) (by unfold rAk rWa; omega)
/-- What stays where it is, the first n asks too. -/
structure AdrLe (A A' : Adr) (n : Nat) : Prop where
  q : A'.q = A.q
  d0 : A'.d0 = A.d0
  d1 : A'.d1 = A.d1
  d2 : A'.d2 = A.d2
  d3 : A'.d3 = A.d3
  sv : A'.sv = A.sv
  gv : A'.gv = A.gv
  sb : A'.sb = A.sb
  mb : A'.mb = A.mb
  x : A'.x = A.x
  ab : ∀ j, j < n → A'.ab j = A.ab j
theorem AdrLe.refl (A : Adr) (n : Nat) : AdrLe A A n := ⟨rfl, rfl, rfl, rfl, rfl, rfl, rfl, rfl, rfl, rfl, fun _ _ => rfl⟩
theorem AdrLe.trans {A B C : Adr} {n m : Nat} (h : AdrLe A B n) (k : AdrLe B C m) (hn : n ≤ m) : AdrLe A C n :=
  ⟨k.q.trans h.q, k.d0.trans h.d0, k.d1.trans h.d1, k.d2.trans h.d2, k.d3.trans h.d3, k.sv.trans h.sv, k.gv.trans h.gv, k.sb.trans h.sb, k.mb.trans h.mb, k.x.trans h.x, fun j hj => (k.ab j (Nat.lt_of_lt_of_le hj hn)).trans (h.ab j hj)⟩
/-- A cache asks its parent. -/
def Day.newA (D : Day) (i : Nat) (key : ByteArray) (kept : Bool) : Day := { D with ak := D.ak ++ [⟨i, D.no, key, kept⟩], wa := upF D.wa D.ak.length [] }
def Day.arA (D : Day) (i : Nat) (s : Sto) (j : Nat) : Day := { D with st := D.st.set i { s with ar := s.ar ++ [j] } }
def askS (s : Sto) (j : Nat) : Sto := { s with ar := s.ar ++ [j], ld := { s.ld with ak := s.ld.ak + 1 } }
def Day.askD (D : Day) (i : Nat) (s : Sto) (key : ByteArray) (kept : Bool) : Day :=
  { D with ak := D.ak ++ [⟨i, D.no, key, kept⟩], wa := upF D.wa D.ak.length [], st := D.st.set i (askS s D.ak.length),
           qu := hpush (bfr (D.newA i key kept).K) D.qu ⟨D.no + s.ch.de, false, D.ak.length, ⟨0, 0, 0, false, ⟨#[]⟩⟩⟩ }
set_option maxRecDepth 100000 in
set_option maxHeartbeats 4000000 in
theorem ask_any (w : World) (B : Nat) (A : Adr) (D : Day) (i : Nat) (s : Sto) (key : ByteArray) (kept : Bool) (h : PD w B A D) (hn : DNum D) (hs : D.st[i]? = some s) (hq : D.qu.length ≤ 900000) (hal : D.ak.length ≤ 900000) (har : s.ar.length ≤ 900000) (hno : 0 ≤ D.no ∧ D.no ≤ 1000000000000000) (hde : 0 ≤ s.ch.de ∧ s.ch.de ≤ 1000000) (hld : 0 ≤ s.ld.ak ∧ s.ld.ak ≤ 1000000000000000) :
    Calls Tryz.prog 91 #[.pointer (some ⟨A.q, 0, none⟩), .int .i64 (i : Nat), .string key, .bool kept] w fun e w' => ∃ A', e = .returned (.pointer (some ⟨A'.ab D.ak.length, 0, none⟩)) ∧ PD w' B A' (D.askD i s key kept) ∧ AdrLe A A' D.ak.length ∧ Below B w w' := by
  have hsb := (h.sb hs).2
  have hqb := h.qb.2
  have hil : i < D.st.length := (List.getElem?_eq_some_iff.1 hs).1
  have hne : List.range D.st.length ≠ [] := fun e => by rw [List.range_eq_nil] at e; omega
  obtain ⟨g, cap, hsv, hg1, hg2, hg3, hg4, hgc, hgf⟩ := Own.getk (encP_len A.sb) h.stores hne
  rw [List.length_range] at hsv
  have q4 : w.cell? ⟨A.q, 4, none⟩ = some (.slice (some ⟨g, 0, none⟩) D.st.length cap) := by rw [cellF hqb 4 rfl, ← hsv]; rfl
  have q6 : w.cell? ⟨A.q, 6, none⟩ = some (.int .i64 (D.ak.length : Nat)) := cellF hqb 6 rfl
  have q8 : w.cell? ⟨A.q, 8, none⟩ = some (.int .i64 D.no) := cellF hqb 8 rfl
  have hiz : (i : Int) < (D.st.length : Int) := by omega
  have s0 : w.cell? ⟨g, i, none⟩ = some (.pointer (some ⟨A.sb i, 0, none⟩)) := by have h := hgc i i 0 _ (by simp [hil]) rfl; simpa using h
  have hql := World.block_lt_of_cell? w _ q6
  have hsl := World.block_lt_of_cell? w _ (cellF hsb 0 rfl)
  have m6 := frozF hqb 6
  have HH := Lib.hid h
  have hna := h.newAk hn ⟨i, D.no, key, kept⟩
  rw [World.setCell_alloc_past _ _ _ _ hql] at hna
  have HNA := Lib.hid hna
  have HBL := Lib.hid (And.intro h.qb.1 h.base)
  have HBI := Lib.hid (h.sb hs).1
  clear h hna hsb hqb hgc hgf
  go_enter Tryz.func91, Tryz.ntmps91
  go_wp2_with fail
  go_still_tail 12, (by kernel_rfl)
  change wpList _ _ _ _ _ w.drew
  go_upto_region 4 with (fail)
  obtain ⟨w3, hw3⟩ : ∃ w3, w3 = ((w.setCell ⟨A.q, 6, none⟩ (.int .i64 ((D.ak.length : Int) + 1))).alloc (.cells #[.int .i64 (i : Nat), .int .i64 (D.ak.length : Nat), .int .i64 D.no, .string key, .bool kept, .slice none 0 0] 153)).drew := ⟨_, rfl⟩
  rw [← hw3]
  obtain ⟨N, hN⟩ : ∃ N, N = w.heap.size := ⟨_, rfl⟩
  obtain ⟨j, hj⟩ : ∃ j, j = D.ak.length := ⟨_, rfl⟩
  have hp3 : PD w3 B { A with ab := upF A.ab j N, wv := upF A.wv j (.slice none 0 0) } (D.newA i key kept) := by
    rw [hj, hN]
    exact HNA.out.heapEq (by rw [hw3]; rfl)
  have hb3 : Below B w w3 := by rw [hw3]; exact (((Below.refl B w).setCell (p := ⟨A.q, 6, none⟩) HBL.out.1 _).alloc (by simpa using HBL.out.2) _).drew
  rw [← hN]
  obtain ⟨A1, hA1⟩ : ∃ A1, A1 = { A with ab := upF A.ab j N, wv := upF A.wv j (.slice none 0 0) } := ⟨_, rfl⟩
  rw [← hA1] at hp3
  have hl1 : AdrLe A A1 D.ak.length := by rw [hA1]; exact ⟨rfl, rfl, rfl, rfl, rfl, rfl, rfl, rfl, rfl, rfl, fun k hk => upF_other _ _ (by omega)⟩
  have hN1 : N = A1.ab j := by rw [hA1]; exact (upF_same _ _ _).symm
  rw [← hj]
  rw [hN1, ← hl1.sb, ← hl1.q] at *
  have HJ := Lib.hid hj
  clear hj
  have hs3 : (D.newA i key kept).st[i]? = some s := hs
  have hsb3 := (hp3.sb hs3).2
  obtain ⟨v6, hv6⟩ : ∃ v, v = A1.av i := ⟨_, rfl⟩
  have ho3 := hp3.asks hs3
  have hof := hp3.offAr hs3
  have c6 : w3.cell? ⟨A1.sb i, 6, none⟩ = some v6 := by rw [hv6]; exact cellF hsb3 6 rfl
  rw [← hv6] at ho3 hof
  obtain ⟨ao, n, cp, rfl⟩ := Own.slv (encP_len A1.ab) ho3
  have HP3 := Lib.hid hp3
  have HO4 : Hid (Own (w3.alloc (.cells #[.pointer (some ⟨A1.ab j, 0, none⟩)] 139)) B 139 1 (encP A1.ab) (.slice ao n cp) s.ar) := Lib.hid (ho3.al _)
  have HV4 : Hid ((w3.alloc (.cells #[.pointer (some ⟨A1.ab j, 0, none⟩)] 139)).heap[w3.heap.size]? = some (.cells (encP A1.ab j).toArray 139 (0, 0))) := Lib.hid (block_new w3 _)
  have hbs4 : B ≤ (w3.alloc (.cells #[.pointer (some ⟨A1.ab j, 0, none⟩)] 139)).heap.size := by have := hp3.base; simp; omega
  have HS3 := Lib.hid hsb3
  have HOF := Lib.hid hof
  have hsl3 : A1.sb i < w3.heap.size := (Array.getElem?_eq_some_iff.1 hsb3).1
  have HB3 := Lib.hid hb3
  have HW3 := Lib.hid hw3
  have HA1 := Lib.hid hA1
  have HV6 := Lib.hid hv6
  clear ho3 hp3 hsb3 hof hb3 hw3 hA1 hv6
  go_upto_region 5 with (at_builtin; go_loud (refine wpList_pushB (enc := encP A1.ab) (v := .slice ao n cp) (l := s.ar) rfl _ _ 134 rfl slP (by decide) rfl rfl j rfl rfl HO4.out HV4.out (by omega) hbs4 ?_); intro v5 w5 ho5 hb5 hk5; go_loud (have hb5' : w5.heap[A1.sb i]? = some (.cells (cellsS A1 i s) 138 (0, 0)) := (hk5 (A1.sb i) (Nat.lt_of_lt_of_le hsl3 (by simp)) HOF.out).1.trans ((Below.heap_alloc w3 _ _ hsl3).trans HS3.out)); go_loud (have z6 : w5.cell? ⟨A1.sb i, 6, none⟩ = some (.slice ao n cp) := (cellF hb5' 6 rfl).trans (congrArg some HV6.out.symm)); go_loud (have y6 := frozF hb5' 6); have HO5 := Lib.hid ho5; have HB5 := Lib.hid hb5; have HK5 := Lib.hid hk5; go_loud (obtain ⟨ao5, n5, cp5, rfl⟩ := Own.slv (encP_len A1.ab) ho5); go_loud (clear ho5 hb5 hk5 hb5'))
  obtain ⟨w6, hw6⟩ : ∃ w6, w6 = w5.setCell ⟨A1.sb i, 6, none⟩ (.slice ao5 n5 cp5) := ⟨_, rfl⟩
  rw [← hw6]
  have hb4 : Below w3.heap.size w3 (w3.alloc (.cells #[.pointer (some ⟨A1.ab j, 0, none⟩)] 139)) := (Below.refl _ w3).alloc (Nat.le_refl _) _
  have hp6 := (HP3.out.below hb4).setAr hs3 HO5.out HB5.out.size (by rw [← HV6.out]; exact HK5.out)
  rw [← hw6] at hp6
  have hb6 : Below B w w6 := by rw [hw6]; exact ((HB3.out.trans (hb4.mono HP3.out.base)).trans HB5.out).setCell HBI.out _
  obtain ⟨A2, hA2⟩ : ∃ A2, A2 = { A1 with av := upF A1.av i (.slice ao5 n5 cp5) } := ⟨_, rfl⟩
  rw [← hA2] at hp6
  have hl2 : AdrLe A1 A2 (j + 1) := by rw [hA2]; exact ⟨rfl, rfl, rfl, rfl, rfl, rfl, rfl, rfl, rfl, rfl, fun _ _ => rfl⟩
  have hs6 : ((D.newA i key kept).st.set i { s with ar := s.ar ++ [j] })[i]? = some { s with ar := s.ar ++ [j] } := by rw [List.getElem?_set_self (List.getElem?_eq_some_iff.1 hs3).1]
  have hsb6 := (hp6.sb hs6).2
  rw [show A2.sb = A1.sb from hl2.sb] at hsb6
  have c11 : w6.cell? ⟨A1.sb i, 11, none⟩ = some (.int .i64 s.ld.ak) := cellF hsb6 11 rfl
  have m11 := frozF hsb6 11
  have HP6 := Lib.hid hp6
  have HS6 := Lib.hid hs6
  have HB6 := Lib.hid hb6
  clear hp6 hs6 hsb6 hb6 hb4 hw6 z6 y6 c6
  have hwl : IntKind.i64.wrap (s.ld.ak + 1) = s.ld.ak + 1 := IntWalk.i64_in _ (by omega)
  go_upto_region 6 with (fail)
  obtain ⟨w7, hw7⟩ : ∃ w7, w7 = w6.setCell ⟨A1.sb i, 11, none⟩ (.int .i64 (s.ld.ak + 1)) := ⟨_, rfl⟩
  rw [← hw7]
  have hp7 := HP6.out.setSto HS6.out 11 (.int .i64 (s.ld.ak + 1)) (askS s j) rfl rfl rfl rfl
  rw [show A2.sb = A1.sb from hl2.sb, ← hw7] at hp7
  have hp7' : PD w7 B A2 { D.newA i key kept with st := D.st.set i (askS s j) } := by
    have h := hp7
    simp only [List.set_set] at h
    exact h
  clear hp7
  have hb7 : Below B w w7 := by rw [hw7]; exact HB6.out.setCell HBI.out _
  have hqb7 := hp7'.qb.2
  have hs7 : (D.st.set i (askS s j))[i]? = some (askS s j) := by rw [List.getElem?_set_self hil]
  have hsb7 := (hp7'.sb hs7).2
  rw [show A2.sb = A1.sb from hl2.sb] at hsb7
  rw [show A2.q = A1.q from hl2.q] at hqb7
  have r8 : w7.cell? ⟨A1.q, 8, none⟩ = some (.int .i64 D.no) := cellF hqb7 8 rfl
  have r2 : w7.cell? ⟨A1.sb i, 2, none⟩ = some (.int .i64 s.ch.de) := cellF hsb7 2 rfl
  have hw8 : IntKind.i64.wrap (D.no + s.ch.de) = D.no + s.ch.de := IntWalk.i64_in _ (by omega)
  have hpd := hp7'.below (W' := w7.drew) ((Below.refl _ w7).drew)
  have hal7 : ({ D.newA i key kept with st := D.st.set i (askS s j) } : Day).ak.length = j + 1 := by
    show (D.ak ++ [_]).length = j + 1
    rw [List.length_append, ← HJ.out]; rfl
  have HPU := Lib.hid (heapPush_any w7.drew A2.q B A2.ab (D.newA i key kept).K A2.qv D.qu ⟨D.no + s.ch.de, false, j, ⟨0, 0, 0, false, ⟨#[]⟩⟩⟩ hpd.queue (by omega) (fun x hx => hpd.askR (by
    rw [hal7]
    rcases List.mem_append.1 hx with h | h
    · have := hn.qu x h
      rw [← HJ.out] at this
      exact Nat.lt_succ_of_lt this
    · simp only [List.mem_singleton] at h
      rw [h]
      exact Nat.lt_succ_self j)))
  have hab : A2.ab j = A1.ab j := hl2.ab j (Nat.lt_succ_self j)
  have hEE : (encE A2.ab ⟨D.no + s.ch.de, false, j, ⟨0, 0, 0, false, ⟨#[]⟩⟩⟩).toArray = #[.int .i64 (D.no + s.ch.de), .bool false, .pointer (some ⟨A1.ab j, 0, none⟩), .int .i64 0, .int .i64 0, .int .i64 0, .bool false, .string ⟨#[]⟩] := by rw [← hab]; rfl
  rw [hEE, show A2.q = A1.q from hl2.q] at HPU
  have HPD := Lib.hid hpd
  have HB7 := Lib.hid hb7
  clear hpd hp7' hqb7 hsb7 hs7 hb7 hw7 c11 m11
  go_still_tail 17, (by kernel_rfl)
  change wpList _ _ _ _ _ w7.drew
  go_wp2_with fail
  refine HPU.out.mono ?_
  rintro e w8 ⟨rfl, v8, hq8, hc8⟩
  have HQ8 := Lib.hid hq8
  have HC8 := Lib.hid hc8
  clear hq8 hc8
  go_wp2_with fail
  go_ret
  have hc := HC8.out
  have hq := HQ8.out
  rw [← show A2.q = A1.q from hl2.q] at hc hq
  have hp8 := HPD.out.setQu hq hc
  refine ⟨{ A2 with qv := v8 }, ?_, ?_, ?_, ?_⟩
  · have e : A2.ab D.ak.length = A1.ab j := by rw [← HJ.out]; exact hab
    show _ = Ending.returned (.pointer (some ⟨A2.ab D.ak.length, 0, none⟩))
    rw [e]
    rfl
  · have h := hp8
    rw [HJ.out] at h
    exact h
  · have h := hl1.trans hl2 (by rw [HJ.out]; exact Nat.le_succ _)
    exact ⟨h.q, h.d0, h.d1, h.d2, h.d3, h.sv, h.gv, h.sb, h.mb, h.x, h.ab⟩
  · exact (HB7.out.drew).trans (hc.toBelow HPD.out.queue HPD.out.qb.1)
end Go.Proofs.YtehbmnkbmgnkfaaGreatDoor

/- came: the walk. -/
import Derived.Shelf.SlicesE.DeleteFunc
import Derived.Shelf.SlGeneric
import Derived.Test.YtgohddfnhofjhaaGreatDoorProg
import Derived.Test.YtgohddfnhofjhaaGreatDoorK13
import Derived.Lib.OwnBridge
import Derived.Lib.SliceRun
import Derived.LaidEqlPtr
import Derived.Test.YtgohddfnhofjhaaGreatDoorK15
import Derived.Deep.CutBlock
import Derived.Test.YtgohddfnhofjhaaGreatDoorK01
set_option maxRecDepth 100000
set_option maxHeartbeats 4000000
namespace Go.Proofs
open Go.Shelf
def Tryz.laysDf_ren : Go.Shelf.Ren := ⟨fun | 10 => 107 | 6 => 151 | n => n, fun | 22 => 82 | 23 => 131 | 25 => 187 | 3 => 3 | 4 => 4 | 0 => 0 | n => n, fun | n => n⟩
theorem Tryz.laysDf : Go.Proofs.SlLaysH.n10 Tryz.prog Tryz.laysDf_ren := {
 mixed := by kernel_rfl
 f6 := ⟨Tryz.f151.name, by decide, Tryz.func151.trans (congrArg some (by kernel_rfl))⟩
 f10 := ⟨Tryz.f107.name, by decide, Tryz.func107.trans (congrArg some (by kernel_rfl))⟩
 t0 := Tryz.underlying0
 a0 := Tryz.isAgg0
 z0 := Tryz.sizeOf0
 v0 := Tryz.zeroValue0
 t3 := Tryz.underlying3
 a3 := Tryz.isAgg3
 z3 := Tryz.sizeOf3
 v3 := Tryz.zeroValue3
 t4 := Tryz.underlying4
 a4 := Tryz.isAgg4
 z4 := Tryz.sizeOf4
 v4 := Tryz.zeroValue4
 t22 := Tryz.underlying82
 a22 := Tryz.isAgg82
 z22 := Tryz.sizeOf82
 v22 := Tryz.zeroValue82
 a23 := Tryz.isAgg131
 z23 := Tryz.sizeOf131
 t25 := Tryz.underlying187
 a25 := Tryz.isAgg187
 z25 := Tryz.sizeOf187
 v25 := Tryz.zeroValue187 }
end Go.Proofs
namespace Go.Proofs.YtgohddfnhofjhaaGreatDoor
open Go.Shelf Go.RowKit Go.Lib Go.Sort
theorem PD.Jh {W : World} {B : Nat} {A : Adr} {D : Day} (h : PD W B A D) {a b : Nat} (ha : a < D.ak.length) (hb : b < D.ak.length) (e : A.ab a = A.ab b) : a = b := by
 obtain ⟨M, h1, h2⟩ := h; have ga := h2.ak a _ (Day.oJ ha); have gb := h2.ak b _ (Day.oJ hb); rw [e] at ga; have := h1.inj _ _ _ _ _ ga gb; unfold rAk at this; omega
theorem FY : ∃ j, Tryz.prog.info? 142 = some j ∧ j.size ≠ 0 := by
 have h : (Tryz.prog.info? 142).map (fun i => i.size) = some 6 := by kernel_rfl
 cases e : Tryz.prog.info? 142 with
 | none => rw [e] at h; cases h
 | some j => rw [e] at h; exact ⟨j, rfl, by simp at h; omega⟩
def fo (n : Nat) (o : Nat) : Option (Fin n) := if h : o < n then some ⟨o, h⟩ else none
def Jb (ab : Nat → Nat) (n : Nat) : Option (Fin n) → Value
 | none => .pointer none
 | some o => .pointer (some ⟨ab o.1, 0, none⟩)
theorem zi {n o : Nat} (h : o < n) : fo n o = some ⟨o, h⟩ := dif_pos h
theorem Hu (ab : Nat → Nat) {n o : Nat} (h : o < n) : Jb ab n (fo n o) = .pointer (some ⟨ab o, 0, none⟩) := by rw [zi h]; rfl
theorem vF (ab : Nat → Nat) (n : Nat) : ∀ (l : List Nat), (∀ o, o ∈ l → o < n) → l.flatMap (oH ab) = (l.map (fo n)).map (Jb ab n)
 | [], _ => rfl
 | a :: l, h => by
  rw [List.flatMap_cons, vF ab n l (fun o ho => h o (List.mem_cons_of_mem _ ho)), List.map_cons, List.map_cons, Hu ab (h a (List.mem_cons_self ..))]
  rfl
theorem xm (ab : Nat → Nat) (n j N : Nat) (hj : j < n) (x : Option (Fin n)) (W : World) (hc : W.cell? ⟨N, 0, none⟩ = some (.pointer (some ⟨ab j, 0, none⟩))) (hb : ∀ o, o < n → ∃ cs, W.heap[ab o]? = some (.cells cs 142 (0, 0))) (hi : ∀ a b, a < n → b < n → ab a = ab b → a = b) :
 FnGives Tryz.prog 108 #[.pointer (some ⟨N, 0, none⟩)] #[Jb ab n x] (.bool (decide (x = fo n j))) W := by
 cases x with
 | none =>
  have hv : decide ((none : Option (Fin n)) = fo n j) = false := by rw [zi hj]; simp
  rw [hv]; show Calls Tryz.prog 108 #[.pointer none, .pointer (some ⟨N, 0, none⟩)] W _
  obtain ⟨ji, hj1, hj2⟩ := FY; have hq : (binOp .eql 131 (.pointer none) (.pointer (some ⟨ab j, 0, none⟩))).run Tryz.prog W = .ok (.bool false) W := by
   have h : ∀ d : Nat, (Op.equalIn (d + 1) 131 (.pointer none) (.pointer (some ⟨ab j, 0, none⟩))).run Tryz.prog W = .ok false W := fun d => by
    simp [Op.equalIn, run_underlying (P := Tryz.prog) Tryz.underlying131]
   simp only [binOp]
   simp [Op.equal, Op.maxDepth, h 9999]
  clear hb hi hj1 hv
  go_enter Tryz.func108, Tryz.ntmps108
  go_wp2
  go_ret
  exact ⟨rfl, 0, rfl⟩
 | some o =>
  show Calls Tryz.prog 108 #[.pointer (some ⟨ab o.1, 0, none⟩), .pointer (some ⟨N, 0, none⟩)] W _
  obtain ⟨ji, hj1, hj2⟩ := FY; by_cases e : o.1 = j
  ·have hv : decide (some o = fo n j) = true := by rw [zi hj]; simp; exact Fin.ext e
   have hq : (binOp .eql 131 (.pointer (some ⟨ab j, 0, none⟩)) (.pointer (some ⟨ab j, 0, none⟩))).run Tryz.prog W = .ok (.bool true) W := run_eql_ptr_same W _ Tryz.underlying131 hj1; rw [hv, e]; clear hb hi hj1 hv
   go_enter Tryz.func108, Tryz.ntmps108
   go_wp2
   go_ret
   exact ⟨rfl, 0, rfl⟩
  ·have hv : decide (some o = fo n j) = false := by rw [zi hj]; simp; exact fun h => e (by rw [h])
   obtain ⟨c1, b1⟩ := hb o.1 o.2; obtain ⟨c2, b2⟩ := hb j hj; have hq : (binOp .eql 131 (.pointer (some ⟨ab o.1, 0, none⟩)) (.pointer (some ⟨ab j, 0, none⟩))).run Tryz.prog W = .ok (.bool false) W := run_eql_ptr_other W Tryz.underlying131 hj1 hj2 (fun h => e (hi _ _ o.2 hj (by simpa using h))) b1 b2; rw [hv]; clear hb hi hj1 hv b1 b2
   go_enter Tryz.func108, Tryz.ntmps108
   go_wp2
   go_ret
   exact ⟨rfl, 0, rfl⟩
theorem Fb (w : World) (B : Nat) (A : Adr) (D : Day) (i j N : Nat) (s : Sto) (h : PD w B A D) (hs : D.st[i]? = some s) (hn : Jk D) (hj : j ∈ s.ar) (hN : w.cell? ⟨N, 0, none⟩ = some (.pointer (some ⟨A.ab j, 0, none⟩))) (hoff : df N (A.av i)) (hl : s.ar.length ≤ 800000) :
 Calls Tryz.prog 107 #[A.av i, .func (.func 108) #[] #[.pointer (some ⟨N, 0, none⟩)]] w fun e w' => ∃ v', e = .returned v' ∧ Own w' B 131 1 (oH A.ab) v' (s.ar.filter fun o => !decide (o = j)) ∧ Below B w w' ∧ dm w w' (A.av i) v' := by
 have eg : ∀ args w, (callFunc 108 args).run Tryz.prog w = .ok (.enter 108 args) w := enters_of Tryz.func108 (by kernel_rfl) rfl; have ho := h.asks hs; obtain ⟨n, hnn⟩ : ∃ n, n = D.ak.length := ⟨_, rfl⟩
 have hin : ∀ o, o ∈ s.ar → o < n := fun o ho => by rw [hnn]; exact hn.ar i s hs o ho
 have hjn := hin j hj; obtain ⟨zs, hzs⟩ : ∃ zs, zs = s.ar.map (fo n) := ⟨_, rfl⟩
 have ho2 : w.ownsRow B 131 1 (A.av i) s.ar.length (zs.map (Jb A.ab n)) := by
  rw [hzs, ← vF A.ab n s.ar hin]; exact ho
 have hne : A.av i ≠ .slice none 0 0 := fun e => by
  rcases ho.2 with ⟨_, h2⟩ | ⟨g, cap, cur, h2, _⟩
  ·rw [List.length_eq_zero_iff] at h2; rw [h2] at hj; cases hj
  ·rw [e] at h2; cases h2
 obtain ⟨g, cap, hv, hB, hg, hcap, hm, hzl, hH⟩ := holds_of_ownsRow ho2 hne; have hsz : zs.toArray.size = s.ar.length := by simp [hzl]
 have hNl := LC w _ hN; have hNg : N ≠ g := fun e => hoff _ _ _ hv e.symm
 have hab : ∀ o, o < n → ∃ cs, w.heap[A.ab o]? = some (.cells cs 142 (0, 0)) ∧ A.ab o ≠ g := fun o ho => by
  rw [hnn] at ho; obtain ⟨M, h1, h2⟩ := h; have ga := h2.ak o _ (Day.oJ ho); exact ⟨_, (h1.at_ _ _ _ ga).2, fun e => bV.off h1 (h2.sa i s hs) ga (by unfold rAk rSa; omega) _ _ _ hv e.symm⟩
 have hinj : ∀ a b, a < n → b < n → A.ab a = A.ab b → a = b := fun a b ha hb e => h.Jh (by rw [← hnn]; exact ha) (by rw [← hnn]; exact hb) e
 have hcon := AnyE.slices_DeleteFunc Tryz.laysDf (Jb A.ab n) (fun x => by cases x <;> rfl) (fun x => decide (x = fo n j)) 108 #[.pointer (some ⟨N, 0, none⟩)] eg none Tryz.zeroValue131 g 0 cap zs.toArray w
  (fun W x hb => xm A.ab n j N hjn x W ((hb.cell (p := ⟨N, 0, none⟩) hNl).trans hN) (fun o ho => by
    obtain ⟨cs, h1, _⟩ := hab o ho; exact ⟨cs, (hb.block _ (Array.getElem?_eq_some_iff.1 h1).1).trans h1⟩) hinj)
  (fun m os dk x _ => xm A.ab n j N hjn x _ (by
    unfold sortWorld; rw [cell?_grow _ _ _ (by show N < (putRow _ _ _ _ _).heap.size; rw [size_putRow]; exact hNl), cell?_putRow_other _ _ g 0 _ _ (Or.inl hNg)]; exact hN) (fun o ho => by
    obtain ⟨cs, h1, h2⟩ := hab o ho; refine ⟨cs, ?_⟩; unfold sortWorld; rw [heap_grow_old _ _ (by rw [size_putRow]; exact (Array.getElem?_eq_some_iff.1 h1).1)]; simp [putRow, mapBlock, Sort.ahead, Array.getElem?_modify, Ne.symm h2, h1]) hinj) hH (by rw [hsz]; omega) (by rw [hsz]; exact hcap)
 rw [hsz] at hcon; change Calls Tryz.prog 107 _ _ _ at hcon
 have hF : (zs.filter fun x => !decide (x = fo n j)) = (s.ar.filter fun o => !decide (o = j)).map (fo n) := by
  rw [hzs, List.filter_map]
  congr 1
  refine List.filter_congr fun o hm => ?_
  show (!decide (fo n o = fo n j)) = !decide (o = j)
  rw [zi (hin o hm), zi hjn]; by_cases e : o = j
  ·subst e; simp
  ·rw [decide_eq_false e, decide_eq_false (fun h2 => e (by simpa using h2))]
 obtain ⟨F, hFF⟩ : ∃ F, F = s.ar.filter fun o => !decide (o = j) := ⟨_, rfl⟩
 rw [← hFF] at hF; have hFl : F.length ≤ s.ar.length := by rw [hFF]; exact List.length_filter_le _ _
 rw [hv]; refine hcon.mono ?_; rintro e w' ⟨rfl, q, rfl⟩; have ezl : zs.toArray.toList = zs := by simp
 rw [ezl, hF, List.length_map]; rw [hv] at ho2; have hrow := ownsRow_putRow (q := q) (k := F.length) (ys := F.map (fo n) ++ List.replicate (s.ar.length - F.length) none) ho2 (by simp; omega) hFl; refine ⟨_, rfl, ?_, below_putRow (LD _ _) hB, fun b hb hob => ⟨?_, df.mk (hob _ _ _ rfl)⟩⟩
 ·rw [← hFF]; unfold Own; rw [vF A.ab n F (fun o ho => hin o (by rw [hFF] at ho; exact (List.mem_filter.1 ho).1))]; have e : List.take F.length (F.map (fo n) ++ List.replicate (s.ar.length - F.length) none) = F.map (fo n) := by
   rw [List.take_append_of_le_length (by simp), List.take_of_length_le (by simp)]
  rw [e] at hrow; exact hrow
 ·have hne : g ≠ b := hob _ _ _ rfl; simp [putRow, mapBlock, Sort.ahead, Array.getElem?_modify, hne]
structure Ky (w : World) (B : Nat) (A : Adr) (D : Day) (L : List Wtr) (x : Ans) (W : World) (m : Nat) : Prop where
 ex : ∃ A', PD W B A' ((L.take m).foldl (fun D f => D.aQ f x) D) ∧ bu A A' D.ak.length ∧ A'.wv = A.wv
 bel : Below B w W
theorem yV {D : Day} {L : List Wtr} {x : Ans} {m : Nat} {f : Wtr} (h : L[m]? = some f) : (L.take (m + 1)).foldl (fun D f => D.aQ f x) D = ((L.take m).foldl (fun D f => D.aQ f x) D).aQ f x := by
 rw [List.take_add_one, h, List.foldl_append]
 rfl
theorem Fv (w0 w : World) (B : Nat) (A : Adr) (D : Day) (C : List Cch) (R : List Crl) (E : List Rel) (P : List Pur) (n j : Nat) (x : Ans) (h : PD w B A D) (hF : Fit n D) (hn : n ≤ 310000) (hjl : j < D.ak.length) (hj : j ∈ (D.S (D.K j).ca).ar) (hx : lw x) (hE : zZ w0 B A C R E P) (hw : Below w0.heap.size w0 w) :
 Calls Tryz.prog 70 #[.pointer (some ⟨A.q, 0, none⟩), .pointer (some ⟨A.ab j, 0, none⟩), zW x] w fun e w' => ∃ A', e = .returned (.tuple #[]) ∧ PD w' B A' (D.jH R P j x) ∧ bu A A' D.ak.length ∧ Below B w w' := by
 have hjk := Day.oJ hjl; have hkk := hF.kk j _ hjk; obtain ⟨i, hi⟩ : ∃ i, i = (D.K j).ca := ⟨_, rfl⟩
 rw [← hi] at hj hkk; obtain ⟨s, hsd⟩ : ∃ s, s = D.S i := ⟨_, rfl⟩
 have hs : D.st[i]? = some s := by rw [hsd]; exact Day.at_ hkk.1
 rw [← hsd] at hj; obtain ⟨w1, hw1⟩ : ∃ w1, w1 = w.alloc (.cells #[.pointer (some ⟨A.ab j, 0, none⟩)] 131) := ⟨_, rfl⟩
 have hp1 := h.jf (.cells #[.pointer (some ⟨A.ab j, 0, none⟩)] 131 (0, 0)); rw [← hw1] at hp1; have hb1 : Below B w w1 := by rw [hw1]; exact (LD _ w).alloc h.base _
 obtain ⟨A1, hA1⟩ : ∃ A1, A1 = { A with x := A.x ++ [(w.heap.size, Obj.cells #[.pointer (some ⟨A.ab j, 0, none⟩)] 131 (0, 0))] } := ⟨_, rfl⟩
 rw [← hA1] at hp1; have hsz1 : w1.heap.size = w.heap.size + 1 := by rw [hw1]; simp
 obtain ⟨w2, hw2⟩ : ∃ w2, w2 = w1.alloc (.cells #[.int .i64 x.ve, .int .i64 x.bo, .int .i64 x.si, .bool x.no, .string x.fr] 95) := ⟨_, rfl⟩
 have hp2 := hp1.jf (.cells #[.int .i64 x.ve, .int .i64 x.bo, .int .i64 x.si, .bool x.no, .string x.fr] 95 (0, 0)); rw [← hw2] at hp2; have hb2 : Below B w w2 := by rw [hw2]; exact hb1.alloc hp1.base _
 rw [hsz1] at hp2; obtain ⟨A2, hA2⟩ : ∃ A2, A2 = { A1 with x := A1.x ++ [(w.heap.size + 1, Obj.cells #[.int .i64 x.ve, .int .i64 x.bo, .int .i64 x.si, .bool x.no, .string x.fr] 95 (0, 0))] } := ⟨_, rfl⟩
 rw [← hA2] at hp2; have eA : A2.q = A.q ∧ A2.sb = A.sb ∧ A2.ab = A.ab ∧ A2.av = A.av ∧ A2.wv = A.wv ∧ A2.mb = A.mb := by rw [hA2, hA1]; exact ⟨rfl, rfl, rfl, rfl, rfl, rfl⟩
 have hx4 : A2.x[A.x.length]? = some (w.heap.size, Obj.cells #[.pointer (some ⟨A.ab j, 0, none⟩)] 131 (0, 0)) := by rw [hA2, hA1]; simp
 have hx5 : A2.x[A.x.length + 1]? = some (w.heap.size + 1, Obj.cells #[.int .i64 x.ve, .int .i64 x.bo, .int .i64 x.si, .bool x.no, .string x.fr] 95 (0, 0)) := by rw [hA2, hA1]; simp
 have HL3 : Hid (∀ A' : Adr, bu A2 A' D.ak.length → bu A { A' with x := A.x } D.ak.length ∧ A'.x = A2.x) := Lr (by
  intro A' hl; rw [hA2, hA1] at hl; exact ⟨⟨hl.q, hl.d0, hl.d1, hl.d2, hl.d3, hl.sv, hl.gv, hl.sb, hl.mb, rfl, hl.ab⟩, by rw [hA2, hA1]; exact hl.x⟩)
 have HXY : Hid (∃ y, A2.x = A.x ++ y) := Lr (by rw [hA2, hA1]; simp only [List.append_assoc]; exact ⟨_, rfl⟩); have HE2 : Hid (zZ w0 B A2 C R E P) := Lr (by rw [hA2, hA1]; exact ⟨hE.le, hE.c, hE.r, hE.e, hE.p, hE.rb, hE.eb⟩); have hqb := hp2.qb.2; rw [eA.1] at hqb; have hil : i < D.st.length := (List.getElem?_eq_some_iff.1 hs).1; have hne : List.range D.st.length ≠ [] := fun e => by rw [List.range_eq_nil] at e; omega
 obtain ⟨g, cap, hsv, hg1, hg2, hg3, hg4, hgc, -⟩ := Own.gZ (bH A2.sb) hp2.stores hne; rw [List.length_range] at hsv; have q4 : w2.cell? ⟨A.q, 4, none⟩ = some (.slice (some ⟨g, 0, none⟩) D.st.length cap) := by rw [af hqb 4 rfl, ← hsv]; rfl
 have hiz : (i : Int) < (D.st.length : Int) := by omega
 have s0 : w2.cell? ⟨g, i, none⟩ = some (.pointer (some ⟨A.sb i, 0, none⟩)) := by rw [← eA.2.1]; have h := hgc i i 0 _ (by simp [hil]) rfl; simpa using h
 have k4 := hp2.fr hx4; have x4 := af k4 0 (v := .pointer (some ⟨A.ab j, 0, none⟩)) rfl; have hab2 := (hp2.ab hjk).2; rw [eA.2.2.1] at hab2; have a0 : w2.cell? ⟨A.ab j, 0, none⟩ = some (.int .i64 (i : Nat)) := by rw [hi]; exact af hab2 0 rfl
 have HW1 := Lr hw1; have HW2 := Lr hw2; have HS1 := Lr hsz1; have HP2 := Lr hp2; have HB2 := Lr hb2; have HF := Lr hF; have HE := Lr hE; have HW0 := Lr hw; have HS := Lr hs; have HX := Lr hx; have EA := Lr eA; have HN := Lr hn; have HJL := Lr hjl; have HJK := Lr hjk; have HJ := Lr hj; have HI := Lr hi; have HSD := Lr hsd; have HKK := Lr hkk; have HX4 := Lr hx4; have HX5 := Lr hx5; have HW0B : Hid (∀ W, Below B w W → Below w0.heap.size w0 W) := Lr (fun W hb => HW0.out.trans (hb.mono HE.out.le)); clear h hp1 hw1 hb1 hp2 hw2 hb2 hF hE hw hs hx hA1 hA2 hx4 hx5 hn hjl hjk hkk hi hsd hne hqb hsv hg1 hg2 hg3 hg4 hgc k4 hab2 eA hsz1 hj
 go_enter Tryz.func70, Tryz.ntmps70
 go_upto_region 1 with (fail)
 rw [← HW1.out, ← HW2.out]
 go_quiet (fail)
 obtain ⟨w3, hw3⟩ : ∃ w3, w3 = w2.drewN nq := ⟨_, rfl⟩
 have hp3 : PD w3 B A2 D := HP2.out.iq (by rw [hw3]; rfl); have hb3 : Below B w w3 := by rw [hw3]; exact below_drewN HB2.out _
 rw [← hw3]; clear hw3 q4 s0 x4 a0 hiz; have hsb3 := (hp3.sb HS.out).2; rw [EA.out.2.1] at hsb3; have c6 : w3.cell? ⟨A.sb i, 6, none⟩ = some (A.av i) := by rw [← EA.out.2.2.2.1]; exact af hsb3 6 rfl
 have k4 := hp3.fr HX4.out; have x4 := af k4 0 (v := .pointer (some ⟨A.ab j, 0, none⟩)) rfl; have hoff : df w.heap.size (A2.av i) := by
  obtain ⟨M, h1, h2⟩ := hp3; exact bV.off h1 (h2.sa i s HS.out) (h2.fx _ _ _ HX4.out) (by unfold rSt rSa; omega)
 have hdel := Fb w3 B A2 D i j w.heap.size s hp3 HS.out HF.out.num HJ.out (by rw [EA.out.2.2.1]; exact x4) hoff (Nat.le_trans (HF.out.st i s HS.out).ar (by have := HN.out; omega)); rw [EA.out.2.2.1, EA.out.2.2.2.1] at hdel; have HDEL := Lr hdel; have HP3 := Lr hp3; have HB3 := Lr hb3; have HSB3 := Lr hsb3; have hsl : A.sb i < w3.heap.size := LC w3 _ c6; have hofs := hp3.IM HS.out; rw [EA.out.2.1, EA.out.2.2.2.1] at hofs; have HOFS := Lr hofs; have HSL := Lr hsl; clear hp3 hb3 hsb3 k4 x4 hoff hdel hsl hofs
 go_wp2_with fail
 refine HDEL.out.mono ?_; rintro e w4 ⟨v4, rfl, ho4, hb4, hk4⟩; have hsb4 := (hk4 (A.sb i) HSL.out HOFS.out).1.trans HSB3.out; have hw4s : w3.heap.size ≤ w4.heap.size := hb4.size; obtain ⟨v0, hv0⟩ : ∃ v, v = A.av i := ⟨_, rfl⟩
 rw [← hv0] at c6; have c6' : w4.cell? ⟨A.sb i, 6, none⟩ = some v0 := by
  have h := af hsb4 6 (v := A2.av i) rfl; rw [EA.out.2.2.2.1, ← hv0] at h; exact h
 have f6 := cO hsb4 6; have ho0 := HP3.out.asks HS.out; rw [EA.out.2.2.2.1, ← hv0, EA.out.2.2.1] at ho0; obtain ⟨ao0, n0, cp0, rfl⟩ := Own.slv (bH A.ab) ho0; obtain ⟨ao4, n4, cp4, rfl⟩ := Own.slv (bH A.ab) ho4; obtain ⟨w5, hw5⟩ : ∃ w5, w5 = w4.setCell ⟨A.sb i, 6, none⟩ (.slice ao4 n4 cp4) := ⟨_, rfl⟩
 have hp5 := HP3.out.IJ HS.out (W' := w4) (v' := .slice ao4 n4 cp4) (l' := s.ar.filter fun o => !decide (o = j)) (by rw [EA.out.2.2.1]; exact ho4) hw4s (by rw [EA.out.2.2.2.1]; exact hk4); have hb5 : Below B w w5 := by rw [hw5]; exact (HB3.out.trans hb4).setCell (by rw [← EA.out.2.1]; exact (HP3.out.sb HS.out).1) _
 obtain ⟨A5, hA5⟩ : ∃ A5, A5 = { A2 with av := upF A2.av i (.slice ao4 n4 cp4) } := ⟨_, rfl⟩
 rw [← hA5, EA.out.2.1, ← hw5] at hp5; have hl5 : bu A2 A5 D.ak.length := by rw [hA5]; exact ⟨rfl, rfl, rfl, rfl, rfl, rfl, rfl, rfl, rfl, rfl, fun _ _ => rfl⟩
 have hs5 : (D.st.set i { s with ar := s.ar.filter fun o => !decide (o = j) })[i]? = some { s with ar := s.ar.filter fun o => !decide (o = j) } := by rw [List.getElem?_set_self (List.getElem?_eq_some_iff.1 HS.out).1]
 have EA5 : Hid (A5.q = A.q ∧ A5.sb = A.sb ∧ A5.ab = A.ab ∧ A5.wv = A.wv ∧ A5.x = A2.x) := Lr (by rw [hA5]; exact ⟨EA.out.1, EA.out.2.1, EA.out.2.2.1, EA.out.2.2.2.2.1, rfl⟩); have HV0 := Lr hv0; have HW5 := Lr hw5; have HP5 := Lr hp5; have HB5 := Lr hb5; have HL5 := Lr hl5; have HS5 := Lr hs5; clear ho4 hb4 hk4 hsb4 hw4s ho0 hv0 hw5 hp5 hb5 hl5 hs5 hA5 HDEL c6
 go_upto_region 3 with (fail)
 rw [← HW5.out]; clear c6' f6; have hsb5 := (HP5.out.sb HS5.out).2; rw [EA5.out.2.1] at hsb5; have c12 : w5.cell? ⟨A.sb i, 12, none⟩ = some (.int .i64 s.ld.bs) := af hsb5 12 rfl; have f12 := cO hsb5 12; have k5 := HP5.out.fr (k := A.x.length + 1) (by rw [EA5.out.2.2.2.2]; exact HX5.out); have y2 := af k5 2 (v := .int .i64 x.si) rfl; have hwb : IntKind.i64.wrap (s.ld.bs + x.si) = s.ld.bs + x.si := IntWalk.i64_in _ (by
  have h1 := (HF.out.st i s HS.out).bs; have h2 := HX.out.si; have h3 := HN.out; omega)
 obtain ⟨w6, hw6⟩ : ∃ w6, w6 = (w5.setCell ⟨A.sb i, 12, none⟩ (.int .i64 (s.ld.bs + x.si))).drew := ⟨_, rfl⟩
 obtain ⟨D1, hD1⟩ : ∃ D1, D1 = D.bz i (lg s j x.si) := ⟨_, rfl⟩
 have hp6 : PD w6 B A5 D1 := by
  have h := HP5.out.pM HS5.out 12 (.int .i64 (s.ld.bs + x.si)) (lg s j x.si) rfl rfl rfl rfl; rw [EA5.out.2.1] at h; have h2 := h.iq (W' := w6) (by rw [hw6]; rfl); simp only [List.set_set] at h2
  rw [hD1]; exact h2
 have hb6 : Below B w w6 := by rw [hw6]; exact (HB5.out.setCell (by rw [← EA5.out.2.1]; exact (HP5.out.sb HS5.out).1) _).drew
 have hF1 : Fit (n + 1) D1 := by rw [hD1]; exact HF.out.done HS.out j HX.out
 have hak1 : D1.ak = D.ak := by rw [hD1]; rfl
 have hwa1 : D1.wa = D.wa := by rw [hD1]; rfl
 have hgo1 : D1.go.length = D.go.length := by rw [hD1]; rfl
 have hno1 : D1.no = D.no := by rw [hD1]; rfl
 have hS1 : D1.st[i]? = some (lg s j x.si) := by rw [hD1]; show (D.st.set i _)[i]? = _; rw [List.getElem?_set_self (List.getElem?_eq_some_iff.1 HS.out).1]
 have HBK : Hid (D.jH R P j x = if (D.K j).kp = true then ((D.wa j).foldl (fun D f => D.aQ f x) D1).keepD R P i (((D.wa j).foldl (fun D f => D.aQ f x) D1).S i) (D.K j).ke x else (D.wa j).foldl (fun D f => D.aQ f x) D1) := Lr (by rw [hD1, HSD.out, HI.out]; rfl); have hwf : ∀ f, f ∈ D.wa j → kC D1 f := fun f hf => (HF.out.waits HJL.out f hf).of (by rw [hak1]) hgo1
 obtain ⟨L, hL⟩ : ∃ L, L = D.wa j := ⟨_, rfl⟩
 have hLn : L.length ≤ n := by rw [hL]; exact HF.out.wa j
 have hwj : D1.wa j = L := by rw [hwa1, hL]
 rw [← hL] at HBK hwf; have hjk1 : D1.ak[j]? = some (D.K j) := by rw [hak1]; exact HJK.out
 have k4 := hp6.fr (k := A.x.length) (by rw [EA5.out.2.2.2.2]; exact HX4.out); have x4 := af k4 0 (v := .pointer (some ⟨A.ab j, 0, none⟩)) rfl; have hab6 := (hp6.ab hjk1).2; rw [EA5.out.2.2.1] at hab6; have a5 : w6.cell? ⟨A.ab j, 5, none⟩ = some (A5.wv j) := af hab6 5 rfl; have how := hp6.wait hjk1; obtain ⟨vw, hvw⟩ : ∃ v, v = A5.wv j := ⟨_, rfl⟩
 rw [← hvw, hwj] at how; rw [← hvw] at a5; obtain ⟨ao, cap8, hvs, hcap8, hmax8, hnil8, -⟩ := Sl.own (ik A5.ab) how; subst hvs; have hL0 : Hid (Ky w B A5 D1 L x w6 0) := Lr ⟨⟨A5, by simpa using hp6, bu.refl _ _, rfl⟩, hb6⟩; have HW6 := Lr hw6; have HP6 := Lr hp6; have HF1 := Lr hF1; have HWF := Lr hwf; have HLN := Lr hLn; have HVW := Lr hvw; have HWJ := Lr hwj; have HJK1 := Lr hjk1; have HAK1 := Lr hak1; have HS1D := Lr hS1; have HNO1 := Lr hno1; have HL := Lr hL; have hmax8' : L.length ≤ 9223372036854775807 := by have := HN.out; omega
 clear hsb5 k5 hw6 hp6 hb6 hF1 hwf hLn hvw hwj hjk1 hak1 hS1 hwa1 hgo1 hno1 hL k4 hab6 how hmax8 hnil8 hD1
 go_still_tail 11, (by kernel_rfl)
 change wpList _ _ _ _ _ w5.drew
 go_upto_region 4 with (fail)
 rw [← HW6.out]; clear c12 f12 y2 hwb
 go_wp2_with fail
 clear x4 a5
 go_loopg [8, 44] L.length (fun gg s8 s44 wr => ∃ m : Nat, m ≤ L.length ∧ L.length - m ≤ gg ∧ s44 = .int .i64 m ∧ Aside (Ky w B A5 D1 L x wr m))
 case atStart => exact ⟨0, Nat.zero_le _, by omega, rfl, (show Aside _ from hL0.out)⟩
 case round =>
  obtain ⟨wq, rfl⟩ : ∃ wq : World, wq = wr := ⟨_, rfl⟩
  obtain ⟨m, hm, hgm, rfl, BS⟩ := hrel; obtain ⟨A', hpq, hlq, hwv⟩ := BS.out.ex; have hbq := BS.out.bel; obtain ⟨Dm, hDm⟩ : ∃ Dm, Dm = (L.take m).foldl (fun D f => D.aQ f x) D1 := ⟨_, rfl⟩
  have hsm := iW x (L.take m) D1; have hFm := HF1.out.gives HX.out (L.take m) (n + 1) D1 (fun f hf => HWF.out f (List.mem_of_mem_take hf)); rw [← hDm] at hpq hsm hFm; have hjm : Dm.ak[j]? = some (D.K j) := by rw [hsm.ak]; exact HJK1.out
  by_cases hml : m < L.length
  ·have hmz : (m : Int) < (L.length : Int) := by omega
   obtain ⟨f, hf⟩ : ∃ f, L[m]? = some f := ⟨L[m], by simp [hml]⟩
   have how := hpq.wait hjm; rw [hwv, ← HVW.out, hsm.wa, HWJ.out] at how; obtain ⟨ao2, cap2, hv2, -, -, -, hel⟩ := Sl.own (ik A'.ab) how; obtain ⟨b, off, hbo, hc⟩ := hel m f hf; simp only [Value.slice.injEq] at hv2
   obtain ⟨hao, -, hcc⟩ := hv2; rw [← hao] at hbo; subst hbo; have c0 : wq.cell? ⟨b, off + m * 2, none⟩ = some (.int .i64 (f.ge : Nat)) := hc 0 _ rfl; obtain ⟨po, hpv⟩ : ∃ po : Option Addr, po = (f.ak.map fun j => ⟨A'.ab j, 0, none⟩) := ⟨_, rfl⟩
   have c1 : wq.cell? ⟨b, off + m * 2 + 1, none⟩ = some (.pointer po) := by rw [hpv]; exact hc 1 _ rfl
   obtain ⟨w8, hw8⟩ : ∃ w8, w8 = wq.alloc (.cells #[.int .i64 (f.ge : Nat), .pointer po] 139) := ⟨_, rfl⟩
   have hp8 : PD w8 B A' Dm := hpq.below (by rw [hw8]; exact (LD _ wq).alloc (Ls _) _); have hb8 : Below B w w8 := by rw [hw8]; exact hbq.alloc hpq.base _
   have hnb : w8.heap[wq.heap.size]? = some (.cells #[.int .i64 (f.ge : Nat), .pointer po] 139 (0, 0)) := by rw [hw8]; exact ag wq _
   have k5 := hp8.fr (k := A.x.length + 1) (by rw [hlq.x, EA5.out.2.2.2.2]; exact HX5.out); have hgv := CQ w8 B A' Dm (n + 1 + (L.take m).length) f x hp8 hFm (by have := HN.out; have := HLN.out; simp; omega) ((HWF.out f (List.mem_of_getElem? hf)).of (by rw [hsm.ak]) hsm.go); rw [show A'.q = A.q from hlq.q.trans EA5.out.1] at hgv; have e : Value.agg (jb A'.ab f).toArray = .agg #[.int .i64 (f.ge : Nat), .pointer po] := by rw [hpv]; rfl
   rw [e] at hgv; have HNX : Hid ((L.take (m + 1)).foldl (fun D f => D.aQ f x) D1 = Dm.aQ f x) := Lr (by rw [yV hf, hDm]); have HSM := Lr hsm; have HW8 := Lr hw8; have HGV := Lr hgv; have HLQ := Lr hlq; have HWV := Lr hwv; have HB8 := Lr hb8; have HK5 := Lr k5; have HNB := Lr hnb; have HGM := Lr (And.intro hgm hml); clear hpq hlq hwv hbq hDm hsm hFm hjm hf how hel hc hao hcc hpv hw8 hp8 hb8 hnb k5 hgv e BS hgm hm
   go_upto_region 7 with (fail)
   rw [← HW8.out]; clear c0 c1; have b0 := af HNB.out 0 (v := .int .i64 (f.ge : Nat)) rfl; have b1 := af HNB.out 1 (v := .pointer po) rfl; have y0 := af HK5.out 0 (v := .int .i64 x.ve) rfl; have y1 := af HK5.out 1 (v := .int .i64 x.bo) rfl; have y2 := af HK5.out 2 (v := .int .i64 x.si) rfl; have y3 := af HK5.out 3 (v := .bool x.no) rfl; have y4 := af HK5.out 4 (v := .string x.fr) rfl
   go_wp2_with fail
   refine HGV.out.mono ?_; rintro e w9 ⟨A9, rfl, hp9, hl9, hb9, hv9⟩; have HBS : Hid (Ky w B A5 D1 L x w9 (m + 1)) := Lr ⟨⟨A9, by rw [HNX.out]; exact hp9, HLQ.out.trans hl9 (by rw [HSM.out.ak]; exact Ls _), hv9.trans HWV.out⟩, HB8.out.trans hb9⟩; clear hp9 hl9 hb9 hv9 b0 b1 y0 y1 y2 y3 y4
   go_wp2_with fail
   go_roundg (L.length - (m + 1))
   case measure => have := HGM.out; omega
   case rel => exact ⟨m + 1, by have := HGM.out; omega, by omega, by go_num, (show Aside _ from HBS.out)⟩
  ·obtain rfl : m = L.length := by omega
   have hkk := hsm; rw [List.take_length] at hDm; have hFl := hFm; simp only [List.take_length] at hFl
   have hab := (hpq.ab hjm).2; have eab : A'.ab j = A.ab j := (hlq.ab j (by rw [HAK1.out]; exact HJL.out)).trans (by rw [EA5.out.2.2.1]); rw [eab] at hab; have k4 := hpq.fr (k := A.x.length) (by rw [hlq.x, EA5.out.2.2.2.2]; exact HX4.out); have x4 := af k4 0 (v := .pointer (some ⟨A.ab j, 0, none⟩)) rfl; have k5 := hpq.fr (k := A.x.length + 1) (by rw [hlq.x, EA5.out.2.2.2.2]; exact HX5.out); obtain ⟨kp, hkp⟩ : ∃ kp, kp = (D.K j).kp := ⟨_, rfl⟩
   have a4 : wq.cell? ⟨A.ab j, 4, none⟩ = some (.bool kp) := by rw [hkp]; exact af hab 4 rfl
   have a3 : wq.cell? ⟨A.ab j, 3, none⟩ = some (.string (D.K j).ke) := af hab 3 rfl; have hLA : bu A2 A' D.ak.length := HL5.out.trans (by rw [HAK1.out] at hlq; exact hlq) (Ls _); have hEn := HL3.out A' hLA; have HPQ := Lr hpq; have HLA := Lr hLA; have HEN := Lr hEn; have HBQ := Lr hbq; have hSM : Dm.st[i]? = some (lg s j x.si) := by rw [hsm.st]; exact HS1D.out
   have HSM := Lr hSM; have HFL := Lr hFl; rw [← hDm] at HBK; have HQX : Hid (A'.q = A.q ∧ A'.sb = A.sb) := Lr ⟨hlq.q.trans EA5.out.1, hlq.sb.trans EA5.out.2.1⟩; have HFX : Hid (∀ (W : World) (D9 : Day), PD W B A' D9 → D.jH R P j x = D9 → PD W B { A' with x := A.x } (D.jH R P j x)) := Lr (fun W D9 h1 h2 => by
    rw [h2]; obtain ⟨y, hy⟩ := HXY.out; exact h1.lM ⟨y, by rw [HEN.out.2]; exact hy⟩)
   have HSI : Hid (Dm.S i = lg s j x.si) := Lr (Day.KI hSM); clear hpq hlq hwv hDm hsm hFm hjm hkk hFl hab eab k4 hLA hEn hbq hSM BS hgm hm; cases kp
   case false =>
    have HBE : Hid (D.jH R P j x = Dm) := Lr (by rw [HBK.out, if_neg (by rw [← hkp]; simp)]); clear hkp
    go_wp2_with fail
    go_end0
    exact ⟨_, rfl, HFX.out _ _ HPQ.out HBE.out, HEN.out.1, HBQ.out⟩
   case true =>
    have HBE : Hid (D.jH R P j x = Dm.keepD R P i (lg s j x.si) (D.K j).ke x) := Lr (by rw [HBK.out, if_pos hkp.symm, HSI.out]); have hkeep := keep_any w0 wq.drew B A' Dm C R E P (n + 1 + L.length) i (lg s j x.si) (D.K j).ke x (HPQ.out.iq rfl) HFL.out (by have := HN.out; have := HLN.out; omega) HSM.out HX.out (HE2.out.adr HLA.out) ((HW0B.out _ HBQ.out).drew) HKK.out.2; rw [HQX.out.1, HQX.out.2] at hkeep; have HKEEP := Lr hkeep; have y0 := af k5 0 (v := .int .i64 x.ve) rfl; have y1 := af k5 1 (v := .int .i64 x.bo) rfl; have y2 := af k5 2 (v := .int .i64 x.si) rfl; have y3 := af k5 3 (v := .bool x.no) rfl; have y4 := af k5 4 (v := .string x.fr) rfl; clear hkp hkeep k5
    go_upto_region 10 with (fail)
    go_still_tail 7, (by kernel_rfl)
    change wpList _ _ _ _ _ wq.drew
    go_wp2_with fail
    refine HKEEP.out.mono ?_; rintro e w9 ⟨rfl, hp9, hb9⟩; have HP9 := Lr hp9; have HB9 := Lr hb9; clear hp9 hb9
    go_wp2_with fail
    go_end0
    exact ⟨_, rfl, HFX.out _ _ HP9.out HBE.out, HEN.out.1, (HBQ.out.drew).trans HB9.out⟩
structure Ll (w : World) (B : Nat) (A : Adr) (D0 : Day) (R : List Crl) (P : List Pur) (i : Nat) (s : Sto) (key : ByteArray) (f : Wtr) (W : World) (A' : Adr) (D' : Day) (how : Int) : Prop where
 pd : PD W B A' D'
 le : bu A A' D0.ak.length
 bel : Below B w W
 eq : D0.dX R P i s key f = D'.dQ f how
 go : D'.go.length = D0.go.length
theorem IR : (Tryz.prog.info? 139).map (fun i => (i.zero, i.size, i.bytes)) = some (some (.agg #[.int .i64 0, .pointer none]), 2, 16) := by kernel_rfl
theorem Js : SlT Tryz.prog 140 139 2 16 := by
 obtain ⟨i0, hi, hz0, hz1, hz2⟩ := info_parts IR; exact ⟨i0, _, Tryz.underlying140, hi, hz0, hz1, hz2, rfl, by decide, by decide⟩
theorem kH {W : World} {B : Nat} {A : Adr} {D : Day} {j : Nat} {k : Akn} (h : PD W B A D) (hk : D.ak[j]? = some k) :
 ∃ ao n cp, A.wv j = .slice ao n cp ∧ W.cell? ⟨A.ab j, 5, none⟩ = some (.slice ao n cp) ∧ Own W B 139 2 (jb A.ab) (.slice ao n cp) (D.wa j) := by
 have ho := h.wait hk; have hc := af (h.ab hk).2 5 (v := A.wv j) rfl; obtain ⟨v, hv⟩ : ∃ v, v = A.wv j := ⟨_, rfl⟩
 rw [← hv] at ho hc ⊢; obtain ⟨ao, n, cp, rfl⟩ := Own.slv (ik A.ab) ho; exact ⟨ao, n, cp, rfl, hc, ho⟩
theorem kJ {W W0 W5 : World} {B : Nat} {A : Adr} {D : Day} {j : Nat} {k : Akn} {v v5 : Value} (h : PD W B A D) (hk : D.ak[j]? = some k) (hv : A.wv j = v) (hb0 : Below W.heap.size W W0) (hk5 : dm W0 W5 v v5) :
 W5.cell? ⟨A.ab j, 5, none⟩ = some v ∧ W5.frozen? ⟨A.ab j, 5, none⟩ = false := by
 have hb := (h.ab hk).2; have hl : A.ab j < W.heap.size := (Array.getElem?_eq_some_iff.1 hb).1; have h5 := ((hk5 (A.ab j) (Nat.lt_of_lt_of_le hl hb0.size) (by rw [← hv]; exact h.JC hk)).1.trans (hb0.block _ hl)).trans hb; exact ⟨by rw [← hv]; exact af h5 5 rfl, cO h5 5⟩
theorem mP {W W0 W5 : World} {B : Nat} {A : Adr} {D : Day} {j : Nat} {k : Akn} {v v5 : Value} {f : Wtr} (h : PD W B A D) (hk : D.ak[j]? = some k) (hv : A.wv j = v) (hb0 : Below W.heap.size W W0) (hb5 : Below B W0 W5) (hk5 : dm W0 W5 v v5) (ho5 : Own W5 B 139 2 (jb A.ab) v5 (D.wa j ++ [f])) :
 PD (W5.setCell ⟨A.ab j, 5, none⟩ v5) B { A with wv := upF A.wv j v5 } (D.kK j f) ∧ Below B W (W5.setCell ⟨A.ab j, 5, none⟩ v5) := by
 have k0 : dm W W0 v v := fun b hb ho => ⟨hb0.block b hb, ho⟩
 refine ⟨h.GG hk ho5 (Nat.le_trans hb0.size hb5.size) (by rw [hv]; exact k0.trans hb0.size hk5), ?_⟩; exact ((hb0.mono h.base).trans hb5).setCell (h.ab hk).1 _
theorem yh (w0 w : World) (B : Nat) (A : Adr) (D : Day) (C : List Cch) (R : List Crl) (E : List Rel) (P : List Pur) (n i : Nat) (s : Sto) (key : ByteArray) (f : Wtr) (h : PD w B A D) (hF : Fit n D) (hn : n ≤ 700000) (hs : D.st[i]? = some s) (hf : kC D f) (hE : zZ w0 B A C R E P) (hw : Below w0.heap.size w0 w) (hk : key.size ≤ 300) :
 Calls Tryz.prog 71 #[.pointer (some ⟨A.q, 0, none⟩), .int .i64 (i : Nat), .string key, .agg (jb A.ab f).toArray] w fun e w' => ∃ A', e = .returned (.tuple #[]) ∧ PD w' B A' (D.dX R P i s key f) ∧ bu A A' D.ak.length ∧ Below B w w' := by
 show Calls Tryz.prog 71 #[.pointer (some ⟨A.q, 0, none⟩), .int .i64 (i : Nat), .string key, .agg #[.int .i64 (f.ge : Nat), .pointer (f.ak.map fun j => ⟨A.ab j, 0, none⟩)]] w _
 obtain ⟨pv, hpv⟩ : ∃ pv, pv = Value.pointer (f.ak.map fun j => ⟨A.ab j, 0, none⟩) := ⟨_, rfl⟩
 obtain ⟨w1, hw1⟩ : ∃ w1, w1 = w.alloc (.cells #[.int .i64 (f.ge : Nat), pv] 139) := ⟨_, rfl⟩
 have hb1 : Below B w w1 := by rw [hw1]; exact (LD _ w).alloc h.base _
 have hp1 := h.jf (.cells #[.int .i64 (f.ge : Nat), pv] 139 (0, 0)); rw [← hw1] at hp1; obtain ⟨A1, hA1⟩ : ∃ A1, A1 = { A with x := A.x ++ [(w.heap.size, Obj.cells #[.int .i64 (f.ge : Nat), pv] 139 (0, 0))] } := ⟨_, rfl⟩
 rw [← hA1] at hp1; have eq1 : A1.q = A.q := by rw [hA1]
 have es1 : A1.sb = A.sb := by rw [hA1]
 have em1 : A1.mb = A.mb := by rw [hA1]
 have ed1 : A1.d1 = A.d1 := by rw [hA1]
 have hqb := hp1.qb.2; have hsb := (hp1.sb hs).2; rw [eq1] at hqb; rw [es1] at hsb; have hil : i < D.st.length := (List.getElem?_eq_some_iff.1 hs).1; have hne : List.range D.st.length ≠ [] := fun e => by rw [List.range_eq_nil] at e; omega
 obtain ⟨g, cap, hsv, hg1, hg2, hg3, hg4, hgc, -⟩ := Own.gZ (bH A1.sb) hp1.stores hne; rw [List.length_range] at hsv; have q4 : w1.cell? ⟨A.q, 4, none⟩ = some (.slice (some ⟨g, 0, none⟩) D.st.length cap) := by rw [af hqb 4 rfl, ← hsv]; rfl
 have hiz : (i : Int) < (D.st.length : Int) := by omega
 have s0 : w1.cell? ⟨g, i, none⟩ = some (.pointer (some ⟨A.sb i, 0, none⟩)) := by rw [← es1]; have h := hgc i i 0 _ (by simp [hil]) rfl; simpa using h
 have s7 : w1.cell? ⟨A.sb i, 7, none⟩ = some (.int .i64 s.ld.ca) := af hsb 7 rfl; have z7 := cO hsb 7; have hld := (hF.st i s hs).ca; have hwl : IntKind.i64.wrap (s.ld.ca + 1) = s.ld.ca + 1 := IntWalk.i64_in _ (by omega); obtain ⟨w2, hw2⟩ : ∃ w2, w2 = w1.setCell ⟨A.sb i, 7, none⟩ (.int .i64 (s.ld.ca + 1)) := ⟨_, rfl⟩
 have hp2 : PD w2 B A1 (D.bz i (aj s)) := by
  have h := hp1.pM hs 7 (.int .i64 (s.ld.ca + 1)) (aj s) rfl rfl rfl rfl; rw [es1, ← hw2] at h; exact h
 have hs2 : (D.bz i (aj s)).st[i]? = some (aj s) := by show (D.st.set i _)[i]? = _; rw [List.getElem?_set_self hil]
 have hb2 : Below B w w2 := by rw [hw2]; exact hb1.setCell (by rw [← es1]; exact (hp1.sb hs).1) _
 have d1 : w2.cell? ⟨A.q, 1, none⟩ = some A.d1 := by rw [← eq1, ← ed1]; exact af hp2.qb.2 1 rfl
 have hw02 : Below w0.heap.size w0 w2 := hw.trans (hb2.mono hE.le); have hRU := pO w2 R A.d1 key (hE.r.below hw02 (Ls _)); obtain ⟨r, hr⟩ : ∃ r, r = lV R (ruI R key R.length) := ⟨_, rfl⟩
 obtain ⟨ok, hok⟩ : ∃ r, r = (ruI R key R.length).isSome := ⟨_, rfl⟩
 have hrb := uM hE.rb (ruI R key R.length); rw [← hr] at hrb; rw [← hr, ← hok] at hRU; obtain ⟨has, hhas⟩ : ∃ b, b = onL key s.ks := ⟨_, rfl⟩
 have HC1 : Hid (ok = false → D.dX R P i s key f = D.BH i s key false f) := Lr fun h => by
  rw [hok] at h; exact if_pos h
 have HC2 : Hid (ok = true → has = true → D.no < eG r (s.hm key).an false → D.dX R P i s key f = D.uq i s key f) := Lr fun h h1 h2 => by
  rw [hok] at h; rw [hhas] at h1; rw [hr] at h2; unfold Day.dX; rw [if_neg (by rw [h]; simp), if_pos ⟨h1, h2⟩]
 have HC3 : Hid (ok = true → has = true → ¬ D.no < eG r (s.hm key).an false → D.no < eG r (s.hm key).an true → D.dX R P i s key f = ((D.jk i s key f).lQ i key (fQ P key D.no)).dQ f 2) := Lr fun h h1 h2 h3 => by
  rw [hok] at h; rw [hhas] at h1; rw [hr] at h2 h3; unfold Day.dX; rw [if_neg (by rw [h]; simp), if_neg (fun e => h2 e.2), if_pos ⟨h1, h3⟩]
 have HC4 : Hid (ok = true → (has = true → eG r (s.hm key).an false ≤ D.no ∧ eG r (s.hm key).an true ≤ D.no) → ∀ o, rV D s.ar key (fQ P key D.no) = o → D.dX R P i s key f = match o with
  | some j => D.uU i s j f
  | none => D.BH i s key true f) := Lr fun h h1 o h2 => by
  rw [hok] at h; rw [hhas, hr] at h1; unfold Day.dX; rw [if_neg (by rw [h]; simp), if_neg (fun e => Int.not_lt.2 (h1 e.1).1 e.2), if_neg (fun e => Int.not_lt.2 (h1 e.1).2 e.2), h2]; cases o <;> rfl
 have HRU := Lr hRU; have HRB := Lr hrb; have HW1 := Lr hw1; have HW2 := Lr hw2; have HP2 := Lr hp2; have HB2 := Lr hb2; have HF := Lr hF; have HE := Lr hE; have HW02 := Lr hw02; have HW0 := Lr hw; have HS := Lr hs; have HS2 := Lr hs2; have HWF := Lr hf; have HA1 := Lr hA1; have HPV := Lr hpv; have HN := Lr (And.intro hn hk); have HHAS := Lr hhas; rw [← hpv]; clear h hp1 hp2 hqb hsb hgc hsv hw2 hw1 hb1 hb2 hF hE hw hw02 hf hpv hA1 hs hs2 hn hne hg1 hg2 hg3 hg4 hld hk hrb hhas hr hok hRU
 go_enter Tryz.func71, Tryz.ntmps71
 go_upto_region 1 with (fail)
 rw [← HW1.out]
 go_upto_region 3 with (fail)
 rw [← HW2.out]; clear q4 s0 s7 z7 hiz hwl
 go_wp2_with fail
 refine HRU.out.mono ?_; rintro e w3 ⟨rfl, hb3⟩; obtain ⟨w4, hw4⟩ : ∃ w4, w4 = w3.alloc (.cells #[.string r.pr, .int .i64 r.li, .int .i64 r.st, .int .i64 r.go] 126) := ⟨_, rfl⟩
 have hp4 := (HP2.out.below hb3).jf (.cells #[.string r.pr, .int .i64 r.li, .int .i64 r.st, .int .i64 r.go] 126 (0, 0)); rw [← hw4] at hp4; have hb4 : Below B w w4 := by rw [hw4]; exact (HB2.out.trans (hb3.mono HP2.out.base)).alloc (HP2.out.below hb3).base _
 obtain ⟨A2, hA2⟩ : ∃ A2, A2 = { A1 with x := A1.x ++ [(w3.heap.size, Obj.cells #[.string r.pr, .int .i64 r.li, .int .i64 r.st, .int .i64 r.go] 126 (0, 0))] } := ⟨_, rfl⟩
 rw [← hA2] at hp4; have es2 : A2.sb = A.sb := by rw [hA2]; exact es1
 have em2 : A2.mb = A.mb := by rw [hA2]; exact em1
 have hm4 := (hp4.map HS2.out).2; rw [em2] at hm4; obtain ⟨c, hlk, hcf⟩ := hm4.look key (Nat.le_trans HN.out.2 (by unfold maxLen; omega)); have hlk' : (Instr.lookup 81 (.map (some (A.mb i))) (.string key) true).run Tryz.prog w4 = .ok (.tuple #[.agg #[.int .i64 c.an.ve, .int .i64 c.an.bo, .int .i64 c.an.si, .bool c.an.no, .string c.an.fr, .int .i64 c.us], .bool has]) w4 := by rw [HHAS.out]; exact hlk
 have HCF : Hid (has = true → c = s.hm key) := Lr (fun h => hcf (bF.1 (show onL key s.ks = true by rw [← HHAS.out]; exact h))); have c5 : w4.cell? ⟨A.sb i, 5, none⟩ = some (.map (some (A.mb i))) := by rw [← es2, ← em2]; exact af (hp4.sb HS2.out).2 5 rfl
 obtain ⟨w5, hw5⟩ : ∃ w5, w5 = w4.alloc (.cells #[.int .i64 c.an.ve, .int .i64 c.an.bo, .int .i64 c.an.si, .bool c.an.no, .string c.an.fr, .int .i64 c.us] 97) := ⟨_, rfl⟩
 have hp5 := hp4.jf (.cells #[.int .i64 c.an.ve, .int .i64 c.an.bo, .int .i64 c.an.si, .bool c.an.no, .string c.an.fr, .int .i64 c.us] 97 (0, 0)); rw [← hw5] at hp5; have hb5 : Below B w w5 := by rw [hw5]; exact hb4.alloc hp4.base _
 obtain ⟨A3, hA3⟩ : ∃ A3, A3 = { A2 with x := A2.x ++ [(w4.heap.size, Obj.cells #[.int .i64 c.an.ve, .int .i64 c.an.bo, .int .i64 c.an.si, .bool c.an.no, .string c.an.fr, .int .i64 c.us] 97 (0, 0))] } := ⟨_, rfl⟩
 rw [← hA3] at hp5; have HW4 := Lr hw4; have HW5 := Lr hw5; have HP5 := Lr hp5; have HB5 := Lr hb5; have eq3 : A3.q = A.q := by rw [hA3, hA2]; exact eq1
 have es3 : A3.sb = A.sb := by rw [hA3]; exact es2
 have hx7 : A3.x[A.x.length]? = some (w.heap.size, Obj.cells #[.int .i64 (f.ge : Nat), pv] 139 (0, 0)) := by rw [hA3, hA2, HA1.out]; simp
 have hx10 : A3.x[A.x.length + 1]? = some (w3.heap.size, Obj.cells #[.string r.pr, .int .i64 r.li, .int .i64 r.st, .int .i64 r.go] 126 (0, 0)) := by rw [hA3, hA2, HA1.out]; simp
 have hx12 : A3.x[A.x.length + 2]? = some (w4.heap.size, Obj.cells #[.int .i64 c.an.ve, .int .i64 c.an.bo, .int .i64 c.an.si, .bool c.an.no, .string c.an.fr, .int .i64 c.us] 97 (0, 0)) := by rw [hA3, hA2, HA1.out]; simp
 have HX7 := Lr hx7; have HX10 := Lr hx10; have HX12 := Lr hx12; have HL3 : Hid (∀ A' : Adr, bu A3 A' D.ak.length → bu A { A' with x := A.x } D.ak.length ∧ A'.x = A3.x) := Lr (by
  intro A' hl; rw [hA3, hA2, HA1.out] at hl; exact ⟨⟨hl.q, hl.d0, hl.d1, hl.d2, hl.d3, hl.sv, hl.gv, hl.sb, hl.mb, rfl, hl.ab⟩, by rw [hA3, hA2, HA1.out]; exact hl.x⟩)
 have HXY : Hid (∃ y, A3.x = A.x ++ y) := Lr ⟨_, by rw [hA3, hA2, HA1.out]; simp only [List.append_assoc]; rfl⟩; have HAB : Hid (A3.ab = A.ab) := Lr (by rw [hA3, hA2, HA1.out]); have HE3 : Hid (zZ w0 B A3 C R E P) := Lr (by rw [hA3, hA2, HA1.out]; exact ⟨HE.out.le, HE.out.c, HE.out.r, HE.out.e, HE.out.p, HE.out.rb, HE.out.eb⟩); have EQ3 := Lr eq3; have ES3 := Lr es3; have HW0B : Hid (∀ W, Below B w W → Below w0.heap.size w0 W) := Lr (fun W hb => HW0.out.trans (hb.mono HE.out.le)); have HB3 := Lr hb3; clear hb3 hw4 hp4 hb4 hm4 hlk hcf hw5 hp5 hb5 hA2 hA3 eq3 es3 hx7 hx10 hx12 es2 em2 HA1 HP2 HB2 HW02 HW1 HW2 HRU HE d1 eq1 es1 em1 ed1
 go_upto_region 5 with (fail)
 rw [← HW4.out]
 go_upto_block 0 with (fail)
 rw [← HW5.out]; clear c5 hlk'; have HLR : Hid (bu A3 A3 D.ak.length) := Lr (bu.refl _ _); have HG0 : Hid ((D.bz i (aj s)).go.length = D.go.length) := Lr rfl
 go_cut [9] (fun s9 W => ∃ (A' : Adr) (D' : Day) (how : Int), s9 = .int .i64 how ∧ Aside (Ll w B A3 D R P i s key f W A' D' how))
 case first =>
  cases ok
  case false =>
   have hask := vT w5 B A3 (D.bz i (aj s)) (n + 1) i (aj s) key false HP5.out (HF.out.Iq HS.out).1 (by have := HN.out.1; omega) HS2.out; rw [EQ3.out] at hask; have HASK := Lr hask; clear hask
   go_wp2_with fail
   refine HASK.out.mono ?_; rintro e w6 ⟨A6, rfl, hp6, hl6, hb6⟩; obtain ⟨j, hj⟩ : ∃ j, j = D.ak.length := ⟨_, rfl⟩
   have hj6 : ((D.bz i (aj s)).mG i (aj s) key false).ak[j]? = some ⟨i, D.no, key, false⟩ := by
    rw [hj]; show (D.ak ++ [_])[D.ak.length]? = _
    rw [List.getElem?_append_right (Ls _)]; simp
    rfl
   have ej : A6.ab (D.bz i (aj s)).ak.length = A6.ab j := by rw [hj]; rfl
   rw [ej]; have hew : jb A6.ab f = [.int .i64 (f.ge : Nat), pv] := (kC.same HWF.out (HL3.out A6 hl6).1).trans (by rw [HPV.out]; rfl); have HEQ : Hid (D.dX R P i s key f = (((D.bz i (aj s)).mG i (aj s) key false).kK j f).dQ f 3) := Lr (by rw [HC1.out (by trivial), hj]; rfl); have HGL : Hid (((D.bz i (aj s)).mG i (aj s) key false).go.length = D.go.length) := Lr rfl; have HWL : Hid (((D.bz i (aj s)).mG i (aj s) key false).wa j = []) := Lr (by rw [hj]; exact aZ _ _ _); obtain ⟨D6, hD6⟩ : ∃ D6, D6 = (D.bz i (aj s)).mG i (aj s) key false := ⟨_, rfl⟩
   rw [← hD6] at hp6 hj6 HEQ HGL HWL; have hb6' : Below B w w6 := HB5.out.trans hb6; clear hj ej hD6 hb6; obtain ⟨ao, nn, cp, hv6, c56, ho6⟩ := kH hp6 hj6; have hx6 := hp6.fr (k := A.x.length) (by rw [hl6.x]; exact HX7.out); have x0 := af hx6 0 (v := .int .i64 (f.ge : Nat)) rfl; have x1 := af hx6 1 (v := pv) rfl; have l5 : A6.ab j < w6.heap.size := LC w6 _ c56; have l7 : w.heap.size < w6.heap.size := LC w6 _ x0; have hBW : Below w6.heap.size w6 (w6.drew.alloc (.cells #[.int .i64 (f.ge : Nat), pv] 139)) := ((LD _ w6).drew).alloc (Ls _) _; have HO6 : Hid (Own (w6.drew.alloc (.cells #[.int .i64 (f.ge : Nat), pv] 139)) B 139 2 (jb A6.ab) (.slice ao nn cp) (D6.wa j)) := Lr (ho6.zq.al _); have HA6 : Hid ((w6.drew.alloc (.cells #[.int .i64 (f.ge : Nat), pv] 139)).heap[w6.heap.size]? = some (.cells (jb A6.ab f).toArray 139 (0, 0))) := Lr (by rw [hew]; exact ag w6.drew _); have HBS : Hid (B ≤ (w6.drew.alloc (.cells #[.int .i64 (f.ge : Nat), pv] 139)).heap.size) := Lr (Nat.le_trans hp6.base hBW.size); have HNL : Hid ((D6.wa j).length * 16 ≤ 140737488355328) := Lr (by rw [HWL.out]; decide); have HK6 := Lr hp6; have HJ6 := Lr hj6; have HV6 := Lr hv6; have HBW := Lr hBW; have HL6 := Lr hl6; have HBB := Lr hb6'; clear hp6 hj6 hv6 hBW hl6 hb6' ho6 hew hx6 HASK
   go_upto_region 14 with (fail)
   go_region_law (first | (refine aW (enc := jb A6.ab) (v := .slice ao nn cp) (l := D6.wa j) rfl _ _ 140 rfl Js (by decide) rfl rfl f rfl rfl HO6.out HA6.out HNL.out HBS.out ?_; intro v7 w7 ho7 hb7 hk7; obtain ⟨ao7, n7, cp7, rfl⟩ := Own.slv (ik A6.ab) ho7; obtain ⟨z5, y5⟩ := kJ HK6.out HJ6.out HV6.out HBW.out hk7; have HDN := Lr (mP HK6.out HJ6.out HV6.out HBW.out hb7 hk7 ho7); clear ho7 hb7 hk7) | fail)
   all_goals go_wp2_with fail
   all_goals go_meet
   all_goals exact ⟨_, _, 3, rfl, (show Aside _ from ⟨HDN.out.1, HL6.out.trans ⟨rfl, rfl, rfl, rfl, rfl, rfl, rfl, rfl, rfl, rfl, fun _ _ => rfl⟩ (Ls _), HBB.out.trans HDN.out.2, HEQ.out, HGL.out⟩)⟩
  case true =>
   obtain ⟨u1, hu1⟩ : ∃ u, u = eG r (s.hm key).an false := ⟨_, rfl⟩
   obtain ⟨u2, hu2⟩ : ∃ u, u = eG r (s.hm key).an true := ⟨_, rfl⟩
   have HU : Hid (has = true → ∀ (W : World) (st : Bool), Calls Tryz.prog 112 #[.agg #[.string r.pr, .int .i64 r.li, .int .i64 r.st, .int .i64 r.go], .agg #[.int .i64 (s.hm key).an.ve, .int .i64 (s.hm key).an.bo, .int .i64 (s.hm key).an.si, .bool (s.hm key).an.no, .string (s.hm key).an.fr], .bool st] W fun e w' => e = .returned (.int .i64 (if st = true then u2 else u1)) ∧ Below W.heap.size W w') := Lr fun h W st => by
    have hk := bF.1 (by rw [← HHAS.out]; exact h : onL key s.ks = true); have ha := (HF.out.an i s HS.out key hk).bo; have H := sG W r (s.hm key).an st ⟨ha.1, Int.le_trans ha.2 (by decide)⟩ HRB.out.1 HRB.out.2.1 HRB.out.2.2; have e : (if st = true then u2 else u1) = eG r (s.hm key).an st := by cases st <;> simp [hu1, hu2]
    rw [e]; exact H
   rw [← hu1] at HC2; rw [← hu1, ← hu2] at HC3 HC4; have HU1 := Lr hu1; have HU2 := Lr hu2; clear hu1 hu2; have hq8 : w5.cell? ⟨A.q, 8, none⟩ = some (.int .i64 D.no) := by rw [← EQ3.out]; exact af HP5.out.qb.2 8 rfl
   have k10 := HP5.out.fr HX10.out; have k12 := HP5.out.fr HX12.out; have HSS : Hid (∀ W : World, Below w5.heap.size w5 W → W.cell? ⟨A.q, 8, none⟩ = some (.int .i64 D.no) ∧ W.cell? ⟨w3.heap.size, 0, none⟩ = some (.string r.pr) ∧ W.cell? ⟨w3.heap.size, 1, none⟩ = some (.int .i64 r.li) ∧ W.cell? ⟨w3.heap.size, 2, none⟩ = some (.int .i64 r.st) ∧ W.cell? ⟨w3.heap.size, 3, none⟩ = some (.int .i64 r.go) ∧ W.cell? ⟨w4.heap.size, 0, none⟩ = some (.int .i64 c.an.ve) ∧ W.cell? ⟨w4.heap.size, 1, none⟩ = some (.int .i64 c.an.bo) ∧ W.cell? ⟨w4.heap.size, 2, none⟩ = some (.int .i64 c.an.si) ∧ W.cell? ⟨w4.heap.size, 3, none⟩ = some (.bool c.an.no) ∧ W.cell? ⟨w4.heap.size, 4, none⟩ = some (.string c.an.fr)) := Lr fun W hb => by
    have g10 := (hb.block _ (Array.getElem?_eq_some_iff.1 k10).1).trans k10; have g12 := (hb.block _ (Array.getElem?_eq_some_iff.1 k12).1).trans k12; exact ⟨(hb.cell (p := ⟨A.q, 8, none⟩) (LC w5 _ hq8)).trans hq8, af g10 0 rfl, af g10 1 rfl, af g10 2 rfl, af g10 3 rfl, af g12 0 rfl, af g12 1 rfl, af g12 2 rfl, af g12 3 rfl, af g12 4 rfl⟩
   have HBD : Hid (Below w5.heap.size w5 w5.drew) := Lr (LD _ w5).drew; clear k10 k12 hq8
   go_upto_region 15 with (fail)
   go_cut [97] (fun sv W => sv = .bool (has && decide (D.no < u1)) ∧ Aside (Below w5.heap.size w5 W))
   case first =>
    cases has
    case false =>
     have hund : undef = Value.tuple #[] := rfl
     go_quiet (fail)
     clear hund
     go_wp2
     go_meet
     exact ⟨by simp, (show Aside _ from below_drewN (LD _ _) _)⟩
    case true =>
     obtain rfl := HCF.out (by trivial); have HU5 := Lr (HU.out (by trivial) w5.drew false)
     go_region_held3 (fun W => W.cell? ⟨A.q, 8, none⟩ = some (.int .i64 D.no) ∧ W.cell? ⟨w3.heap.size, 0, none⟩ = some (.string r.pr) ∧ W.cell? ⟨w3.heap.size, 1, none⟩ = some (.int .i64 r.li) ∧ W.cell? ⟨w3.heap.size, 2, none⟩ = some (.int .i64 r.st) ∧ W.cell? ⟨w3.heap.size, 3, none⟩ = some (.int .i64 r.go) ∧ W.cell? ⟨w4.heap.size, 0, none⟩ = some (.int .i64 (s.hm key).an.ve) ∧ W.cell? ⟨w4.heap.size, 1, none⟩ = some (.int .i64 (s.hm key).an.bo) ∧ W.cell? ⟨w4.heap.size, 2, none⟩ = some (.int .i64 (s.hm key).an.si) ∧ W.cell? ⟨w4.heap.size, 3, none⟩ = some (.bool (s.hm key).an.no) ∧ W.cell? ⟨w4.heap.size, 4, none⟩ = some (.string (s.hm key).an.fr))
      (first | exact HSS.out _ HBD.out | exact HSS.out _ HB9.out | fail)
      (first | (go_at_call 112; (with_reducible refine HU5.out.mono ?_); rintro e w9 ⟨rfl, hb9⟩; have HB9 := Lr (HBD.out.bf hb9); clear hb9) | fail)
     go_wp2
     go_meet
     exact ⟨by simp, (show Aside _ from HB9.out)⟩
   obtain ⟨rfl, BW⟩ := hcut; obtain ⟨w6, rfl⟩ : ∃ W : World, W = wc := ⟨_, rfl⟩
   have HB6 := Lr BW.out; obtain ⟨tb, htb⟩ : ∃ tb, tb = (has && decide (D.no < u1)) := ⟨_, rfl⟩
   rw [← htb]; have HTB := Lr htb; have HP6 := Lr (HP5.out.below HB6.out); clear htb BW; cases tb
   case true =>
    have hh := HTB.out.symm; rw [Bool.and_eq_true, decide_eq_true_eq] at hh; have HHH := Lr hh; clear hh; have hsb6 := (HP6.out.sb HS2.out).2; rw [ES3.out] at hsb6; have c8 : w6.cell? ⟨A.sb i, 8, none⟩ = some (.int .i64 s.ld.fr) := af hsb6 8 rfl; have z8 := cO hsb6 8; have hwf : IntKind.i64.wrap (s.ld.fr + 1) = s.ld.fr + 1 := IntWalk.i64_in _ (by have := (HF.out.st i s HS.out).fr; have := HN.out.1; omega); obtain ⟨w7, hw7⟩ : ∃ w7, w7 = w6.setCell ⟨A.sb i, 8, none⟩ (.int .i64 (s.ld.fr + 1)) := ⟨_, rfl⟩
    have hp7 : PD w7 B A3 (D.bz i (dC (aj s))) := by
     have h := HP6.out.pM HS2.out 8 (.int .i64 (s.ld.fr + 1)) (dC (aj s)) rfl rfl rfl rfl; rw [ES3.out, ← hw7] at h; rw [← iD D i (aj s)]; exact h
    have hb7 : Below B w w7 := by rw [hw7]; exact (HB5.out.trans (HB6.out.mono HP5.out.base)).setCell (by rw [← ES3.out]; exact (HP6.out.sb HS2.out).1) _
    have hs7 : (D.bz i (dC (aj s))).st[i]? = some (dC (aj s)) := by show (D.st.set i _)[i]? = _; rw [List.getElem?_set_self hil]
    have hF7 : Fit (n + 1) (D.bz i (dC (aj s))) := (HF.out.Iq HS.out).2.1; have hon : onL key (dC (aj s)).ks = true := by show onL key s.ks = true; rw [← HHAS.out]; exact HHH.out.1
    have hT := vX w7.drew B A3 (D.bz i (dC (aj s))) (n + 1) i (dC (aj s)) key (hp7.iq rfl) hF7 (by have := HN.out.1; omega) hs7 hon; have hF8 : Fit (n + 2) ((D.bz i (dC (aj s))).takeD i (dC (aj s)) key) := hF7.take hs7 key (bF.1 hon); have hW8 : kC ((D.bz i (dC (aj s))).takeD i (dC (aj s)) key) f := HWF.out; obtain ⟨x, hx⟩ : ∃ x, x = mV (dC (aj s)) key := ⟨_, rfl⟩
    have HD7G : Hid (((D.bz i (dC (aj s))).takeD i (dC (aj s)) key).go.length = D.go.length ∧ ((D.bz i (dC (aj s))).takeD i (dC (aj s)) key).ak.length = D.ak.length) := Lr ⟨rfl, rfl⟩; have HDEQ := Lr (show ((D.bz i (dC (aj s))).takeD i (dC (aj s)) key).aQ f x = ((D.bz i (dC (aj s))).takeD i (dC (aj s)) key).aQ f (mV s key) by rw [hx]; rfl); have HAX : Hid (lw x) := Lr (by rw [hx]; have h := HF.out.an i s HS.out key (bF.1 hon); exact ⟨h.bo, h.si⟩); obtain ⟨D7, hD7⟩ : ∃ D7, D7 = (D.bz i (dC (aj s))).takeD i (dC (aj s)) key := ⟨_, rfl⟩
    rw [← hD7] at HD7G; have hgv : ∀ W, PD W B A3 D7 → Calls Tryz.prog 72 #[.pointer (some ⟨A.q, 0, none⟩), .agg #[.int .i64 (f.ge : Nat), pv], .agg #[.int .i64 x.ve, .int .i64 x.bo, .int .i64 x.si, .bool x.no, .string x.fr]] W fun e w' => ∃ A', e = .returned (.tuple #[]) ∧ PD w' B A' (D7.aQ f x) ∧ bu A3 A' D.ak.length ∧ Below B W w' := fun W hW => by
     have H := qZ W B A3 D7 (n + 2) f x hW (by rw [hD7]; exact hF8) (by have := HN.out.1; omega) (by rw [hD7]; exact hW8); rw [EQ3.out, show D7.ak.length = D.ak.length from HD7G.out.2] at H; have e : Value.agg (jb A3.ab f).toArray = .agg #[.int .i64 (f.ge : Nat), pv] := by rw [HAB.out, HPV.out]; rfl
     rw [e] at H; exact H
    have hT2 : Calls Tryz.prog 113 #[.pointer (some ⟨A.q, 0, none⟩), .pointer (some ⟨A.sb i, 0, none⟩), .string key] w7.drew fun e w' => e = .returned (.agg #[.int .i64 x.ve, .int .i64 x.bo, .int .i64 x.si, .bool x.no, .string x.fr]) ∧ PD w' B A3 D7 ∧ Below B w7.drew w' := by
     rw [EQ3.out, ES3.out, ← hx, ← hD7] at hT; exact hT
    have HT := Lr hT2; have HGV := Lr hgv; have HSX : Hid (∀ (W : World) (A' : Adr) (D' : Day), PD W B A' D' → A'.x = A3.x → W.cell? ⟨w.heap.size, 0, none⟩ = some (.int .i64 (f.ge : Nat)) ∧ W.cell? ⟨w.heap.size, 1, none⟩ = some pv) := Lr fun W A' D' hW hA => by
     have k7 := hW.fr (k := A.x.length) (by rw [hA]; exact HX7.out); exact ⟨af k7 0 rfl, af k7 1 rfl⟩
    have HPD7 : Hid (PD w7.drew B A3 (D.bz i (dC (aj s)))) := Lr (hp7.iq rfl); have HB7 := Lr hb7; have HW7 := Lr hw7; have HF8 := Lr hF8; have HD7 := Lr hD7; clear hsb6 hw7 hp7 hb7 hs7 hF7 hon hT hF8 hW8 hx hgv hT2 hD7
    go_upto_region 17 with (fail)
    rw [← HW7.out]
    go_upto_region 18 with (fail)
    go_region_held3 (fun W => W.cell? ⟨w.heap.size, 0, none⟩ = some (.int .i64 (f.ge : Nat)) ∧ W.cell? ⟨w.heap.size, 1, none⟩ = some pv)
     (first | exact HSX.out _ _ _ HPD7.out rfl | exact HSX.out _ _ _ HP8.out rfl | exact HSX.out _ _ _ HP9.out HX9.out | fail)
     (first | (go_at_call 113; (with_reducible refine HT.out.mono ?_); rintro e w8 ⟨rfl, hp8, hb8⟩; have HP8 := Lr hp8; have HB8 := Lr hb8; have HGV8 := Lr (HGV.out _ hp8); clear hp8 hb8)
            | (go_at_call 72; (with_reducible refine HGV8.out.mono ?_); rintro e w9 ⟨A9, rfl, hp9, hl9, hb9⟩; have HP9 := Lr hp9; have HL9 := Lr hl9; have HX9 := Lr hl9.x; have HB9 := Lr hb9; clear hp9 hl9 hb9)
            | fail)
    go_wp2_with fail
    go_meet
    exact ⟨A9, D7.aQ f x, 1, rfl, (show Aside _ from ⟨HP9.out, HL9.out, ((HB7.out.drew).trans HB8.out).trans HB9.out, by rw [HC2.out (by trivial) HHH.out.1 HHH.out.2, HD7.out, HDEQ.out]; rfl, xH.trans HD7G.out.1⟩)⟩
   have HBD6 : Hid (Below w5.heap.size w5 w6.drew) := Lr HB6.out.drew
   go_upto_region 19 with (fail)
   go_cut [126] (fun sv W => sv = .bool (has && decide (D.no < u2)) ∧ Aside (Below w6.heap.size w6 W))
   case first =>
    cases has
    case false =>
     have hund : undef = Value.tuple #[] := rfl
     go_quiet (fail)
     clear hund
     go_wp2
     go_meet
     exact ⟨by simp, (show Aside _ from below_drewN (LD _ _) _)⟩
    case true =>
     obtain rfl := HCF.out (by trivial); have HU5 := Lr (HU.out (by trivial) w6.drew true); have HBE : Hid (Below w6.heap.size w6 w6.drew) := Lr (LD _ w6).drew
     go_region_held3 (fun W => W.cell? ⟨A.q, 8, none⟩ = some (.int .i64 D.no) ∧ W.cell? ⟨w3.heap.size, 0, none⟩ = some (.string r.pr) ∧ W.cell? ⟨w3.heap.size, 1, none⟩ = some (.int .i64 r.li) ∧ W.cell? ⟨w3.heap.size, 2, none⟩ = some (.int .i64 r.st) ∧ W.cell? ⟨w3.heap.size, 3, none⟩ = some (.int .i64 r.go) ∧ W.cell? ⟨w4.heap.size, 0, none⟩ = some (.int .i64 (s.hm key).an.ve) ∧ W.cell? ⟨w4.heap.size, 1, none⟩ = some (.int .i64 (s.hm key).an.bo) ∧ W.cell? ⟨w4.heap.size, 2, none⟩ = some (.int .i64 (s.hm key).an.si) ∧ W.cell? ⟨w4.heap.size, 3, none⟩ = some (.bool (s.hm key).an.no) ∧ W.cell? ⟨w4.heap.size, 4, none⟩ = some (.string (s.hm key).an.fr))
      (first | exact HSS.out _ HBD6.out | exact HSS.out _ HB8.out | fail)
      (first | (go_at_call 112; (with_reducible refine HU5.out.mono ?_); rintro e w9 ⟨rfl, hb9⟩; have HB8 := Lr (HBD6.out.bf hb9); have HB9 := Lr (HBE.out.bf hb9); clear hb9) | fail)
     go_wp2
     go_meet
     exact ⟨by simp, (show Aside _ from HB9.out)⟩
   obtain ⟨rfl, BW⟩ := hcut; obtain ⟨w10, rfl⟩ : ∃ W : World, W = wc := ⟨_, rfl⟩
   have HB10 := Lr BW.out; obtain ⟨tc, htc⟩ : ∃ tc, tc = (has && decide (D.no < u2)) := ⟨_, rfl⟩
   rw [← htc]; have HTC := Lr htc; have HP10 := Lr (HP6.out.below HB10.out); clear htc BW; cases tc
   case true =>
    have hh := HTC.out.symm; rw [Bool.and_eq_true, decide_eq_true_eq] at hh; have HHH := Lr hh; have HNF : Hid (¬ D.no < u1) := Lr (by
     have h := HTB.out.symm; rw [hh.1] at h
     simpa using h)
    clear hh; have hsb6 := (HP10.out.sb HS2.out).2; rw [ES3.out] at hsb6; have c8 : w10.cell? ⟨A.sb i, 9, none⟩ = some (.int .i64 s.ld.sl) := af hsb6 9 rfl; have z8 := cO hsb6 9; have hwf : IntKind.i64.wrap (s.ld.sl + 1) = s.ld.sl + 1 := IntWalk.i64_in _ (by have := (HF.out.st i s HS.out).sl; have := HN.out.1; omega); obtain ⟨w7, hw7⟩ : ∃ w7, w7 = w10.setCell ⟨A.sb i, 9, none⟩ (.int .i64 (s.ld.sl + 1)) := ⟨_, rfl⟩
    have hp7 : PD w7 B A3 (D.bz i (bK (aj s))) := by
     have h := HP10.out.pM HS2.out 9 (.int .i64 (s.ld.sl + 1)) (bK (aj s)) rfl rfl rfl rfl; rw [ES3.out, ← hw7] at h; rw [← iD D i (aj s)]; exact h
    have hb7 : Below B w w7 := by rw [hw7]; exact ((HB5.out.trans (HB6.out.mono HP5.out.base)).trans (HB10.out.mono HP6.out.base)).setCell (by rw [← ES3.out]; exact (HP10.out.sb HS2.out).1) _
    have hs7 : (D.bz i (bK (aj s))).st[i]? = some (bK (aj s)) := by show (D.st.set i _)[i]? = _; rw [List.getElem?_set_self hil]
    have hF7 : Fit (n + 1) (D.bz i (bK (aj s))) := (HF.out.Iq HS.out).2.2.1; have hon : onL key (bK (aj s)).ks = true := by show onL key s.ks = true; rw [← HHAS.out]; exact HHH.out.1
    have hT := vX w7.drew B A3 (D.bz i (bK (aj s))) (n + 1) i (bK (aj s)) key (hp7.iq rfl) hF7 (by have := HN.out.1; omega) hs7 hon; have hF8 : Fit (n + 2) ((D.bz i (bK (aj s))).takeD i (bK (aj s)) key) := hF7.take hs7 key (bF.1 hon); have hW8 : kC ((D.bz i (bK (aj s))).takeD i (bK (aj s)) key) f := HWF.out; obtain ⟨x, hx⟩ : ∃ x, x = mV (bK (aj s)) key := ⟨_, rfl⟩
    have HD7G : Hid (((D.bz i (bK (aj s))).takeD i (bK (aj s)) key).go.length = D.go.length ∧ ((D.bz i (bK (aj s))).takeD i (bK (aj s)) key).ak.length = D.ak.length) := Lr ⟨rfl, rfl⟩; have HDEQ := Lr (show ((D.bz i (bK (aj s))).takeD i (bK (aj s)) key).aQ f x = ((D.bz i (bK (aj s))).takeD i (bK (aj s)) key).aQ f (mV s key) by rw [hx]; rfl); have HAX : Hid (lw x) := Lr (by rw [hx]; have h := HF.out.an i s HS.out key (bF.1 hon); exact ⟨h.bo, h.si⟩); obtain ⟨D7, hD7⟩ : ∃ D7, D7 = (D.bz i (bK (aj s))).takeD i (bK (aj s)) key := ⟨_, rfl⟩
    rw [← hD7] at HD7G; have hgv : ∀ W, PD W B A3 D7 → Calls Tryz.prog 72 #[.pointer (some ⟨A.q, 0, none⟩), .agg #[.int .i64 (f.ge : Nat), pv], .agg #[.int .i64 x.ve, .int .i64 x.bo, .int .i64 x.si, .bool x.no, .string x.fr]] W fun e w' => ∃ A', e = .returned (.tuple #[]) ∧ PD w' B A' (D7.aQ f x) ∧ bu A3 A' D.ak.length ∧ Below B W w' := fun W hW => by
     have H := qZ W B A3 D7 (n + 2) f x hW (by rw [hD7]; exact hF8) (by have := HN.out.1; omega) (by rw [hD7]; exact hW8); rw [EQ3.out, show D7.ak.length = D.ak.length from HD7G.out.2] at H; have e : Value.agg (jb A3.ab f).toArray = .agg #[.int .i64 (f.ge : Nat), pv] := by rw [HAB.out, HPV.out]; rfl
     rw [e] at H; exact H
    have hT2 : Calls Tryz.prog 113 #[.pointer (some ⟨A.q, 0, none⟩), .pointer (some ⟨A.sb i, 0, none⟩), .string key] w7.drew fun e w' => e = .returned (.agg #[.int .i64 x.ve, .int .i64 x.bo, .int .i64 x.si, .bool x.no, .string x.fr]) ∧ PD w' B A3 D7 ∧ Below B w7.drew w' := by
     rw [EQ3.out, ES3.out, ← hx, ← hD7] at hT; exact hT
    have HT := Lr hT2; have HGV := Lr hgv; have HSX : Hid (∀ (W : World) (A' : Adr) (D' : Day), PD W B A' D' → A'.x = A3.x → W.cell? ⟨w.heap.size, 0, none⟩ = some (.int .i64 (f.ge : Nat)) ∧ W.cell? ⟨w.heap.size, 1, none⟩ = some pv) := Lr fun W A' D' hW hA => by
     have k7 := hW.fr (k := A.x.length) (by rw [hA]; exact HX7.out); exact ⟨af k7 0 rfl, af k7 1 rfl⟩
    have HPD7 : Hid (PD w7.drew B A3 (D.bz i (bK (aj s)))) := Lr (hp7.iq rfl); have HB7 := Lr hb7; have HW7 := Lr hw7; have HF8 := Lr hF8; have HD7 := Lr hD7; clear hsb6 hw7 hp7 hb7 hs7 hF7 hon hT hF8 hW8 hx hgv hT2 hD7
    go_upto_region 21 with (fail)
    rw [← HW7.out]
    go_upto_region 22 with (fail)
    go_region_held3 (fun W => W.cell? ⟨w.heap.size, 0, none⟩ = some (.int .i64 (f.ge : Nat)) ∧ W.cell? ⟨w.heap.size, 1, none⟩ = some pv)
     (first | exact HSX.out _ _ _ HPD7.out rfl | exact HSX.out _ _ _ HP8.out rfl | exact HSX.out _ _ _ HP9.out HX9.out | fail)
     (first | (go_at_call 113; (with_reducible refine HT.out.mono ?_); rintro e w8 ⟨rfl, hp8, hb8⟩; have HP8 := Lr hp8; have HB8 := Lr hb8; have HGV8 := Lr (HGV.out _ hp8); clear hp8 hb8)
            | (go_at_call 72; (with_reducible refine HGV8.out.mono ?_); rintro e w9 ⟨A9, rfl, hp9, hl9, hb9⟩; have HP9 := Lr hp9; have HL9 := Lr hl9; have HX9 := Lr hl9.x; have HB9 := Lr hb9; clear hp9 hl9 hb9)
            | fail)
    have hs9 : (D7.aQ f x).st[i]? = some (oU (bK (aj s)) key D.no) := by
     rw [rf, HD7.out]; show ((D.st.set i _).set i _)[i]? = _
     rw [List.getElem?_set_self (by rw [List.length_set]; exact hil)]
     rfl
    have hF9 : Fit (n + 3) (D7.aQ f x) := (show Fit (n + 2) D7 by rw [HD7.out]; exact HF8.out).give (show kC D7 f by rw [HD7.out]; exact HWF.out) HAX.out; have hb9 : Below B w w9 := ((HB7.out.drew).trans HB8.out).trans HB9.out; have hno9 : (D7.aQ f x).no = D.no := by rw [iY, HD7.out]; rfl
    have hal9 : (D7.aQ f x).ak.length = D.ak.length := by rw [mi, HD7.out]; rfl
    have HG9 : Hid ((D7.aQ f x).go.length = D.go.length) := Lr (xH.trans HD7G.out.1); have HST : Hid (D7.aQ f x = D.jk i s key f) := Lr (by rw [HD7.out, HDEQ.out]; rfl); obtain ⟨D9, hD9⟩ : ∃ D9, D9 = D7.aQ f x := ⟨_, rfl⟩
    rw [← hD9] at HP9 hs9 hF9 hno9 hal9 HG9 HST; have hwy := Ah w0 w9 B A9 D9 C R E P (n + 3) i (oU (bK (aj s)) key D.no) key HP9.out hF9 hs9 (HE3.out.adr HL9.out) (HW0B.out w9 hb9); rw [hno9, show A9.q = A.q from HL9.out.q.trans EQ3.out, show A9.sb = A.sb from HL9.out.sb.trans ES3.out] at hwy; have HMR : Hid (∀ o, rV D9 (oU (bK (aj s)) key D.no).ar key (fQ P key D.no) = o → D9.lQ i key (fQ P key D.no) = match o with
     | some _ => D9
     | none => D9.mG i (oU (bK (aj s)) key D.no) key true) := Lr (fun o ho => by
     unfold Day.lQ; rw [Day.KI hs9, ho]; cases o <;> rfl)
    obtain ⟨o, ho⟩ : ∃ o, o = rV D9 (oU (bK (aj s)) key D.no).ar key (fQ P key D.no) := ⟨_, rfl⟩
    rw [← ho] at hwy; have HMO := Lr (HMR.out o ho.symm); have HWY := Lr hwy; have HS9 := Lr hs9; have HF9 := Lr hF9; have HAL9 := Lr hal9; have HBW9 := Lr hb9; clear hs9 hF9 hb9 hno9 hal9 hD9 hwy ho HMR
    go_wp2_with fail
    refine HWY.out.mono ?_; rintro e w11 ⟨rfl, hb11⟩; have HP11 := Lr (HP9.out.below hb11); have HB11 := Lr (hb11.mono HP9.out.base); clear hb11; cases o
    case some jo =>
     go_wp2_with fail
     go_meet
     exact ⟨A9, D9, 2, rfl, (show Aside _ from ⟨HP11.out, HL9.out, HBW9.out.trans HB11.out, by rw [HC3.out (by trivial) HHH.out.1 HNF.out HHH.out.2, ← HST.out, HMO.out], HG9.out⟩)⟩
    case none =>
     have hask := vT w11 B A9 D9 (n + 3) i (oU (bK (aj s)) key D.no) key true HP11.out HF9.out (by have := HN.out.1; omega) HS9.out; rw [show A9.q = A.q from HL9.out.q.trans EQ3.out] at hask; have HASK := Lr hask; clear hask
     go_wp2_with fail
     refine HASK.out.mono ?_; rintro e w12 ⟨A12, rfl, hp12, hl12, hb12⟩; have HP12 := Lr hp12; have HL12 := Lr (HL9.out.trans hl12 (by rw [HAL9.out]; exact Ls _)); have HB12 := Lr hb12; clear hp12 hl12 hb12
     go_wp2_with fail
     go_meet
     exact ⟨A12, D9.mG i (oU (bK (aj s)) key D.no) key true, 2, rfl, (show Aside _ from ⟨HP12.out, HL12.out, (HBW9.out.trans HB11.out).trans HB12.out, by rw [HC3.out (by trivial) HHH.out.1 HNF.out HHH.out.2, ← HST.out, HMO.out], HG9.out⟩)⟩
   have HNH : Hid (has = true → u1 ≤ D.no ∧ u2 ≤ D.no) := Lr (fun h => by
    have h1 := HTB.out.symm; have h2 := HTC.out.symm; rw [h] at h1 h2; exact ⟨by simpa using h1, by simpa using h2⟩)
   have hbw10 : Below B w w10 := (HB5.out.trans (HB6.out.mono HP5.out.base)).trans (HB10.out.mono HP6.out.base); have hwy := Ah w0 w10 B A3 (D.bz i (aj s)) C R E P (n + 1) i (aj s) key HP10.out (HF.out.Iq HS.out).1 HS2.out HE3.out (HW0B.out w10 hbw10); rw [EQ3.out, ES3.out] at hwy; have HCO := Lr (HC4.out (by trivial) HNH.out); obtain ⟨o, ho⟩ : ∃ o, o = rV D s.ar key (fQ P key D.no) := ⟨_, rfl⟩
   rw [show rV (D.bz i (aj s)) (aj s).ar key (fQ P key (D.bz i (aj s)).no) = o from ho.symm] at hwy; have HWY := Lr hwy; have HBW10 := Lr hbw10; have HO := Lr ho; clear hwy hbw10 ho
   go_wp2_with fail
   refine HWY.out.mono ?_; rintro e w11 ⟨rfl, hb11⟩; have HP11 := Lr (HP10.out.below hb11); have HB11 := Lr (HBW10.out.trans (hb11.mono HP10.out.base)); clear hb11; cases o
   case some j =>
    have hjl : j < D.ak.length := HF.out.num.ar i s HS.out j (List.mem_of_find?_eq_some HO.out.symm); have HEQ : Hid (D.dX R P i s key f = ((D.bz i (nO (aj s))).kK j f).dQ f 4) := Lr (by rw [HCO.out _ HO.out.symm]; rfl); have HGL : Hid ((D.bz i (nO (aj s))).go.length = D.go.length) := Lr rfl; have hwl : ((D.bz i (nO (aj s))).wa j).length ≤ 800000 := Nat.le_trans (HF.out.wa j) (by have := HN.out.1; omega); have hj6 : (D.bz i (nO (aj s))).ak[j]? = some (D.K j) := Day.oJ hjl; have hsb6 := (HP11.out.sb HS2.out).2; rw [ES3.out] at hsb6; have c8 : w11.cell? ⟨A.sb i, 10, none⟩ = some (.int .i64 s.ld.wt) := af hsb6 10 rfl; have z8 := cO hsb6 10; have hwf : IntKind.i64.wrap (s.ld.wt + 1) = s.ld.wt + 1 := IntWalk.i64_in _ (by have := (HF.out.st i s HS.out).wt; have := HN.out.1; omega); obtain ⟨w13, hw13⟩ : ∃ w13, w13 = w11.setCell ⟨A.sb i, 10, none⟩ (.int .i64 (s.ld.wt + 1)) := ⟨_, rfl⟩
    have hp6 : PD w13 B A3 (D.bz i (nO (aj s))) := by
     have h := HP11.out.pM HS2.out 10 (.int .i64 (s.ld.wt + 1)) (nO (aj s)) rfl rfl rfl rfl; rw [ES3.out, ← hw13] at h; rw [← iD D i (aj s)]; exact h
    have hbw : Below B w w13 := by rw [hw13]; exact HB11.out.setCell (by rw [← ES3.out]; exact (HP11.out.sb HS2.out).1) _
    have hl6 := HLR.out; obtain ⟨D6, hD6⟩ : ∃ D6, D6 = D.bz i (nO (aj s)) := ⟨_, rfl⟩
    rw [← hD6] at hp6 hj6 HEQ HGL hwl; have HW13 := Lr hw13; clear hjl hsb6 hw13 hD6
    go_upto_region 9 with (fail)
    rw [← HW13.out]; clear c8 z8 hwf; have hew : jb A3.ab f = [.int .i64 (f.ge : Nat), pv] := (kC.same HWF.out (HL3.out A3 hl6).1).trans (by rw [HPV.out]; rfl); obtain ⟨ao, nn, cp, hv6, c56, ho6⟩ := kH hp6 hj6; have hx6 := hp6.fr (k := A.x.length) (by rw [hl6.x]; exact HX7.out); have x0 := af hx6 0 (v := .int .i64 (f.ge : Nat)) rfl; have x1 := af hx6 1 (v := pv) rfl; have l5 : A3.ab j < w13.heap.size := LC w13 _ c56; have l7 : w.heap.size < w13.heap.size := LC w13 _ x0; have hBW : Below w13.heap.size w13 (w13.drew.alloc (.cells #[.int .i64 (f.ge : Nat), pv] 139)) := ((LD _ w13).drew).alloc (Ls _) _; have HO6 : Hid (Own (w13.drew.alloc (.cells #[.int .i64 (f.ge : Nat), pv] 139)) B 139 2 (jb A3.ab) (.slice ao nn cp) (D6.wa j)) := Lr (ho6.zq.al _); have HA6 : Hid ((w13.drew.alloc (.cells #[.int .i64 (f.ge : Nat), pv] 139)).heap[w13.heap.size]? = some (.cells (jb A3.ab f).toArray 139 (0, 0))) := Lr (by rw [hew]; exact ag w13.drew _); have HBS : Hid (B ≤ (w13.drew.alloc (.cells #[.int .i64 (f.ge : Nat), pv] 139)).heap.size) := Lr (Nat.le_trans hp6.base hBW.size); have HNL : Hid ((D6.wa j).length * 16 ≤ 140737488355328) := Lr (by have := hwl; omega); have HK6 := Lr hp6; have HJ6 := Lr hj6; have HV6 := Lr hv6; have HBW := Lr hBW; have HL6 := Lr hl6; have HBB := Lr hbw; clear hp6 hj6 hv6 hBW hl6 hbw ho6 hew hx6 hwl
    go_upto_region 11 with (fail)
    go_region_law (first | (refine aW (enc := jb A3.ab) (v := .slice ao nn cp) (l := D6.wa j) rfl _ _ 140 rfl Js (by decide) rfl rfl f rfl rfl HO6.out HA6.out HNL.out HBS.out ?_; intro v7 w7 ho7 hb7 hk7; obtain ⟨ao7, n7, cp7, rfl⟩ := Own.slv (ik A3.ab) ho7; obtain ⟨z5, y5⟩ := kJ HK6.out HJ6.out HV6.out HBW.out hk7; have HDN := Lr (mP HK6.out HJ6.out HV6.out HBW.out hb7 hk7 ho7); clear ho7 hb7 hk7) | fail)
    all_goals go_wp2_with fail
    all_goals go_meet
    all_goals exact ⟨_, _, 4, rfl, (show Aside _ from ⟨HDN.out.1, HL6.out.trans ⟨rfl, rfl, rfl, rfl, rfl, rfl, rfl, rfl, rfl, rfl, fun _ _ => rfl⟩ (Ls _), HBB.out.trans HDN.out.2, HEQ.out, HGL.out⟩)⟩
   case none =>
    have hask := vT w11 B A3 (D.bz i (aj s)) (n + 1) i (aj s) key true HP11.out (HF.out.Iq HS.out).1 (by have := HN.out.1; omega) HS2.out; rw [EQ3.out] at hask; have HASK := Lr hask; clear hask
    go_wp2_with fail
    refine HASK.out.mono ?_; rintro e w9 ⟨A6, rfl, hp6, hl6, hb6⟩; obtain ⟨j, hj⟩ : ∃ j, j = D.ak.length := ⟨_, rfl⟩
    have hj6 : ((D.bz i (aj s)).mG i (aj s) key true).ak[j]? = some ⟨i, D.no, key, true⟩ := by
     rw [hj]; show (D.ak ++ [_])[D.ak.length]? = _
     rw [List.getElem?_append_right (Ls _)]; simp
     rfl
    have ej : A6.ab (D.bz i (aj s)).ak.length = A6.ab j := by rw [hj]; rfl
    rw [ej]; have HEQ : Hid (D.dX R P i s key f = (((D.bz i (aj s)).mG i (aj s) key true).kK j f).dQ f 3) := Lr (by rw [HCO.out _ HO.out.symm, hj]; rfl); have HGL : Hid (((D.bz i (aj s)).mG i (aj s) key true).go.length = D.go.length) := Lr rfl; have hwl : (((D.bz i (aj s)).mG i (aj s) key true).wa j).length ≤ 800000 := by
     rw [hj]; show (upF D.wa D.ak.length [] D.ak.length).length ≤ _
     rw [aZ]; exact Nat.zero_le _
    obtain ⟨D6, hD6⟩ : ∃ D6, D6 = (D.bz i (aj s)).mG i (aj s) key true := ⟨_, rfl⟩
    rw [← hD6] at hp6 hj6 HEQ HGL hwl; have hbw : Below B w w9 := (HB11.out).trans hb6; clear hj ej hD6 hb6 HASK; have hew : jb A6.ab f = [.int .i64 (f.ge : Nat), pv] := (kC.same HWF.out (HL3.out A6 hl6).1).trans (by rw [HPV.out]; rfl); obtain ⟨ao, nn, cp, hv6, c56, ho6⟩ := kH hp6 hj6; have hx6 := hp6.fr (k := A.x.length) (by rw [hl6.x]; exact HX7.out); have x0 := af hx6 0 (v := .int .i64 (f.ge : Nat)) rfl; have x1 := af hx6 1 (v := pv) rfl; have l5 : A6.ab j < w9.heap.size := LC w9 _ c56; have l7 : w.heap.size < w9.heap.size := LC w9 _ x0; have hBW : Below w9.heap.size w9 (w9.drew.alloc (.cells #[.int .i64 (f.ge : Nat), pv] 139)) := ((LD _ w9).drew).alloc (Ls _) _; have HO6 : Hid (Own (w9.drew.alloc (.cells #[.int .i64 (f.ge : Nat), pv] 139)) B 139 2 (jb A6.ab) (.slice ao nn cp) (D6.wa j)) := Lr (ho6.zq.al _); have HA6 : Hid ((w9.drew.alloc (.cells #[.int .i64 (f.ge : Nat), pv] 139)).heap[w9.heap.size]? = some (.cells (jb A6.ab f).toArray 139 (0, 0))) := Lr (by rw [hew]; exact ag w9.drew _); have HBS : Hid (B ≤ (w9.drew.alloc (.cells #[.int .i64 (f.ge : Nat), pv] 139)).heap.size) := Lr (Nat.le_trans hp6.base hBW.size); have HNL : Hid ((D6.wa j).length * 16 ≤ 140737488355328) := Lr (by have := hwl; omega); have HK6 := Lr hp6; have HJ6 := Lr hj6; have HV6 := Lr hv6; have HBW := Lr hBW; have HL6 := Lr hl6; have HBB := Lr hbw
    clear hp6 hj6 hv6 hBW hl6 hbw ho6 hew hx6 hwl
    go_upto_region 11 with (fail)
    go_region_law (first | (refine aW (enc := jb A6.ab) (v := .slice ao nn cp) (l := D6.wa j) rfl _ _ 140 rfl Js (by decide) rfl rfl f rfl rfl HO6.out HA6.out HNL.out HBS.out ?_; intro v7 w7 ho7 hb7 hk7; obtain ⟨ao7, n7, cp7, rfl⟩ := Own.slv (ik A6.ab) ho7; obtain ⟨z5, y5⟩ := kJ HK6.out HJ6.out HV6.out HBW.out hk7; have HDN := Lr (mP HK6.out HJ6.out HV6.out HBW.out hb7 hk7 ho7); clear ho7 hb7 hk7) | fail)
    all_goals go_wp2_with fail
    all_goals go_meet
    all_goals exact ⟨_, _, 3, rfl, (show Aside _ from ⟨HDN.out.1, HL6.out.trans ⟨rfl, rfl, rfl, rfl, rfl, rfl, rfl, rfl, rfl, rfl, fun _ _ => rfl⟩ (Ls _), HBB.out.trans HDN.out.2, HEQ.out, HGL.out⟩)⟩
 obtain ⟨A', D', how, rfl, CS⟩ := hcut; obtain ⟨w6, rfl⟩ : ∃ W : World, W = wc := ⟨_, rfl⟩
 have HC := Lr CS.out; clear CS; have hx7 := HC.out.pd.fr (k := A.x.length) (by rw [HC.out.le.x]; exact HX7.out); have x0 := af hx7 0 (v := .int .i64 (f.ge : Nat)) rfl; have x1 := af hx7 1 (v := pv) rfl; have HEN : Hid (∀ (W : World) (A2 : Adr) (D2 : Day), PD W B A2 D2 → bu A3 A2 D.ak.length → D.dX R P i s key f = D2 → PD W B { A2 with x := A.x } (D.dX R P i s key f) ∧ bu A { A2 with x := A.x } D.ak.length) := Lr (fun W A2 D2 h1 h2 h3 => by
  rw [h3]; obtain ⟨g1, g2⟩ := HL3.out A2 h2; obtain ⟨y, hy⟩ := HXY.out; exact ⟨h1.lM ⟨y, by rw [g2]; exact hy⟩, g1⟩)
 cases hfa : f.ak with
 | some ja =>
  have hpv : pv = .pointer (some ⟨A.ab ja, 0, none⟩) := by rw [HPV.out, hfa]; rfl
  have HEQ : Hid (D.dX R P i s key f = D') := Lr (by rw [HC.out.eq]; unfold Day.dQ; rw [hfa]); subst hpv; clear hfa hx7
  go_wp2_with fail
  go_end0
  exact ⟨_, rfl, (HEN.out _ _ _ HC.out.pd HC.out.le HEQ.out).1, (HEN.out _ _ _ HC.out.pd HC.out.le HEQ.out).2, HC.out.bel⟩
 | none =>
  have hpv : pv = .pointer none := by rw [HPV.out, hfa]; rfl
  have hgl : f.ge < D'.go.length := by
   rw [HC.out.go]; have h := HWF.out; unfold kC at h; rw [hfa] at h; exact h
  have HEQ : Hid (D.dX R P i s key f = { D' with go := D'.go.set f.ge { D'.G f.ge with ho := how } }) := Lr (by rw [HC.out.eq]; unfold Day.dQ; rw [hfa]); subst hpv; have hg := Day.I7 hgl; have hneg : D'.go ≠ [] := fun e => by rw [e] at hgl; exact absurd hgl (by simp)
  obtain ⟨g2, cap2, hgv, hg1, hg2, hg3, hg4, hgc, hgf⟩ := Own.gZ dH HC.out.pd.Hf hneg; have hqb := HC.out.pd.qb.2; rw [HC.out.le.q, EQ3.out] at hqb; have q7 : w6.cell? ⟨A.q, 7, none⟩ = some (.slice (some ⟨g2, 0, none⟩) D'.go.length cap2) := by rw [af hqb 7 rfl, ← hgv]; rfl
  have g4 : w6.cell? ⟨g2, f.ge * 5 + 4, none⟩ = some (.int .i64 (D'.G f.ge).ho) := hgc f.ge _ 4 _ hg rfl; have f4 := hgf (f.ge * 5 + 4); have hgz : (f.ge : Int) < (D'.go.length : Int) := by omega
  have HOW : Hid (Own ((w6.setCell ⟨g2, f.ge * 5 + 4, none⟩ (.int .i64 how)).drew) B 35 5 jF (.slice (some ⟨g2, 0, none⟩) D'.go.length cap2) (D'.go.set f.ge { D'.G f.ge with ho := how })) := Lr (by
   have ho := HC.out.pd.Hf; rw [hgv] at ho; have h5 : Own (w6.setCell ⟨g2, f.ge * 5 + 4, none⟩ (.int .i64 how)) B 35 5 jF (.slice (some ⟨g2, 0, none⟩) D'.go.length cap2) (D'.go.set f.ge { D'.G f.ge with ho := how }) := Own.store dH ho rfl hg (show 4 < 5 by decide) rfl; exact h5.zq)
  have HON : Hid (Onl g2 w6 ((w6.setCell ⟨g2, f.ge * 5 + 4, none⟩ (.int .i64 how)).drew)) := Lr ((Onl.set g2 w6 _ _).trans (Onl.of_below (LD _ _).drew)); have HGV := Lr hgv; have HG1 := Lr hg1; clear hfa hx7 hg hneg hqb hgc hgf hgv hg1 hg2 hg3 hg4 hgl
  go_upto_region 26 with (fail)
  go_still_tail 9, (by kernel_rfl)
  change wpList _ _ _ _ _ w6.drew
  go_wp2_with fail
  go_end0
  have hpe := HC.out.pd.Ej HGV.out (l' := D'.go.set f.ge { D'.G f.ge with ho := how }) (by rw [HGV.out]; exact HOW.out) HON.out HON.out.size; exact ⟨rfl, _, (HEN.out _ _ _ hpe HC.out.le HEQ.out).1, (HEN.out _ _ _ hpe HC.out.le HEQ.out).2, HC.out.bel.trans (HON.out.dK HC.out.pd.base HG1.out)⟩
end Go.Proofs.YtgohddfnhofjhaaGreatDoor

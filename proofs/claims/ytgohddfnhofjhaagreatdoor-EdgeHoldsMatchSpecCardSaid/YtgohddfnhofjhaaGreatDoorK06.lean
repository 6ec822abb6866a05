/- tidyPath: a path without parts that say nothing. -/
import Derived.Test.YtgohddfnhofjhaaGreatDoorK01
import Derived.Test.YtgohddfnhofjhaaGreatDoorK05
import Derived.Lib.AppendZeros
import Derived.Test.YtgohddfnhofjhaaGreatDoorK03
import Derived.Laws.BytesArg
import Derived.Shelf.Strings.OnBuilder
import Derived.Shelf.Small.Strs
import Derived.Shelf.Strings.Cut
import Derived.Shelf.Strings.Prefix
import Derived.Shelf.Strings.Split
import Derived.Shelf.Slices.Turned
import Derived.Test.YtgohddfnhofjhaaGreatDoorProg
set_option maxRecDepth 100000
set_option maxHeartbeats 4000000
namespace Go.Proofs.YtgohddfnhofjhaaGreatDoor
open Go.RowKit
def dm (w w' : World) (v v' : Value) : Prop := ∀ b, b < w.heap.size → df b v → w'.heap[b]? = w.heap[b]? ∧ df b v'
theorem dm.trans {a b c : World} {u v x : Value} (h : dm a b u v) (hs : a.heap.size ≤ b.heap.size) (k : dm b c v x) : dm a c u x := fun i hi ho => by
 obtain ⟨h1, h2⟩ := h i hi ho; obtain ⟨k1, k2⟩ := k i (by omega) h2; exact ⟨k1.trans h1, k2⟩
theorem dm.alloc (w : World) (o : Obj) (v : Value) : dm w (w.alloc o) v v := fun b hb ho => ⟨Below.heap_alloc w o b hb, ho⟩
theorem dm.same {w w' : World} {g o n n2 c c2 : Nat} {v' : Value} (h : dm w w' (.slice (some ⟨g, o, none⟩) n c) v') : dm w w' (.slice (some ⟨g, o, none⟩) n2 c2) v' := fun b hb ho => h b hb (df.mk (ho _ _ _ rfl))
theorem wS {α : Type} {w : World} {base b : Nat} {E : TypeId} {k : Nat} {enc : α → List Value} {v : Value} {l : List α} (h : Own w base E k enc v l) (hb : df b v) : some b ≠ v.ownBlock := by
 rcases h.2 with ⟨rfl, _⟩ | ⟨g, cap, cur, rfl, _⟩
 ·simp [Value.ownBlock]
 ·simp only [Value.ownBlock, ne_eq, Option.some.injEq]
  exact fun e => hb _ _ _ rfl e.symm
theorem jM {P : Program} (w : World) (base : Nat) (t ty e : TypeId) (i : TypeInfo) (z : Value) (size bytes : Nat) (ht : P.underlying t = some (.slice e)) (hi : P.info? e = some i) (hz : i.zero = some z)
 (hsize : i.size = size) (hby : i.bytes = bytes) (hzs : z.cells.size = size) (hb0 : 0 < bytes) (hb48 : bytes ≤ 281474976710656)
 (v : Value) (n : Nat) (xs : List Value) (hown : w.ownsRow base e size v n xs)
 (a : Addr) (news : List Value) (hl : news.length = size) (hnews : ∀ j u, news[j]? = some u → w.cell? (a.add j) = some u) (h1 : ∀ u ∈ news, u.oneCell' = true)
 (hbytes : n * bytes ≤ 140737488355328) (hbase : base ≤ w.heap.size) :
 ∃ v' w', (Builtin.append_ #[t, t] ty #[v, .slice (some a) 1 1]).run P w = .ok v' w' ∧ w'.ownsRow base e size v' (n + 1) (xs ++ news) ∧ w.grownBy w' v.ownBlock ∧ (∀ b, b < w.heap.size → df b v → df b v') := by
 subst hsize hby; have hn : n ≤ 140737488355328 := Nat.le_trans (Nat.le_mul_of_pos_right _ hb0) hbytes; have hl1 : news.length = 1 * i.size := by omega
 have hlen : (xs ++ news).length = (n + 1) * i.size := by rw [List.length_append, hown.1, hl, Nat.add_mul, Nat.one_mul]
 have h63 : n + 1 ≤ maxLen := by unfold maxLen; omega
 have grown : ∀ (old : Nat) (row : Option Nat) (ROW : Array Value), ROW = xs.toArray ++ news.toArray ++ Builtin.zeroCells z.cells (grownCap w (n + 1) old e - (n + 1)) →
  (w.drew.alloc (.cells ROW e)).ownsRow base e i.size (.slice (some ⟨w.heap.size, 0, none⟩) (n + 1) (grownCap w (n + 1) old e)) (n + 1) (xs ++ news) ∧ w.grownBy (w.drew.alloc (.cells ROW e)) row := by
  intro old row ROW hR; have hge := grownCap_ge w (n + 1) old e; have hcm : grownCap w (n + 1) old e ≤ maxLen := grownCap_le_maxLen w (n + 1) old e h63; refine ⟨⟨hlen, .inr ⟨w.heap.size, _, ROW, rfl, hbase, heap_alloc_new w.drew _, hge, hcm, ?_, ?_⟩⟩, ⟨rfl, rfl, rfl, by simp, fun k hk _ => Below.heap_alloc w.drew _ k hk⟩⟩
  ·rw [hR]; simp only [Array.size_append, List.size_toArray, size_zeroCells, hzs, hown.1, hl1, ← Nat.add_mul]
   congr 1
   omega
  ·rw [hR]; simp only [Array.toList_append, List.append_assoc]
   rw [← List.append_assoc, ← hlen]; exact List.take_left
 rcases hown.2 with ⟨rfl, rfl⟩ | ⟨g, cap, cur, rfl, hbg, hg, hnc, hcm, hcs, htake⟩
 ·have hx : xs = [] := List.eq_nil_of_length_eq_zero (by simpa using hown.1); subst hx; have hr := run_append_nil (P := P) w t ty e i z ht hi hz a 1 1 news hl1 hnews (by omega) (by omega) (by omega); obtain ⟨g1, g2⟩ := grown 0 (Value.ownBlock (.slice none 0 0)) _ rfl; simp only [Nat.zero_add, List.nil_append, Array.empty_append] at g1 g2 ⊢
  exact ⟨_, _, hr, g1, g2, fun b hb _ => df.mk (by omega)⟩
 ·by_cases hroom : n + 1 ≤ cap
  ·have hfit : n * i.size + news.length ≤ cur.size := by rw [hl1, hcs, ← Nat.add_mul]; exact Nat.mul_le_mul_right _ hroom
   have hr := run_append_room (P := P) w t ty e i ht hi g n cap cur hg a 1 1 news hl1 hnews h1 hroom hfit; refine ⟨_, _, hr, ⟨hlen, .inr ⟨g, cap, _, rfl, hbg, setRow_heap w g cur _ e _ hg, hroom, hcm, ?_, ?_⟩⟩, ⟨rfl, rfl, rfl, by simp, fun k _ hk => setRow_other w g k _ (fun e => hk (by simp [Value.ownBlock, e]))⟩, fun b _ ho => df.mk (ho _ _ _ rfl)⟩
   ·simp only [List.size_toArray, List.length_append, List.length_take, List.length_drop, Array.length_toList]
    omega
   ·rw [htake, ← hlen]; exact List.take_left
  ·obtain rfl : cap = n := by omega
   have holds : ∀ j u, xs[j]? = some u → w.cell? ((⟨g, 0, none⟩ : Addr).add j) = some u := hown.cells (g := g) rfl; have hr := run_append_grow (P := P) w t ty e i z ht hi hz ⟨g, 0, none⟩ cap cap xs hown.1 holds a 1 1 news hl1 hnews (by omega) (by omega) (growslice_fits_succ hbytes hb48); obtain ⟨g1, g2⟩ := grown cap (Value.ownBlock (.slice (some ⟨g, 0, none⟩) cap cap)) _ rfl; exact ⟨_, _, hr, g1, g2, fun b hb _ => df.mk (by omega)⟩
theorem dM {α : Type} {P : Program} {ops : Array Oper} {rest : List Oper} {o : Oper} {a : Act} {Q : Exit → Act → World → Prop} (hgd : o.guard = none) (s x : Operand) (t : TypeId)
 (ho : o.op = .call { callee := .builtin .append, args := #[s, x], argTypes := #[t, t] })
 {E : TypeId} {k bytes : Nat} (hT : SlT P t E k bytes) (hb48 : bytes ≤ 281474976710656) {enc : α → List Value} {base : Nat} {v : Value} {l : List α} {W : World} (hs : a.eval s = v)
 {A : Nat} (hx : a.eval x = .slice (some ⟨A, 0, none⟩) 1 1)
 (y : α) (hk : (enc y).length = k) (h1 : (enc y).all Value.oneCell' = true)
 (hown : Own W base E k enc v l) (hA : W.heap[A]? = some (.cells (enc y).toArray E (0, 0))) (hn : l.length * bytes ≤ 140737488355328) (hbase : base ≤ W.heap.size)
 (h : ∀ v' w', Own w' base E k enc v' (l ++ [y]) → Below base W w' → dm W w' v v' → wpList P ops Q rest (a.put o.dst v') w') : wpList P ops Q (o :: rest) a W := by
 obtain ⟨i, z, ht, hi, hz, hsize, hby, hzs, hsz, hb0⟩ := hT; have hlen : l.length ≤ 140737488355328 := Nat.le_trans (Nat.le_mul_of_pos_right _ hb0) hn; obtain ⟨v', w', hr, h2, h3, h4⟩ := jM (P := P) W base t o.type E i z k bytes ht hi hz hsize hby hzs hb0 hb48 v l.length (l.flatMap enc) hown ⟨A, 0, none⟩ (enc y) hk (fun j u hu => by
  rw [Addr.add_lit, Nat.zero_add, cell_of_block hA]
  simpa using hu) (fun u hu => List.all_eq_true.1 h1 u hu) hn hbase
 refine Lib.wpList_append_run W hgd s x t t ho v _ hs hx v' w' hr (h v' w' ?_ ?_ ?_)
 ·unfold Own; rw [List.flatMap_append, List.length_append, List.flatMap_singleton]; exact h2
 ·exact (LD _ _).grown h3 hbase (fun k hk => (World.ownsRow.lt hown k hk).1)
 ·exact fun b hb hob => ⟨h3.block b hb (wS hown hob), h4 b hb hob⟩
theorem aW {α : Type} {P : Program} {ops : Array Oper} {o : Oper} {a : Act} {Q : Exit → Act → World → Prop} {K : Act → World → Prop} {X : Prop} (hgd : o.guard = none) (s x : Operand) (t : TypeId)
 (ho : o.op = .call { callee := .builtin .append, args := #[s, x], argTypes := #[t, t] })
 {E : TypeId} {k bytes : Nat} (hT : SlT P t E k bytes) (hb48 : bytes ≤ 281474976710656) {enc : α → List Value} {base : Nat} {v : Value} {l : List α} {W : World} (hs : a.eval s = v)
 {A : Nat} (hx : a.eval x = .slice (some ⟨A, 0, none⟩) 1 1)
 (y : α) (hk : (enc y).length = k) (h1 : (enc y).all Value.oneCell' = true)
 (hown : Own W base E k enc v l) (hA : W.heap[A]? = some (.cells (enc y).toArray E (0, 0))) (hn : l.length * bytes ≤ 140737488355328) (hbase : base ≤ W.heap.size)
 (h : ∀ v' w', Own w' base E k enc v' (l ++ [y]) → Below base W w' → dm W w' v v' → K (a.put o.dst v') w') :
 if Region.wanted o (yielded ops a.tmps) = true then Oper.wp P o a W K Q else X := by
 have hw : Region.wanted o (yielded ops a.tmps) = true := by simp [Region.wanted, hgd]
 rw [if_pos hw]; obtain ⟨i, z, ht, hi, hz, hsize, hby, hzs, hsz, hb0⟩ := hT; obtain ⟨v', w', hr, h2, h3, h4⟩ := jM (P := P) W base t o.type E i z k bytes ht hi hz hsize hby hzs hb0 hb48 v l.length (l.flatMap enc) hown ⟨A, 0, none⟩ (enc y) hk (fun j u hu => by
  rw [Addr.add_lit, Nat.zero_add, cell_of_block hA]
  simpa using hu) (fun u hu => List.all_eq_true.1 h1 u hu) hn hbase
 refine Lib.wp_append_run W s x t t ho v _ hs hx v' w' hr (h v' w' ?_ ?_ ?_)
 ·unfold Own; rw [List.flatMap_append, List.length_append, List.flatMap_singleton]; exact h2
 ·exact (LD _ _).grown h3 hbase (fun k hk => (World.ownsRow.lt hown k hk).1)
 ·exact fun b hb hob => ⟨h3.block b hb (wS hown hob), h4 b hb hob⟩
def JZ (n : Int) : List Value := [.int .u8 n]
theorem mF (n : Int) : (JZ n).length = 1 := rfl
theorem JV : (Tryz.prog.info? 5).map (fun i => (i.zero, i.size, i.bytes)) = some (some (.int .u8 0), 1, 1) := by kernel_rfl
theorem slB : SlT Tryz.prog 153 5 1 1 := by
 obtain ⟨i0, hi, hz0, hz1, hz2⟩ := info_parts JV; exact ⟨i0, _, Tryz.underlying153, hi, hz0, hz1, hz2, rfl, by decide, by decide⟩
def DJ (s : ByteArray) (n : Nat) : List Int := (List.range n).map fun i => chr s i
theorem yt (s : ByteArray) (n : Nat) : (DJ s n).length = n := by simp [DJ]
theorem DI (s : ByteArray) (n : Nat) : DJ s n ++ [chr s n] = DJ s (n + 1) := by simp [DJ, List.range_succ]
theorem Fp {s : ByteArray} {n i : Nat} (h : i < n) : (DJ s n)[i]? = some (chr s i) := by
 unfold DJ; rw [List.getElem?_map, List.getElem?_range h]
 rfl
theorem Fq (s : ByteArray) : strOfNums (DJ s s.size) = s := by
 have e : (DJ s s.size).map (fun n => UInt8.ofNat n.toNat) = s.data.toList := by
  apply List.ext_getElem?; intro i; by_cases hi : i < s.size
  ·have hl : i < s.data.toList.length := hi; rw [List.getElem?_map, Fp hi, Lu hl, ← jr hi]; show some (UInt8.ofNat ((s[i]'hi).toNat : Int).toNat) = _
   rw [Int.toNat_natCast, UInt8.ofNat_toNat]
   rfl
  ·have hl : ¬ i < s.data.toList.length := hi; rw [List.getElem?_eq_none (by rw [List.length_map, yt]; omega), List.getElem?_eq_none (by omega)]
 unfold strOfNums; rw [e]
theorem Fe (w : World) (l : List Int) (v : Value) (hl : Sl w 1 JZ v l) : (convert 153 9 v).run Tryz.prog w = .ok (.string (strOfNums l)) w := by
 obtain ⟨ao, cap, rfl, _, _, hnil, hel⟩ := hl; cases ao with
 | none =>
  have := hnil rfl; obtain rfl : l = [] := List.length_eq_zero_iff.1 (by omega); exact run_convert_bytes_nil (P := Tryz.prog) w 153 5 Tryz.underlying153 Tryz.underlying5 0 cap 9 Tryz.underlying9
 | some ad =>
  obtain ⟨b, off, spot⟩ := ad; by_cases he : l = []
  ·subst he; have h0 : (loadCells ⟨b, off, spot⟩ 0).run Tryz.prog w = .ok (([] : List Int).map (Value.int .u8)).toArray w := by
    have := run_loadCells_list (P := Tryz.prog) w ⟨b, off, spot⟩ [] (fun j v hj => by simp at hj)
    simpa using this
   exact (run_convert_bytes_string w 153 9 5 _ _ cap Tryz.underlying153 Tryz.underlying5 Tryz.underlying9).trans (run_bytesToString w _ 0 cap [] h0)
  have hsp : spot = none := by
   obtain ⟨b', off', e, _⟩ := hel 0 (l[0]'(List.length_pos_iff.2 he)) (by simp); simp only [Option.some.injEq, Addr.mk.injEq] at e
   exact e.2.2
  subst hsp; refine run_convert_bytes_arg (P := Tryz.prog) w 153 5 Tryz.underlying153 Tryz.underlying5 b off l.length cap l rfl (fun i hi => ?_) 9 Tryz.underlying9; obtain ⟨b', off', e, hc⟩ := hel i l[i] (by simp); simp only [Option.some.injEq, Addr.mk.injEq, and_true] at e
  obtain ⟨rfl, rfl⟩ := e; have := hc 0 _ rfl; simp only [Nat.mul_one, Nat.add_zero] at this
  rw [this]; simp [List.getD_eq_getElem?_getD, hi]
theorem uu (s : ByteArray) (w : World) (hs : s.size ≤ 300) (h37 : ∀ i, i < s.size → ¬ chr s i = 37) :
 Calls Tryz.prog 52 #[.string s] w fun e w' => e = .returned (.tuple #[.string s, .bool true]) ∧ Below w.heap.size w w' := by
 have H37 := Lr h37; have HS := Lr hs; have hs' : s.size ≤ 9223372036854775807 := by omega
 have hs1 : (s.size : Int) ≤ 300 := by omega
 clear h37 hs
 go_enter Tryz.func52, Tryz.ntmps52
 go_wp2
 go_loopg [4, 5] s.size (fun gg s4 s5 wr => ∃ kk : Nat, kk ≤ s.size ∧ s.size - kk ≤ gg ∧ s5 = .int .i64 kk ∧ Aside (Own wr w.heap.size 5 1 JZ s4 (DJ s kk)) ∧ Aside (Below w.heap.size w wr))
 case atStart => exact ⟨0, Nat.zero_le _, by omega, by go_num, Own.nil, LD _ w⟩
 case round =>
  obtain ⟨kk, hkk, hg, rfl, OW, BW⟩ := hrel; have HOW := Lr OW.out; have HBW := Lr BW.out; by_cases hlt : kk < s.size
  ·have hltz : (kk : Int) < (s.size : Int) := by omega
   have hc := jr hlt; have hn := H37.out kk hlt; have HT := Lr (DI s kk); have hcnt : Hid (((DJ s kk).length + 1) * 1 ≤ 140737488355328) := Lr (by rw [yt]; have := HS.out; omega); have hszw := HBW.out.size; obtain ⟨ao5, L5, cp5, rfl⟩ := Own.slv mF OW.out; clear OW BW
   go_wp2_with (at_builtin; refine jw rfl _ _ 153 rfl slB rfl rfl (chr s kk) rfl rfl rfl HOW.out rfl hcnt.out hszw ?_; intro v5 w5 ho5 hb5; obtain ⟨ao6, L6, cp6, rfl⟩ := Own.slv mF ho5; have HO5 := Lr ho5; have HB5 := Lr (HBW.out.trans hb5); clear ho5 hb5)
   go_roundg (s.size - (kk + 1))
   case measure => omega
   case rel => exact ⟨kk + 1, by omega, by omega, by go_num, (show Own _ _ _ _ _ _ _ by rw [← HT.out]; exact HO5.out), HB5.out⟩
  ·obtain rfl : kk = s.size := by omega
   have hltz : ¬ (s.size : Int) < (s.size : Int) := by omega
   have hcv := Fe wr _ _ (Own.sl OW.out mF); rw [Fq] at hcv; obtain ⟨ao5, L5, cp5, rfl⟩ := Own.slv mF OW.out; clear OW BW
   go_wp2
   go_ret2
   exact ⟨rfl, HBW.out⟩
end Go.Proofs.YtgohddfnhofjhaaGreatDoor
namespace Go.Proofs
open Go.Shelf
def Tryz.lays156_ren : Go.Shelf.Ren := ⟨fun | 156 => 60 | 165 => 90 | 166 => 91 | 169 => 92 | 240 => 140 | 241 => 141 | 276 => 171 | 277 => 172 | n => n, fun | 31 => 114 | 9 => 9 | 3 => 3 | 4 => 4 | 0 => 0 | 20 => 20 | 72 => 161 | 76 => 164 | 70 => 159 | 37 => 153 | 75 => 163 | 127 => 217 | 164 => 242 | 5 => 5 | 80 => 166 | n => n, fun | n => n⟩
theorem Tryz.lays156 : Go.Proofs.Lays.n156 Tryz.prog Tryz.lays156_ren := {
 mixed := by kernel_rfl
 f156 := Tryz.func60.trans (congrArg some (by kernel_rfl))
 f165 := Tryz.func90.trans (congrArg some (by kernel_rfl))
 f166 := Tryz.func91.trans (congrArg some (by kernel_rfl))
 f169 := Tryz.func92.trans (congrArg some (by kernel_rfl))
 f240 := Tryz.func140.trans (congrArg some (by kernel_rfl))
 f241 := Tryz.func141.trans (congrArg some (by kernel_rfl))
 f276 := Tryz.func171.trans (congrArg some (by kernel_rfl))
 f277 := Tryz.func172.trans (congrArg some (by kernel_rfl))
 t0 := Tryz.underlying0
 a0 := Tryz.isAgg0
 z0 := Tryz.sizeOf0
 v0 := Tryz.zeroValue0
 t3 := Tryz.underlying3
 a3 := Tryz.isAgg3
 z3 := Tryz.sizeOf3
 v3 := Tryz.zeroValue3
 t4 := Tryz.underlying4
 a4 := Tryz.isAgg4
 z4 := Tryz.sizeOf4
 v4 := Tryz.zeroValue4
 t9 := Tryz.underlying9
 a9 := Tryz.isAgg9
 z9 := Tryz.sizeOf9
 v9 := Tryz.zeroValue9
 t20 := Tryz.underlying20
 a20 := Tryz.isAgg20
 z20 := Tryz.sizeOf20
 v20 := Tryz.zeroValue20
 t31 := Tryz.underlying114
 a31 := Tryz.isAgg114
 z31 := Tryz.sizeOf114
 v31 := Tryz.zeroValue114
 t37 := Tryz.underlying153
 a37 := Tryz.isAgg153
 z37 := Tryz.sizeOf153
 v37 := Tryz.zeroValue153
 t70 := Tryz.underlying159
 a70 := Tryz.isAgg159
 z70 := Tryz.sizeOf159
 v70 := Tryz.zeroValue159
 t72 := Tryz.underlying161
 a72 := Tryz.isAgg161
 z72 := Tryz.sizeOf161
 v72 := Tryz.zeroValue161
 t75 := Tryz.underlying163
 a75 := Tryz.isAgg163
 z75 := Tryz.sizeOf163
 v75 := Tryz.zeroValue163
 t76 := Tryz.underlying164
 a76 := Tryz.isAgg164
 z76 := Tryz.sizeOf164
 v76 := Tryz.zeroValue164
 t127 := Tryz.underlying217
 a127 := Tryz.isAgg217
 z127 := Tryz.sizeOf217
 v127 := Tryz.zeroValue217
 t164 := Tryz.underlying242
 a164 := Tryz.isAgg242
 z164 := Tryz.sizeOf242
 v164 := Tryz.zeroValue242 }
theorem Tryz.Builder_Extra_156 : Builder.Extra Tryz.prog Tryz.lays156_ren := {
 sizeBuilder := by kernel_rfl
 liesBuilder := by kernel_rfl
 t5 := Tryz.underlying5
 a5 := Tryz.isAgg5
 z5 := Tryz.sizeOf5
 v5 := Tryz.zeroValue5
 infoByte := by kernel_rfl
 cellsByte := by kernel_rfl
 sizeByte := by kernel_rfl
 neB5 := by decide }
open Go.RowKit in
theorem Tryz.strings_Join_none (a : Option Addr) (c : Nat) (sep : ByteArray) (w : World) :
 Calls Tryz.prog 60 #[.slice a 0 c, .string sep] w fun e w' => e = .returned (.string ⟨#[]⟩) ∧ w' = w := Any.strings_Join_none Tryz.lays156 Tryz.Builder_Extra_156 a c sep w
open Go.RowKit in
theorem Tryz.strings_Join (bk o c : Nat) (xs : List ByteArray) (sep : ByteArray) (w : World) (hcells : ∀ (j : Nat) x, xs[j]? = some x → w.cell? ⟨bk, o + j, none⟩ = some (.string x)) (hbk : bk < w.heap.size) (hN : xs.length ≤ 140737488355328) (hcap : xs.length ≤ c) (hlen : (Lib.join (xs.map (·.data.toList)) sep.data.toList).length ≤ 140737488355328) :
 Calls Tryz.prog 60 #[.slice (some ⟨bk, o, none⟩) xs.length c, .string sep] w fun e w' => e = .returned (.string ⟨(Lib.join (xs.map (·.data.toList)) sep.data.toList).toArray⟩) ∧ Below w.heap.size w w' := Any.strings_Join Tryz.lays156 Tryz.Builder_Extra_156 bk o c xs sep w hcells hbk hN hcap hlen
def Tryz.lays106_ren : Go.Shelf.Ren := ⟨fun | 106 => 42 | 213 => 76 | 265 => 127 | n => n, fun | 9 => 9 | 3 => 3 | n => n, fun | n => n⟩
theorem Tryz.lays106 : Go.Proofs.Lays.n106 Tryz.prog Tryz.lays106_ren := {
 mixed := by kernel_rfl
 f106 := Tryz.func42.trans (congrArg some (by kernel_rfl))
 f213 := Tryz.func76.trans (congrArg some (by kernel_rfl))
 f265 := Tryz.func127.trans (congrArg some (by kernel_rfl))
 t3 := Tryz.underlying3
 a3 := Tryz.isAgg3
 z3 := Tryz.sizeOf3
 v3 := Tryz.zeroValue3
 t9 := Tryz.underlying9
 a9 := Tryz.isAgg9
 z9 := Tryz.sizeOf9
 v9 := Tryz.zeroValue9 }
open Go.RowKit in
theorem Tryz.strings_Compare (a b : ByteArray) (w : World) :
 Calls Tryz.prog 42 #[.string a, .string b] w fun e w' => e = .returned (.int .i64 (Lib.compareBytes a.data.toList b.data.toList)) ∧ w' = w := Any.strings_Compare Tryz.lays106 a b w
def Tryz.lays145_ren : Go.Shelf.Ren := ⟨fun | 145 => 53 | 220 => 86 | 219 => 134 | 217 => 163 | 225 => 164 | 224 => 165 | 267 => 166 | 266 => 176 | 314 => 177 | n => n, fun | 9 => 9 | 4 => 4 | 59 => 117 | 3 => 3 | 5 => 5 | 46 => 147 | 146 => 249 | 51 => 209 | n => n, fun | 1 => 0 | n => n⟩
theorem Tryz.lays145 : Go.Proofs.Lays.n145 Tryz.prog Tryz.lays145_ren := {
 mixed := by kernel_rfl
 f145 := Tryz.func53.trans (congrArg some (by kernel_rfl))
 f217 := Tryz.func163.trans (congrArg some (by kernel_rfl))
 f219 := Tryz.func134.trans (congrArg some (by kernel_rfl))
 f220 := Tryz.func86.trans (congrArg some (by kernel_rfl))
 f224 := Tryz.func165.trans (congrArg some (by kernel_rfl))
 f225 := Tryz.func164.trans (congrArg some (by kernel_rfl))
 f266 := Tryz.func176.trans (congrArg some (by kernel_rfl))
 f267 := Tryz.func166.trans (congrArg some (by kernel_rfl))
 f314 := Tryz.func177.trans (congrArg some (by kernel_rfl))
 t3 := Tryz.underlying3
 a3 := Tryz.isAgg3
 z3 := Tryz.sizeOf3
 v3 := Tryz.zeroValue3
 t4 := Tryz.underlying4
 a4 := Tryz.isAgg4
 z4 := Tryz.sizeOf4
 v4 := Tryz.zeroValue4
 t5 := Tryz.underlying5
 a5 := Tryz.isAgg5
 z5 := Tryz.sizeOf5
 v5 := Tryz.zeroValue5
 t9 := Tryz.underlying9
 a9 := Tryz.isAgg9
 z9 := Tryz.sizeOf9
 v9 := Tryz.zeroValue9
 t46 := Tryz.underlying147
 a46 := Tryz.isAgg147
 z46 := Tryz.sizeOf147
 v46 := Tryz.zeroValue147
 t51 := Tryz.underlying209
 a51 := Tryz.isAgg209
 z51 := Tryz.sizeOf209
 v51 := Tryz.zeroValue209
 t59 := Tryz.underlying117
 a59 := Tryz.isAgg117
 z59 := Tryz.sizeOf117
 v59 := Tryz.zeroValue117
 t146 := Tryz.underlying249
 a146 := Tryz.isAgg249
 z146 := Tryz.sizeOf249
 v146 := Tryz.zeroValue249
 g1 := by kernel_rfl }
open Go.RowKit Go.Lib in
theorem Tryz.strings_Cut (s sep : ByteArray) (m : Int) (w : World) (hs : s.size < 4294967281) (hm : w.cell? ⟨0, 0, none⟩ = some (.int .i64 m)) :
 Calls Tryz.prog 53 #[.string s, .string sep] w fun e w' => e = .returned (.tuple #[.string ⟨(Lib.cut s.data.toList sep.data.toList).1.toArray⟩, .string ⟨(Lib.cut s.data.toList sep.data.toList).2.1.toArray⟩, .bool (Lib.cut s.data.toList sep.data.toList).2.2]) ∧ ∃ n, w' = w.drewN n := Any.strings_Cut Tryz.lays145 s sep m w hs hm
def Tryz.lays99_ren : Go.Shelf.Ren := ⟨fun | 99 => 93 | 206 => 142 | n => n, fun | 9 => 9 | 4 => 4 | 3 => 3 | n => n, fun | n => n⟩
theorem Tryz.lays99 : Go.Proofs.Lays.n99 Tryz.prog Tryz.lays99_ren := {
 mixed := by kernel_rfl
 f99 := Tryz.func93.trans (congrArg some (by kernel_rfl))
 f206 := Tryz.func142.trans (congrArg some (by kernel_rfl))
 t3 := Tryz.underlying3
 a3 := Tryz.isAgg3
 z3 := Tryz.sizeOf3
 v3 := Tryz.zeroValue3
 t4 := Tryz.underlying4
 a4 := Tryz.isAgg4
 z4 := Tryz.sizeOf4
 v4 := Tryz.zeroValue4
 t9 := Tryz.underlying9
 a9 := Tryz.isAgg9
 z9 := Tryz.sizeOf9
 v9 := Tryz.zeroValue9 }
open Go.RowKit Go.Lib in
theorem Tryz.strings_HasPrefix (s p : ByteArray) (w : World) :
 Calls Tryz.prog 93 #[.string s, .string p] w fun e w' => e = .returned (.bool (Lib.hasPrefix s.data.toList p.data.toList)) ∧ w' = w := Any.strings_HasPrefix Tryz.lays99 s p w
def Tryz.lays146_ren : Go.Shelf.Ren := ⟨fun | 146 => 54 | 221 => 87 | 268 => 135 | 138 => 136 | 143 => 137 | 195 => 167 | 197 => 168 | 218 => 169 | 219 => 134 | 260 => 178 | 217 => 163 | 225 => 164 | 224 => 165 | 267 => 166 | 266 => 176 | 314 => 177 | n => n, fun | 9 => 9 | 31 => 114 | 3 => 3 | 4 => 4 | 0 => 0 | 105 => 240 | 21 => 21 | 5 => 5 | 46 => 147 | 119 => 251 | 139 => 254 | 138 => 253 | 146 => 249 | 51 => 209 | n => n, fun | 1 => 0 | 3 => 1 | 4 => 2 | n => n⟩
theorem Tryz.lays146 : Go.Proofs.Lays.n146 Tryz.prog Tryz.lays146_ren := {
 mixed := by kernel_rfl
 f138 := Tryz.func136.trans (congrArg some (by kernel_rfl))
 f143 := Tryz.func137.trans (congrArg some (by kernel_rfl))
 f146 := Tryz.func54.trans (congrArg some (by kernel_rfl))
 f195 := Tryz.func167.trans (congrArg some (by kernel_rfl))
 f197 := Tryz.func168.trans (congrArg some (by kernel_rfl))
 f217 := Tryz.func163.trans (congrArg some (by kernel_rfl))
 f218 := Tryz.func169.trans (congrArg some (by kernel_rfl))
 f219 := Tryz.func134.trans (congrArg some (by kernel_rfl))
 f221 := Tryz.func87.trans (congrArg some (by kernel_rfl))
 f224 := Tryz.func165.trans (congrArg some (by kernel_rfl))
 f225 := Tryz.func164.trans (congrArg some (by kernel_rfl))
 f260 := Tryz.func178.trans (congrArg some (by kernel_rfl))
 f266 := Tryz.func176.trans (congrArg some (by kernel_rfl))
 f267 := Tryz.func166.trans (congrArg some (by kernel_rfl))
 f268 := Tryz.func135.trans (congrArg some (by kernel_rfl))
 f314 := Tryz.func177.trans (congrArg some (by kernel_rfl))
 t0 := Tryz.underlying0
 a0 := Tryz.isAgg0
 z0 := Tryz.sizeOf0
 v0 := Tryz.zeroValue0
 t3 := Tryz.underlying3
 a3 := Tryz.isAgg3
 z3 := Tryz.sizeOf3
 v3 := Tryz.zeroValue3
 t4 := Tryz.underlying4
 a4 := Tryz.isAgg4
 z4 := Tryz.sizeOf4
 v4 := Tryz.zeroValue4
 t5 := Tryz.underlying5
 a5 := Tryz.isAgg5
 z5 := Tryz.sizeOf5
 v5 := Tryz.zeroValue5
 t9 := Tryz.underlying9
 a9 := Tryz.isAgg9
 z9 := Tryz.sizeOf9
 v9 := Tryz.zeroValue9
 t21 := Tryz.underlying21
 a21 := Tryz.isAgg21
 z21 := Tryz.sizeOf21
 v21 := Tryz.zeroValue21
 t31 := Tryz.underlying114
 a31 := Tryz.isAgg114
 z31 := Tryz.sizeOf114
 v31 := Tryz.zeroValue114
 t46 := Tryz.underlying147
 a46 := Tryz.isAgg147
 z46 := Tryz.sizeOf147
 v46 := Tryz.zeroValue147
 t51 := Tryz.underlying209
 a51 := Tryz.isAgg209
 z51 := Tryz.sizeOf209
 v51 := Tryz.zeroValue209
 t105 := Tryz.underlying240
 a105 := Tryz.isAgg240
 z105 := Tryz.sizeOf240
 v105 := Tryz.zeroValue240
 t119 := Tryz.underlying251
 a119 := Tryz.isAgg251
 z119 := Tryz.sizeOf251
 t138 := Tryz.underlying253
 a138 := Tryz.isAgg253
 z138 := Tryz.sizeOf253
 v138 := Tryz.zeroValue253
 t139 := Tryz.underlying254
 a139 := Tryz.isAgg254
 z139 := Tryz.sizeOf254
 v139 := Tryz.zeroValue254
 t146 := Tryz.underlying249
 a146 := Tryz.isAgg249
 z146 := Tryz.sizeOf249
 v146 := Tryz.zeroValue249
 g1 := by kernel_rfl
 g3 := by kernel_rfl
 g4 := by kernel_rfl }
open Go.RowKit Go.Lib in
theorem Tryz.strings_Split (s sep : ByteArray) (m : Int) (w : World) (hs : s.size < 4294967281) (hm : w.cell? ⟨0, 0, none⟩ = some (.int .i64 m)) (h1 : 1 ≤ sep.size) :
 Calls Tryz.prog 54 #[.string s, .string sep] w fun e w' =>
  e = .returned (.slice (some ⟨w.heap.size, 0, none⟩) (Lib.countB s sep + 1) (Lib.countB s sep + 1)) ∧ w' = w.alloc (.cells ((Lib.splitB sep 0 (Lib.countB s sep) s).map Value.string).toArray 9) := Any.strings_Split Tryz.lays146 (by kernel_rfl) s sep m w hs hm h1
def Tryz.lays110_ren : Go.Shelf.Ren := ⟨fun | 110 => 55 | 109 => 88 | n => n, fun | 31 => 114 | 9 => 9 | 4 => 4 | 3 => 3 | 0 => 0 | n => n, fun | n => n⟩
theorem Tryz.lays110 : Go.Proofs.Lays.n110 Tryz.prog Tryz.lays110_ren := {
 mixed := by kernel_rfl
 f109 := Tryz.func88.trans (congrArg some (by kernel_rfl))
 f110 := Tryz.func55.trans (congrArg some (by kernel_rfl))
 t0 := Tryz.underlying0
 a0 := Tryz.isAgg0
 z0 := Tryz.sizeOf0
 v0 := Tryz.zeroValue0
 t3 := Tryz.underlying3
 a3 := Tryz.isAgg3
 z3 := Tryz.sizeOf3
 v3 := Tryz.zeroValue3
 t4 := Tryz.underlying4
 a4 := Tryz.isAgg4
 z4 := Tryz.sizeOf4
 v4 := Tryz.zeroValue4
 t9 := Tryz.underlying9
 a9 := Tryz.isAgg9
 z9 := Tryz.sizeOf9
 v9 := Tryz.zeroValue9
 t31 := Tryz.underlying114
 a31 := Tryz.isAgg114
 z31 := Tryz.sizeOf114
 v31 := Tryz.zeroValue114 }
open Go.Lib in
theorem Tryz.slices_Contains_string (b off n c : Nat) (zs : List ByteArray) (x : ByteArray) (w : World) (hz : n ≤ zs.length) (hbig : n ≤ 9223372036854775807) (hc : ∀ j, j < zs.length → w.cell? ⟨b, off + j, none⟩ = some (.string (zs.getD j ByteArray.empty))) :
 Calls Tryz.prog 55 #[.slice (some ⟨b, off, none⟩) n c, .string x] w fun e w' => e = .returned (.bool (Lib.containsS (zs.take n) x)) ∧ w' = w := Any.slices_Contains_string Tryz.lays110 b off n c zs x w hz hbig hc
open Go.Lib in
theorem Tryz.slices_Contains_string_empty (a : Option Addr) (c : Nat) (x : ByteArray) (w : World) :
 Calls Tryz.prog 55 #[.slice a 0 c, .string x] w fun e w' => e = .returned (.bool false) ∧ w' = w := Any.slices_Contains_string_empty Tryz.lays110 a c x w
end Go.Proofs
namespace Go.Proofs.YtgohddfnhofjhaaGreatDoor
open Go.RowKit Go.Lib
def encS (x : ByteArray) : List Value := [.string x]
theorem fU (x : ByteArray) : (encS x).length = 1 := rfl
theorem JP : (Tryz.prog.info? 9).map (fun i => (i.zero, i.size, i.bytes)) = some (some (.string ⟨#[]⟩), 1, 16) := by kernel_rfl
theorem slS : SlT Tryz.prog 114 9 1 16 := by
 obtain ⟨i0, hi, hz0, hz1, hz2⟩ := info_parts JP; exact ⟨i0, _, Tryz.underlying114, hi, hz0, hz1, hz2, rfl, by decide, by decide⟩
theorem JY (L : List ByteArray) : L.flatMap encS = L.map Value.string := by
 induction L with
 | nil => rfl
 | cons x r ih => rw [List.flatMap_cons, ih]; rfl
theorem Own.cut {α : Type} {w : World} {base : Nat} {E : TypeId} {k : Nat} {enc : α → List Value} {ao : Option Addr} {L cap : Nat} {l : List α} (hk : ∀ x, (enc x).length = k) (h : Own w base E k enc (.slice ao L cap) l) (n : Nat) (hn : n ≤ L) : Own w base E k enc (.slice ao n cap) (l.take n) := by
 obtain ⟨h1, h2⟩ := h; rcases h2 with ⟨h2, h3⟩ | ⟨g, cap', cur, hv, hg, hh, hn', hm, hs, ht⟩
 ·simp only [Value.slice.injEq] at h2
  obtain ⟨rfl, rfl, rfl⟩ := h2; obtain rfl : n = 0 := by omega
  simp only [List.take_zero]
  exact Own.nil
 ·simp only [Value.slice.injEq] at hv
  obtain ⟨rfl, rfl, rfl⟩ := hv; have hl : (l.take n).length = n := by simp; omega
  refine ⟨by rw [ay hk, hl], .inr ⟨g, cap, cur, by rw [hl], hg, hh, by rw [hl]; omega, hm, hs, ?_⟩⟩; rw [hl]; have e : cur.toList.take (n * k) = (cur.toList.take (l.length * k)).take (n * k) := by
   rw [List.take_take]
   congr 1
   have := Nat.mul_le_mul_right k hn; omega
  rw [e, ht]; have : l.flatMap enc = (l.take n).flatMap enc ++ (l.drop n).flatMap enc := by rw [← List.flatMap_append, List.take_append_drop]
  rw [this, List.take_left' (by rw [ay hk, hl])]
def iC (L : List ByteArray) (p : ByteArray) : List ByteArray := if p = ⟨#[]⟩ ∨ p = ⟨#[46]⟩ then L else if p = ⟨#[46, 46]⟩ then L.take (L.length - 1) else L ++ [p]
def rW (ps : List ByteArray) : Nat → List ByteArray
 | 0 => []
 | n + 1 => iC (rW ps n) (ps.getD n ⟨#[]⟩)
def o5 (ps : List ByteArray) : Nat → ByteArray
 | 0 => ⟨#[]⟩
 | n + 1 => ps.getD n ⟨#[]⟩
theorem qE (ps : List ByteArray) : ∀ n, (rW ps n).length ≤ n
 | 0 => Ls _
 | n + 1 => by
  have := qE ps n; unfold rW iC; split
  ·omega
  ·split
   ·simp; omega
   ·simp; omega
theorem qC (ps : List ByteArray) : ∀ n, n ≤ ps.length → ∀ x, x ∈ rW ps n → x ∈ ps
 | 0, _, x, h => by simp [rW] at h
 | n + 1, hn, x, h => by
  have ih := qC ps n (by omega); unfold rW iC at h; split at h
  ·exact ih x h
  ·split at h
   ·exact ih x (List.mem_of_mem_take h)
   ·rw [List.mem_append, List.mem_singleton] at h; rcases h with h | rfl
    ·exact ih x h
    ·rw [Lt, Lu (by omega), Option.getD_some]; exact List.getElem_mem _
theorem vY {x y : ByteArray} (h : ¬ x = y) : (x.toList == y.data.toList) = false := by
 rw [beq_eq_false_iff_ne, ByteArray.toList_eq]; exact fun e => h (DF e)
theorem Au {x : ByteArray} (e1 : ¬ x = ⟨#[]⟩) (e2 : ¬ x = ⟨#[46]⟩) (e3 : ¬ x = ⟨#[46, 46]⟩) : (x.toList == []) = false ∧ (x.toList == [46]) = false ∧ (x.toList == [46, 46]) = false :=
 ⟨vY e1, vY e2, vY e3⟩
def jQ (L : List ByteArray) (sep : ByteArray) : ByteArray := ⟨(Lib.join (L.map (·.data.toList)) sep.data.toList).toArray⟩
def IE (ps : List ByteArray) : Bool := decide (0 < (rW ps ps.length).length) && decide (o5 ps ps.length = ⟨#[]⟩ ∨ o5 ps ps.length = ⟨#[46]⟩ ∨ o5 ps ps.length = ⟨#[46, 46]⟩)
def qB (ps : List ByteArray) : ByteArray := if IE ps = true then (⟨#[47]⟩ ++ jQ (rW ps ps.length) ⟨#[47]⟩) ++ ⟨#[47]⟩ else ⟨#[47]⟩ ++ jQ (rW ps ps.length) ⟨#[47]⟩
theorem sN (s sep : ByteArray) (m : Int) (w : World) (hs : s.size < 4294967281) (hm : w.cell? ⟨0, 0, none⟩ = some (.int .i64 m)) (h1 : 1 ≤ sep.size) :
 Calls Tryz.prog 54 #[.string s, .string sep] w fun e w' => e = .returned (.slice (some ⟨w.heap.size, 0, none⟩) (dA s sep).length (dA s sep).length) ∧ w' = w.alloc (.cells ((dA s sep).map Value.string).toArray 9) := by
 have h := Tryz.strings_Split s sep m w hs hm h1; rw [lC s sep h1]; exact h
theorem Dk (s sep : ByteArray) (m : Int) (w : World) (hs : s.size < 4294967281) (hm : w.cell? ⟨0, 0, none⟩ = some (.int .i64 m)) :
 Calls Tryz.prog 53 #[.string s, .string sep] w fun e w' => e = .returned (.tuple #[.string ⟨(Lib.cut s.data.toList sep.data.toList).1.toArray⟩, .string ⟨(Lib.cut s.data.toList sep.data.toList).2.1.toArray⟩, .bool (Lib.cut s.data.toList sep.data.toList).2.2]) ∧ ∃ n, w' = w.drewN n := Tryz.strings_Cut s sep m w hs hm
theorem yN {L : List ByteArray} {n : Nat} (h : ∀ x, x ∈ L → x.size ≤ n) : Lib.lens (L.map (·.data.toList)) ≤ n * L.length := by
 induction L with
 | nil => simp [Lib.lens]
 | cons x r ih =>
  have h1 := ih (fun y hy => h y (by simp [hy])); have h2 := h x (by simp); rw [size_eq] at h2; simp only [List.map_cons, List.length_cons, Lib.lens, List.sum_cons] at *
  rw [Nat.mul_succ]; omega
theorem nM {L : List ByteArray} {sep : ByteArray} {n : Nat} (h : ∀ x, x ∈ L → x.size ≤ n) : (Lib.join (L.map (·.data.toList)) sep.data.toList).length ≤ (n + sep.size) * L.length := by
 cases L with
 | nil => simp [Lib.join_nil]
 | cons x r =>
  have h1 := yN h; rw [List.map_cons] at h1 ⊢; rw [Lib.join_length, ← size_eq sep]; simp only [List.length_map, List.length_cons] at *
  rw [Nat.add_mul, Nat.mul_succ sep.size]; omega
theorem uI {a b : ByteArray} (h : a = b) : Ending.returned (.string a) = .returned (.string b) := by rw [h]
theorem xg (L : List ByteArray) (sep : ByteArray) (v : Value) (w : World) (hl : Sl w 1 encS v L) (h : ∀ x, x ∈ L → x.size ≤ 1000) (hL : L.length ≤ 1000) (hs : sep.size ≤ 10) :
 Calls Tryz.prog 60 #[v, .string sep] w fun e w' => e = .returned (.string (jQ L sep)) ∧ Below w.heap.size w w' := by
 obtain ⟨ao, cap, rfl, hcap, hmax, hnil, hel⟩ := hl; by_cases he : L = []
 ·subst he; refine (Tryz.strings_Join_none ao cap sep w).mono ?_; rintro e w' ⟨rfl, rfl⟩; exact ⟨rfl, LD _ _⟩
 ·have h0 : 0 < L.length := List.length_pos_iff.2 he; obtain ⟨b, off, rfl, hc0⟩ := hel 0 L[0] (by simp); refine Tryz.strings_Join b off cap L sep w (fun j x hx => ?_) ?_ (by omega) hcap ?_
  ·obtain ⟨b', off', e, hc⟩ := hel j x hx; simp only [Option.some.injEq, Addr.mk.injEq, and_true] at e
   obtain ⟨rfl, rfl⟩ := e; have := hc 0 _ rfl
   simpa using this
  ·exact LC w _ (hc0 0 _ rfl)
  ·have h1 := nM (sep := sep) h; have h2 : (1000 + sep.size) * L.length ≤ 1010 * 1000 := Nat.mul_le_mul (by omega) hL; omega
theorem Ed (s : ByteArray) (w : World) (m : Int) (hs : s.size ≤ 1000) (hm : w.cell? ⟨0, 0, none⟩ = some (.int .i64 m)) (hW : (dA s ⟨#[47]⟩).length ≤ 1000) (hw : ∀ x, x ∈ dA s ⟨#[47]⟩ → x.size ≤ 1000) :
 Calls Tryz.prog 59 #[.string s] w fun e w' => e = .returned (.string (qB (dA s ⟨#[47]⟩))) ∧ Below w.heap.size w w' := by
 have HSP := Lr (sN s ⟨#[47]⟩ m w (by omega) hm (by decide)); have HM := Lr hm; obtain ⟨W, hWe⟩ : ∃ W, W = dA s ⟨#[47]⟩ := ⟨_, rfl⟩
 rw [← hWe] at hW hw HSP ⊢; have HW := Lr hw; have HWL := Lr hW; clear hWe hm hw hs; have hWz : (W.length : Int) ≤ 1000 := by omega
 obtain ⟨R, hR⟩ : ∃ R, R = qB W := ⟨_, rfl⟩
 rw [← hR]; have HR := Lr hR; clear hR; have HSl : Hid (Sl (w.alloc (.cells (W.map Value.string).toArray 9)) 1 encS (.slice (some ⟨w.heap.size, 0, none⟩) W.length W.length) W) := Lr (by
  have h := Sl.fresh fU w 9 (0, 0) W (by unfold maxLen; omega); rw [JY] at h; exact h)
 have HEL : Hid (∀ (k : Nat) (x : ByteArray), W[k]? = some x → (w.alloc (.cells (W.map Value.string).toArray 9)).cell? ⟨w.heap.size, k, none⟩ = some (.string x)) := Lr (fun k x hx => by
  rw [cell_of_block (ag w _)]; simp [hx])
 clear HSl; have HB0 : Hid (Below w.heap.size w (w.alloc (.cells (W.map Value.string).toArray 9))) := Lr ((LD _ _).alloc (Ls _) _); have HSZ : Hid ((w.alloc (.cells (W.map Value.string).toArray 9)).heap.size = w.heap.size + 1) := Lr (by simp)
 go_enter Tryz.func59, Tryz.ntmps59
 go_wp2_with (go_at_call 54; refine (HSP.out).mono ?_; rintro e w2 ⟨rfl, rfl⟩)
 obtain ⟨w2, hw2⟩ : ∃ w2, w2 = w.alloc (.cells (W.map Value.string).toArray 9) := ⟨_, rfl⟩
 rw [← hw2] at HEL HB0 HSZ ⊢; clear hw2 HSP; have hA0 : w.heap.size < w2.heap.size := by have := HSZ.out; omega
 go_loopg [3, 4, 11] W.length (fun gg s3 s4 s11 wr => ∃ kk : Nat, kk ≤ W.length ∧ W.length - kk ≤ gg ∧ s11 = .int .i64 kk ∧ s4 = .string (o5 W kk) ∧ Aside (Own wr w2.heap.size 9 1 encS s3 (rW W kk)) ∧ Aside (Below w2.heap.size w2 wr))
 case atStart => exact ⟨0, Nat.zero_le _, by omega, by go_num, rfl, Own.nil, LD _ _⟩
 case round =>
  obtain ⟨kk, hkk, hg, rfl, rfl, OW, BW⟩ := hrel; have HOW := Lr OW.out; have HBW := Lr BW.out; have hszw := HBW.out.size; obtain ⟨T, hT⟩ : ∃ T, T = rW W kk := ⟨_, rfl⟩
  have hTL := qE W kk; rw [← hT] at HOW hTL; have HT := Lr hT; clear hT OW BW; obtain ⟨ao5, cp5, rfl, hcap5, hmax5, _, _⟩ := Own.sl HOW.out fU; unfold maxLen at hmax5; by_cases hlt : kk < W.length
  ·have hltz : (kk : Int) < (W.length : Int) := by omega
   obtain ⟨x, hx⟩ : ∃ x, W[kk]? = some x := ⟨W[kk], by simp [hlt]⟩
   have c0 : wr.cell? ⟨w.heap.size, kk, none⟩ = some (.string x) := (HBW.out.cell (p := ⟨w.heap.size, kk, none⟩) hA0).trans (HEL.out kk x hx); have HLN : Hid (o5 W (kk + 1) = x) := Lr (by simp [o5, List.getD_eq_getElem?_getD, hx]); have HTN : Hid (rW W (kk + 1) = iC T x) := Lr (by rw [HT.out]; simp [rW, List.getD_eq_getElem?_getD, hx]); clear hx; by_cases e1 : x = ⟨#[]⟩
   ·subst e1; have HN : Hid (rW W (kk + 1) = T) := Lr (by rw [HTN.out]; simp [iC])
    go_wp2
    go_roundg (W.length - (kk + 1))
    case measure => omega
    case rel => exact ⟨kk + 1, by omega, by omega, by go_num, by rw [HLN.out], (show Own _ _ _ _ _ _ _ by rw [HN.out]; exact HOW.out), HBW.out⟩
   by_cases e2 : x = ⟨#[46]⟩
   ·subst e2; have HN : Hid (rW W (kk + 1) = T) := Lr (by rw [HTN.out]; simp [iC])
    go_wp2
    go_roundg (W.length - (kk + 1))
    case measure => omega
    case rel => exact ⟨kk + 1, by omega, by omega, by go_num, by rw [HLN.out], (show Own _ _ _ _ _ _ _ by rw [HN.out]; exact HOW.out), HBW.out⟩
   by_cases e3 : x = ⟨#[46, 46]⟩
   ·subst e3; have HN : Hid (rW W (kk + 1) = T.take (T.length - 1)) := Lr (by rw [HTN.out]; simp [iC]); obtain ⟨q, hq⟩ : ∃ q, q = T.length - 1 := ⟨_, rfl⟩
    have hmx : max 0 ((T.length : Int) - 1) = (q : Int) := by omega
    have hq2 : q ≤ T.length := by omega
    have HQ : Hid (Own wr w2.heap.size 9 1 encS (.slice ao5 q cp5) (T.take (T.length - 1))) := Lr (by rw [← hq]; exact Own.cut fU HOW.out q hq2); clear hq
    go_wp2
    go_roundg (W.length - (kk + 1))
    case measure => omega
    case rel => exact ⟨kk + 1, by omega, by omega, by go_num, by rw [HLN.out], (show Own _ _ _ _ _ _ _ by rw [HN.out]; exact HQ.out), HBW.out⟩
   ·have HN : Hid (rW W (kk + 1) = T ++ [x]) := Lr (by rw [HTN.out]; simp [iC, e1, e2, e3]); obtain ⟨f1, f2, f3⟩ := Au e1 e2 e3; have HK : Hid ((T.length + 1) * 16 ≤ 140737488355328) := Lr (by have := HWL.out; omega); clear e1 e2 e3
    go_wp2_with (at_builtin; refine jw rfl _ _ 114 rfl slS rfl rfl x rfl rfl rfl HOW.out rfl HK.out hszw ?_; intro v5 w5 ho5 hb5; obtain ⟨ao6, cp6, rfl, hcap6, hmax6, _, _⟩ := Own.sl ho5 fU; have HO5 := Lr ho5; have HB5 := Lr (HBW.out.trans hb5); clear ho5 hb5)
    go_roundg (W.length - (kk + 1))
    case measure => omega
    case rel => exact ⟨kk + 1, by omega, by omega, by go_num, by rw [HLN.out], (show Own _ _ _ _ _ _ _ by rw [HN.out]; have h := HO5.out; rw [List.length_append] at h; exact h), HB5.out⟩
  ·obtain rfl : kk = W.length := by omega
   have hltz : ¬ (W.length : Int) < (W.length : Int) := by omega
   have HTM := Lr (qC W W.length (Ls _)); rw [← HT.out] at HTM; have HJ := Lr (fun v' w' h => xg T ⟨#[47]⟩ v' w' h (fun x hx => HW.out x (HTM.out x hx)) (by omega) (by decide)); have HSL := Lr (Own.sl HOW.out fU); have HR2 : Hid (R = if (decide (0 < T.length) && decide (o5 W W.length = ⟨#[]⟩ ∨ o5 W W.length = ⟨#[46]⟩ ∨ o5 W W.length = ⟨#[46, 46]⟩)) = true then (⟨#[47]⟩ ++ jQ T ⟨#[47]⟩) ++ ⟨#[47]⟩ else ⟨#[47]⟩ ++ jQ T ⟨#[47]⟩) := Lr (by rw [HR.out, HT.out]; rfl); have hJs : (jQ T ⟨#[47]⟩).size ≤ 1010000 := by
    have h1 := nM (L := T) (sep := ⟨#[47]⟩) (fun x hx => HW.out x (HTM.out x hx)); have h2 : (1000 + (⟨#[47]⟩ : ByteArray).size) * T.length ≤ 1010 * 1000 := Nat.mul_le_mul (by decide) (by omega); unfold jQ; rw [qO]; omega
   obtain ⟨y, hy⟩ : ∃ y, y = o5 W W.length := ⟨_, rfl⟩
   rw [← hy] at HR2 ⊢; obtain ⟨J, hJ⟩ : ∃ J, J = jQ T ⟨#[47]⟩ := ⟨_, rfl⟩
   rw [← hJ] at HR2 HJ hJs; clear hy hJ; have hsz1 : ((⟨#[47]⟩ : ByteArray) ++ J).size = 1 + J.size := by rw [ByteArray.size_append]; rfl
   by_cases hT0 : T.length = 0
   ·have hTz : ¬ (0 : Int) < (T.length : Int) := by omega
    have HR3 : Hid (⟨#[47]⟩ ++ J = R) := Lr (by rw [HR2.out, hT0]; simp); clear hT0
    go_wp2_with (go_at_call 60; refine (HJ.out _ _ HSL.out).mono ?_; rintro e w3 ⟨rfl, hb3⟩; have HB3 := Lr ((HB0.out.trans (HBW.out.mono (by omega))).trans (hb3.mono (by omega))); clear hb3)
    go_ret
    exact ⟨uI HR3.out, HB3.out⟩
   have hTz : (0 : Int) < (T.length : Int) := by omega
   by_cases hY : y = ⟨#[]⟩ ∨ y = ⟨#[46]⟩ ∨ y = ⟨#[46, 46]⟩
   ·have HR3 : Hid ((⟨#[47]⟩ ++ J) ++ ⟨#[47]⟩ = R) := Lr (by
     rw [HR2.out, if_pos]; have : 0 < T.length := by omega
     simp [this, hY])
    clear hT0; rcases hY with rfl | rfl | rfl
    all_goals
     go_wp2_with (go_at_call 60; refine (HJ.out _ _ HSL.out).mono ?_; rintro e w3 ⟨rfl, hb3⟩; have HB3 := Lr ((HB0.out.trans (HBW.out.mono (by omega))).trans (hb3.mono (by omega))); clear hb3)
     go_ret
     exact ⟨uI HR3.out, HB3.out⟩
   ·have HR3 : Hid (⟨#[47]⟩ ++ J = R) := Lr (by
     rw [HR2.out, if_neg]; simp [hY])
    simp only [not_or] at hY
    obtain ⟨f1, f2, f3⟩ := Au hY.1 hY.2.1 hY.2.2; clear hT0 hY
    go_wp2_with (go_at_call 60; refine (HJ.out _ _ HSL.out).mono ?_; rintro e w3 ⟨rfl, hb3⟩; have HB3 := Lr ((HB0.out.trans (HBW.out.mono (by omega))).trans (hb3.mono (by omega))); clear hb3)
    go_ret
    exact ⟨uI HR3.out, HB3.out⟩
end Go.Proofs.YtgohddfnhofjhaaGreatDoor

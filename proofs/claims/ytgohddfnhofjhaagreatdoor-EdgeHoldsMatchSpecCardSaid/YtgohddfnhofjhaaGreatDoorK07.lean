/- container/heap is a heap; the events are ordered. -/
import Derived.Test.YtgohddfnhofjhaaGreatDoorK05
import Derived.Test.YtgohddfnhofjhaaGreatDoorK06
import Derived.Deep.RegionLaw
import Derived.Sort.Walk0
import Derived.Test.YtgohddfnhofjhaaGreatDoorK01
set_option maxRecDepth 100000
set_option maxHeartbeats 4000000
namespace Go.Proofs.YtgohddfnhofjhaaGreatDoor
open Go.RowKit
theorem IX : (Tryz.prog.info? 133).map (fun i => (i.zero, i.size, i.bytes)) = some (some (.agg #[.int .i64 0, .bool false, .pointer none, .int .i64 0, .int .i64 0, .int .i64 0, .bool false, .string ⟨#[]⟩]), 8, 72) := by kernel_rfl
theorem KQ : SlT Tryz.prog 66 133 8 72 := by
 obtain ⟨i0, hi, hz0, hz1, hz2⟩ := info_parts IX; exact ⟨i0, _, Tryz.underlying66, hi, hz0, hz1, hz2, rfl, by decide, by decide⟩
structure oO (Q : Nat) (w w' : World) (v v' : Value) : Prop where
 other : ∀ b, b < w.heap.size → b ≠ Q → df b v → w'.heap[b]? = w.heap[b]? ∧ df b v'
 off : df Q v'
 own : ∀ cs T fr, w.heap[Q]? = some (.cells cs T fr) → w'.heap[Q]? = some (.cells (cs.setIfInBounds 5 v') T fr)
 size : w.heap.size ≤ w'.heap.size
 os : w'.os = w.os
 tape : w'.tape = w.tape
 output : w'.output = w.output
structure QAt (Q B : Nat) (a : Nat → Nat) (w : World) (v : Value) (l : List Evn) : Prop where
 own : Own w B 133 8 (fV a) v l
 off : df Q v
 blk : ∃ cs T, w.heap[Q]? = some (.cells cs T (0, 0)) ∧ cs[5]? = some v
 base : B ≤ w.heap.size
theorem QAt.cell {Q B : Nat} {a : Nat → Nat} {w : World} {v : Value} {l : List Evn} (h : QAt Q B a w v l) : w.cell? ⟨Q, 5, none⟩ = some v ∧ w.frozen? ⟨Q, 5, none⟩ = false := by
 obtain ⟨cs, T, h1, h2⟩ := h.blk; exact ⟨(cell_of_block h1).trans h2, by simp [World.frozen?, h1]⟩
theorem QAt.lt {Q B : Nat} {a : Nat → Nat} {w : World} {v : Value} {l : List Evn} (h : QAt Q B a w v l) : Q < w.heap.size := by
 obtain ⟨cs, T, h1, h2⟩ := h.blk; exact (Array.getElem?_eq_some_iff.1 h1).1
theorem rO (w : World) (x : Value) : (Instr.typeAssert (.iface 133 x) 20 133 false).run Tryz.prog w = .ok x w := by kernel_rfl
theorem sZ {Q B : Nat} {a : Nat → Nat} {w W0 W5 W' : World} {v v5 : Value} {l l' : List Evn} (h : QAt Q B a w v l) (h0 : ∀ b, b < w.heap.size → W0.heap[b]? = w.heap[b]?) (hs0 : w.heap.size ≤ W0.heap.size) (ho0 : W0.os = w.os) (ht0 : W0.tape = w.tape) (hp0 : W0.output = w.output)
 (ho : Own W5 B 133 8 (fV a) v5 l') (hb : Below B W0 W5) (hk : dm W0 W5 v v5) (hW : W'.heap = (W5.setCell ⟨Q, 5, none⟩ v5).heap) (hWo : W'.os = W5.os) (hWt : W'.tape = W5.tape) (hWp : W'.output = W5.output) :
 QAt Q B a W' v5 l' ∧ oO Q w W' v v5 := by
 have hQ := h.lt; obtain ⟨cs, T, h1, h2⟩ := h.blk; obtain ⟨k1, k2⟩ := hk Q (by omega) h.off; have hq5 : W5.heap[Q]? = some (.cells cs T (0, 0)) := k1.trans ((h0 Q hQ).trans h1); have hs5 : w.heap.size ≤ W5.heap.size := Nat.le_trans hs0 hb.size; have hset : ∀ b, b ≠ Q → W'.heap[b]? = W5.heap[b]? := fun b hb => by rw [hW]; exact Below.heap_setCell W5 ⟨Q, 5, none⟩ v5 b hb
 have hown' : ∀ cs T fr, W5.heap[Q]? = some (.cells cs T fr) → W'.heap[Q]? = some (.cells (cs.setIfInBounds 5 v5) T fr) := fun cs T fr hc => by
  rw [hW, setCell_eq_setRow W5 Q 5 cs T fr v5 hc]; exact setRow_heap W5 Q cs _ T fr hc
 refine ⟨⟨?_, k2, ⟨cs.setIfInBounds 5 v5, T, hown' _ _ _ hq5, ?_⟩, ?_⟩, ⟨fun b hb hbQ hob => ?_, k2, fun cs T fr hc => ?_, ?_, ?_, ?_, ?_⟩⟩
 ·obtain ⟨q1, q2⟩ := ho; refine ⟨q1, ?_⟩; rcases q2 with q2 | ⟨g, cap, cur, e1, e2, e3, r⟩
  ·exact Or.inl q2
  ·exact Or.inr ⟨g, cap, cur, e1, e2, (hset g (fun e => k2 _ _ _ e1 (by show g = Q; exact e))).trans e3, r⟩
 ·have hlt : 5 < cs.size := (Array.getElem?_eq_some_iff.1 h2).1; simp [hlt]
 ·rw [hW]; have := h.base; simp
  omega
 ·obtain ⟨m1, m2⟩ := hk b (by omega) hob; exact ⟨(hset b hbQ).trans (m1.trans (h0 b hb)), m2⟩
 ·exact hown' _ _ _ (k1.trans ((h0 Q hQ).trans hc))
 ·rw [hW]; simp; omega
 ·rw [hWo, hb.os, ho0]
 ·rw [hWt, hb.tape, ht0]
 ·rw [hWp, hb.output, hp0]
theorem GK {Q B : Nat} {a : Nat → Nat} {w W0 W5 : World} {v v5 : Value} {l : List Evn} (h : QAt Q B a w v l) (h0 : ∀ b, b < w.heap.size → W0.heap[b]? = w.heap[b]?) (hs0 : w.heap.size ≤ W0.heap.size) (hk : dm W0 W5 v v5) :
 W5.cell? ⟨Q, 5, none⟩ = some v ∧ W5.frozen? ⟨Q, 5, none⟩ = false := by
 have hQ := h.lt; obtain ⟨cs, T, h1, h2⟩ := h.blk; have hq5 := (hk Q (by omega) h.off).1.trans ((h0 Q hQ).trans h1); exact ⟨(cell_of_block hq5).trans h2, by simp [World.frozen?, hq5]⟩
theorem zl (w : World) (Q B : Nat) (a : Nat → Nat) (v : Value) (l : List Evn) (e : Evn) (h : QAt Q B a w v l) (hl : l.length ≤ 1000000) :
 Calls Tryz.prog 203 #[.pointer (some ⟨Q, 5, none⟩), .iface 133 (.agg (fV a e).toArray)] w fun r w' => r = .returned (.tuple #[]) ∧ ∃ v', QAt Q B a w' v' (l ++ [e]) ∧ oO Q w w' v v' := by
 obtain ⟨c5, f5⟩ := h.cell; have HQ := Lr h; have hQlt := h.lt; obtain ⟨ao, n, cp, rfl⟩ := Own.slv (dJ a) h.own; have hsz := h.base; clear h; show Calls Tryz.prog 203 #[.pointer (some ⟨Q, 5, none⟩), .iface 133 (.agg #[.int .i64 e.ti, .bool e.bk, .pointer (some ⟨a e.ak, 0, none⟩), .int .i64 e.an.ve, .int .i64 e.an.bo, .int .i64 e.an.si, .bool e.an.no, .string e.an.fr])] w _
 go_enter Tryz.func203, Tryz.ntmps203
 have hta := rO; have HO1 : Hid (Own (w.alloc (.cells #[.int .i64 e.ti, .bool e.bk, .pointer (some ⟨a e.ak, 0, none⟩), .int .i64 e.an.ve, .int .i64 e.an.bo, .int .i64 e.an.si, .bool e.an.no, .string e.an.fr] 133)).drew B 133 8 (fV a) (.slice ao n cp) l) := Lr (HQ.out.own.al _).zq; have HA1 : Hid ((w.alloc (.cells #[.int .i64 e.ti, .bool e.bk, .pointer (some ⟨a e.ak, 0, none⟩), .int .i64 e.an.ve, .int .i64 e.an.bo, .int .i64 e.an.si, .bool e.an.no, .string e.an.fr] 133)).drew.heap[w.heap.size]? = some (.cells (fV a e).toArray 133 (0, 0))) := Lr (ag w _); have H00 : Hid (∀ b, b < w.heap.size → (w.alloc (.cells #[.int .i64 e.ti, .bool e.bk, .pointer (some ⟨a e.ak, 0, none⟩), .int .i64 e.an.ve, .int .i64 e.an.bo, .int .i64 e.an.si, .bool e.an.no, .string e.an.fr] 133)).drew.heap[b]? = w.heap[b]?) := Lr (fun b hb => Below.heap_alloc w _ b hb); have HS0 : Hid (w.heap.size ≤ (w.alloc (.cells #[.int .i64 e.ti, .bool e.bk, .pointer (some ⟨a e.ak, 0, none⟩), .int .i64 e.an.ve, .int .i64 e.an.bo, .int .i64 e.an.si, .bool e.an.no, .string e.an.fr] 133)).drew.heap.size) := Lr (by show w.heap.size ≤ (w.alloc _).heap.size; simp); have HN : Hid (l.length * 72 ≤ 140737488355328) := Lr (by omega)
 go_region_law (first | (refine aW (enc := fV a) (v := .slice ao n cp) (l := l) rfl _ _ 66 rfl KQ (by decide) rfl rfl e rfl rfl HO1.out HA1.out HN.out (Nat.le_trans hsz HS0.out) ?_; intro v5 w5 ho5 hb5 hk5; obtain ⟨g5, m5⟩ := GK HQ.out H00.out HS0.out hk5; obtain ⟨ao5, n5, cp5, rfl⟩ := Own.slv (dJ a) ho5; have HO5 := Lr ho5; have HB5 := Lr hb5; have HK5 := Lr hk5; clear ho5 hb5 hk5) | fail)
 all_goals go_wp2
 all_goals go_end0
 all_goals exact ⟨rfl, _, sZ HQ.out H00.out HS0.out rfl rfl rfl HO5.out HB5.out HK5.out rfl rfl rfl rfl⟩
theorem QAt.below {Q B : Nat} {a : Nat → Nat} {w w' : World} {v : Value} {l : List Evn} (h : QAt Q B a w v l) (hb : Below w.heap.size w w') : QAt Q B a w' v l := by
 obtain ⟨cs, T, h1, h2⟩ := h.blk; exact ⟨h.own.below hb (Ls _), h.off, ⟨cs, T, (hb.block Q h.lt).trans h1, h2⟩, Nat.le_trans h.base hb.size⟩
theorem oO.below {Q : Nat} {w w1 w2 : World} {v v' : Value} (h : oO Q w w1 v v') (hQ : Q < w.heap.size) (hb : Below w1.heap.size w1 w2) : oO Q w w2 v v' :=
 ⟨fun b h1 h2 h3 => ⟨(hb.block b (Nat.lt_of_lt_of_le h1 h.size)).trans (h.other b h1 h2 h3).1, (h.other b h1 h2 h3).2⟩, h.off, fun cs T fr hc => (hb.block Q (Nat.lt_of_lt_of_le hQ h.size)).trans (h.own cs T fr hc), Nat.le_trans h.size hb.size, hb.os.trans h.os, hb.tape.trans h.tape, hb.output.trans h.output⟩
theorem oO.trans {Q : Nat} {w w1 w2 : World} {v v1 v2 : Value} (h : oO Q w w1 v v1) (k : oO Q w1 w2 v1 v2) : oO Q w w2 v v2 where
 other b h1 h2 h3 := by
  obtain ⟨p1, p2⟩ := h.other b h1 h2 h3; obtain ⟨q1, q2⟩ := k.other b (Nat.lt_of_lt_of_le h1 h.size) h2 p2; exact ⟨q1.trans p1, q2⟩
 off := k.off
 own cs T fr hw := by
  have := k.own _ T fr (h.own cs T fr hw); rw [this]
  congr 2
  simp
 size := Nat.le_trans h.size k.size
 os := k.os.trans h.os
 tape := k.tape.trans h.tape
 output := k.output.trans h.output
theorem CZ (w : World) (Q B : Nat) (a : Nat → Nat) (v : Value) (l : List Evn) (h : QAt Q B a w v l) (hl : l.length ≤ 1000000) (h0 : 0 < l.length) :
 Calls Tryz.prog 202 #[.pointer (some ⟨Q, 5, none⟩)] w fun r w' => r = .returned (.iface 133 (.agg (fV a (hat l (l.length - 1))).toArray)) ∧ ∃ v', QAt Q B a w' v' (l.take (l.length - 1)) ∧ oO Q w w' v v' := by
 obtain ⟨c5, f5⟩ := h.cell; have HQ := Lr h; have hQlt := h.lt; have hne : l ≠ [] := fun e => by rw [e] at h0; simp at h0
 obtain ⟨g, cap, rfl, hg1, hg2, hg3, hg4, -, -⟩ := Own.gZ (dJ a) h.own hne; obtain ⟨k, hk⟩ : ∃ k, k = l.length - 1 := ⟨_, rfl⟩
 obtain ⟨e, he⟩ : ∃ e, e = hat l (l.length - 1) := ⟨_, rfl⟩
 have h1 : l[k]? = some e := by rw [he, hk]; exact fA (by omega)
 obtain ⟨d0, d1, d2, d3, d4, d5, d6, d7⟩ := jW h.own h1; have hkz : (l.length : Int) - 1 = (k : Int) := by omega
 have hkl : (k : Int) < (l.length : Int) := by omega
 have hkc : (k : Int) ≤ (cap : Int) := by omega
 have hsz := h.base; rw [← he, ← hk]; have HK := Lr hk; clear h hne h1 he hk; unfold maxLen at hg4; have HCUT : Hid (Own w B 133 8 (fV a) (.slice (some ⟨g, 0, none⟩) k cap) (l.take k)) := Lr (Own.cut (dJ a) HQ.out.own k (by omega)); have HD := Lr (sZ (W0 := w) (W5 := w) (W' := w.setCell ⟨Q, 5, none⟩ (.slice (some ⟨g, 0, none⟩) k cap)) HQ.out (fun _ _ => rfl) (Ls _) rfl rfl rfl HCUT.out (LD _ _) (fun b _ ho => ⟨rfl, df.mk (ho _ _ _ rfl)⟩) rfl rfl rfl rfl); clear HCUT
 go_enter Tryz.func202, Tryz.ntmps202
 go_wp2
 go_ret
 exact ⟨rfl, _, HD.out.1.below ((LD _ _).alloc (Ls _) _), HD.out.2.below hQlt ((LD _ _).alloc (Ls _) _)⟩
theorem KF {w : World} {b n c : Nat} {a : Option Addr} (h : w.cell? ⟨b, 5, none⟩ = some (.slice a n c)) (f : Nat) : (method (f + 1) 135 (.pointer (some ⟨b, 5, none⟩)) "Len").run Tryz.prog w = .ok (198, .slice a n c) w := by
 have : (method (f + 1) 135 (.pointer (some ⟨b, 5, none⟩)) "Len").run Tryz.prog w = (load ⟨b, 5, none⟩ >>= fun v => pure (198, v)).run Tryz.prog w := by kernel_rfl
 rw [this]; simp [go_sem, h]
theorem GX {w : World} {b n c : Nat} {a : Option Addr} (h : w.cell? ⟨b, 5, none⟩ = some (.slice a n c)) (f : Nat) : (method (f + 1) 135 (.pointer (some ⟨b, 5, none⟩)) "Less").run Tryz.prog w = .ok (199, .slice a n c) w := by
 have : (method (f + 1) 135 (.pointer (some ⟨b, 5, none⟩)) "Less").run Tryz.prog w = (load ⟨b, 5, none⟩ >>= fun v => pure (199, v)).run Tryz.prog w := by kernel_rfl
 rw [this]; simp [go_sem, h]
theorem GV {w : World} {b n c : Nat} {a : Option Addr} (h : w.cell? ⟨b, 5, none⟩ = some (.slice a n c)) (f : Nat) : (method (f + 1) 135 (.pointer (some ⟨b, 5, none⟩)) "Swap").run Tryz.prog w = .ok (200, .slice a n c) w := by
 have : (method (f + 1) 135 (.pointer (some ⟨b, 5, none⟩)) "Swap").run Tryz.prog w = (load ⟨b, 5, none⟩ >>= fun v => pure (200, v)).run Tryz.prog w := by kernel_rfl
 rw [this]; simp [go_sem, h]
theorem KE (w : World) (b f : Nat) : (nilAhead (f + 1) 135 (.pointer (some ⟨b, 5, none⟩)) "Len").run Tryz.prog w = .ok (some false) w := by kernel_rfl
theorem IQ (w : World) (b f : Nat) : (nilAhead (f + 1) 135 (.pointer (some ⟨b, 5, none⟩)) "Less").run Tryz.prog w = .ok (some false) w := by kernel_rfl
theorem GN (w : World) (b f : Nat) : (nilAhead (f + 1) 135 (.pointer (some ⟨b, 5, none⟩)) "Swap").run Tryz.prog w = .ok (some false) w := by kernel_rfl
theorem JJ (w : World) (b f : Nat) : (nilAhead (f + 1) 135 (.pointer (some ⟨b, 5, none⟩)) "Push").run Tryz.prog w = .ok (some false) w := by kernel_rfl
theorem JK (w : World) (b f : Nat) : (method (f + 1) 135 (.pointer (some ⟨b, 5, none⟩)) "Push").run Tryz.prog w = .ok (203, .pointer (some ⟨b, 5, none⟩)) w := by kernel_rfl
theorem KR (w : World) (b f : Nat) : (nilAhead (f + 1) 135 (.pointer (some ⟨b, 5, none⟩)) "Pop").run Tryz.prog w = .ok (some false) w := by kernel_rfl
theorem KT (w : World) (b f : Nat) : (method (f + 1) 135 (.pointer (some ⟨b, 5, none⟩)) "Pop").run Tryz.prog w = .ok (202, .pointer (some ⟨b, 5, none⟩)) w := by kernel_rfl
theorem rU.blk {W W' : World} {a : Nat → Nat} {K : Nat → Akn} {j : Nat} (h : rU W a K j) (hb : W'.heap[a j]? = W.heap[a j]?) : rU W' a K j := by
 have e : ∀ o, W'.cell? ⟨a j, o, none⟩ = W.cell? ⟨a j, o, none⟩ := fun o => by simp [World.cell?, hb]
 exact ⟨(e 0).trans h.c0, (e 1).trans h.c1, (e 3).trans h.c3⟩
theorem rU.lt {W : World} {a : Nat → Nat} {K : Nat → Akn} {j : Nat} (h : rU W a K j) : a j < W.heap.size := LC W _ h.c0
theorem rU.onl {W W' : World} {a : Nat → Nat} {K : Nat → Akn} {j g : Nat} (h : rU W a K j) (ho : Onl g W W') (hg : a j ≠ g) : rU W' a K j :=
 h.blk (World.grownBy.block ho _ h.lt (fun e => hg (by simpa using e)))
theorem QAt.onl {Q B g n c : Nat} {a : Nat → Nat} {w w' : World} {l l' : List Evn} (h : QAt Q B a w (.slice (some ⟨g, 0, none⟩) n c) l) (ho : Onl g w w') (hl : Own w' B 133 8 (fV a) (.slice (some ⟨g, 0, none⟩) n c) l') : QAt Q B a w' (.slice (some ⟨g, 0, none⟩) n c) l' := by
 obtain ⟨cs, T, h1, h2⟩ := h.blk; exact ⟨hl, h.off, ⟨cs, T, ho.block h1 (fun e => h.off _ _ _ rfl e.symm), h2⟩, Nat.le_trans h.base ho.size⟩
theorem nV {α : Type} [Inhabited α] {l : List α} {i : Nat} (h : i < l.length) : hat l i ∈ l := List.mem_of_getElem? (fA h)
theorem qW {α : Type} [Inhabited α] {l : List α} {i j : Nat} (hi : i < l.length) (hj : j < l.length) {x : α} (h : x ∈ hsw l i j) : x ∈ l := by
 unfold hsw at h; rcases List.mem_or_eq_of_mem_set h with h | rfl
 ·rcases List.mem_or_eq_of_mem_set h with h | rfl
  ·exact h
  ·exact nV hj
 ·exact nV hi
theorem EO {α : Type} [Inhabited α] (lt : α → α → Bool) (g : Nat) (l : List α) : hup lt g 0 l = l := by
 cases g <;> simp [hup]
theorem IY {α : Type} [Inhabited α] {lt : α → α → Bool} {g j m : Nat} {l : List α} (hm : m = (j - 1) / 2) (h : lt (hat l j) (hat l m) = false) : hup lt g j l = l := by
 subst hm; cases g with
 | zero => rfl
 | succ g =>
  unfold hup; split
  ·rfl
  ·rw [if_neg (by simp [h])]
theorem G6 {α : Type} [Inhabited α] {lt : α → α → Bool} {g j m : Nat} {l : List α} (hm : m = (j - 1) / 2) (hj : 0 < j) (h : lt (hat l j) (hat l m) = true) : hup lt (g + 1) j l = hup lt g m (hsw l m j) := by
 subst hm; show (if j = 0 then l else if lt (hat l j) (hat l ((j - 1) / 2)) = true then hup lt g ((j - 1) / 2) (hsw l ((j - 1) / 2) j) else l) = _
 rw [if_neg (by omega), if_pos h]
theorem IA (w : World) (Q B g n cap : Nat) (a : Nat → Nat) (K : Nat → Akn) (l : List Evn) (j0 : Nat) (h : QAt Q B a w (.slice (some ⟨g, 0, none⟩) n cap) l) (hn : n = l.length) (hl : l.length ≤ 1000000) (hj0 : j0 < l.length) (ha : ∀ e, e ∈ l → rU w a K e.ak ∧ a e.ak ≠ g) :
 Calls Tryz.prog 155 #[.iface 135 (.pointer (some ⟨Q, 5, none⟩)), .int .i64 j0] w fun r w' => r = .returned (.tuple #[]) ∧ QAt Q B a w' (.slice (some ⟨g, 0, none⟩) n cap) (hup (bfr K) (j0 + 1) j0 l) ∧ Onl g w w' := by
 obtain ⟨R, hR⟩ : ∃ R, R = hup (bfr K) (j0 + 1) j0 l := ⟨_, rfl⟩
 have HR := Lr hR; have HH := Lr h; have HA := Lr ha; have HO0 := Lr h.own; have HN := Lr hn; rw [← hR]; have hnl := IQ; have hns := GN; clear hR h ha hn
 go_enter Tryz.func155, Tryz.ntmps155
 go_wp2_with fail
 go_loopg [1, 4] (j0 + 1) (fun gg s1 s4 wr => ∃ (j q : Nat) (cur : List Evn), s1 = .int .i64 j ∧ j < q ∧ q ≤ gg ∧ cur.length = n ∧ j < n ∧ n ≤ 1000000 ∧ Aside (Own wr B 133 8 (fV a) (.slice (some ⟨g, 0, none⟩) n cap) cur) ∧ Aside (Onl g w wr) ∧ Aside (∀ e, e ∈ cur → e ∈ l) ∧ Aside (hup (bfr K) q j cur = R))
 case atStart => exact ⟨j0, j0 + 1, l, rfl, by omega, by omega, HN.out.symm, by have := HN.out; omega, by have := HN.out; omega, HO0.out, (show Aside _ from Onl.refl _ _), (show Aside _ from fun _ h => h), (show Aside _ from HR.out.symm)⟩
 case round =>
  obtain ⟨wq, rfl⟩ : ∃ wq : World, wq = wr := ⟨_, rfl⟩
  obtain ⟨j, q, cur, rfl, hjq, hqg, hcl, hjn, hn6, OW, ON, HM, HU⟩ := hrel; have HQ := Lr (HH.out.onl ON.out OW.out); have hON := Lr ON.out; have hOW := Lr OW.out; have hHM := Lr HM.out; have hHU := Lr HU.out; clear ON OW HM HU; by_cases hz : j = 0
  ·subst hz; have e1 : ((0 : Int) - 1).tdiv 2 = 0 := by decide
   have HF : Hid (cur = R) := Lr (by rw [← hHU.out, EO]); have HQF := Lr HQ.out; rw [HF.out] at HQF; clear hjq hqg HQ HF
   go_wp2
   go_end0
   exact ⟨rfl, HQF.out, hON.out⟩
  ·obtain ⟨m, hm⟩ : ∃ m, m = (j - 1) / 2 := ⟨_, rfl⟩
   obtain ⟨q, rfl⟩ : ∃ q', q = q' + 1 := ⟨q - 1, by omega⟩
   have e0 : (j : Int) - 1 = ((j - 1 : Nat) : Int) := by omega
   have e1 : ((j : Int) - 1).tdiv 2 = (m : Int) := by rw [Int.tdiv_eq_ediv_of_nonneg (by omega)]; omega
   have e2 : ((m : Int) == (j : Int)) = false := by rw [beq_eq_false_iff_ne]; omega
   have hmj : m < j := by omega
   have hml := Lr (GX HQ.out.cell.1); have hm1 := hml.out; have HLS := wZ wq B g cap a K cur j m (by rw [hcl]; exact hOW.out) (by omega) (by omega) (fun e he => (HA.out e (hHM.out e he)).1.onl hON.out (HA.out e (hHM.out e he)).2); rw [hcl] at HLS; have HLS := Lr HLS; have HM2 := Lr hm; clear hml hz e0 hm; cases hlt : bfr K (hat cur j) (hat cur m)
   case false =>
    rw [hlt] at HLS; have HF : Hid (cur = R) := Lr (by rw [← hHU.out, IY HM2.out hlt]); have HQF := Lr HQ.out; rw [HF.out] at HQF; clear hlt HF
    go_wp2_with fail
    refine HLS.out.mono ?_; rintro e w2 ⟨rfl, hb⟩; have HB := Lr hb; clear hb
    go_wp2_with fail
    go_end0
    exact ⟨rfl, HQF.out.below HB.out, hON.out.below HB.out⟩
   case true =>
    rw [hlt] at HLS; have HF : Hid (hup (bfr K) q m (hsw cur m j) = R) := Lr (by rw [← hHU.out, G6 HM2.out (by omega) hlt]); clear hlt
    go_wp2_with fail
    refine HLS.out.mono ?_; rintro e w2 ⟨rfl, hb⟩; have HQ2 := Lr (HQ.out.below hb); have HON2 := Lr (hON.out.below hb); have hm3 := GV HQ2.out.cell.1; have HSW := swap_any w2 B g cap a cur m j (by rw [hcl]; exact HQ2.out.own) (by omega) (by omega); rw [hcl] at HSW; have HSW := Lr HSW; clear hb hm1
    go_wp2_with fail
    refine HSW.out.mono ?_; rintro e w3 ⟨rfl, ho3, hn3⟩; have HO3 := Lr ho3; have HN3 := Lr (HON2.out.trans hn3); clear ho3 hn3 hm3
    go_wp2_with fail
    go_roundg q
    case measure => omega
    case rel => exact ⟨m, q, hsw cur m j, rfl, by omega, by omega, by rw [bg]; exact hcl, by omega, hn6, HO3.out, HN3.out, (show Aside _ from fun e he => hHM.out e (qW (by omega) (by omega) he)), HF.out⟩
theorem qX {α : Type} [Inhabited α] (lt : α → α → Bool) (n i : Nat) (l : List α) (h : 2 * i + 1 < n) : i < qj lt n i l ∧ qj lt n i l < n := by
 unfold qj; split
 ·rename_i h2; omega
 ·omega
theorem G9 {α : Type} [Inhabited α] {lt : α → α → Bool} {n g i : Nat} {l : List α} (h : n ≤ 2 * i + 1) : hdn lt n g i l = l := by
 cases g with
 | zero => rfl
 | succ g => unfold hdn; rw [if_pos h]
theorem IZ {α : Type} [Inhabited α] {lt : α → α → Bool} {n g i k : Nat} {l : List α} (hk : k = qj lt n i l) (h : lt (hat l k) (hat l i) = false) : hdn lt n g i l = l := by
 subst hk; cases g with
 | zero => rfl
 | succ g =>
  unfold hdn; split
  ·rfl
  ·rw [if_neg (by simp [h])]
theorem G8 {α : Type} [Inhabited α] {lt : α → α → Bool} {n g i k : Nat} {l : List α} (hk : k = qj lt n i l) (hn : 2 * i + 1 < n) (h : lt (hat l k) (hat l i) = true) : hdn lt n (g + 1) i l = hdn lt n g k (hsw l i k) := by
 subst hk; show (if n ≤ 2 * i + 1 then l else if lt (hat l (qj lt n i l)) (hat l i) = true then hdn lt n g (qj lt n i l) (hsw l i (qj lt n i l)) else l) = _
 rw [if_neg (by omega), if_pos h]
theorem Fa (w : World) (Q B g n cap : Nat) (a : Nat → Nat) (K : Nat → Akn) (l : List Evn) (N : Nat) (h : QAt Q B a w (.slice (some ⟨g, 0, none⟩) n cap) l) (hn : n = l.length) (hl : l.length ≤ 1000000) (hN : N ≤ n) (hn0 : 0 < n) (ha : ∀ e, e ∈ l → rU w a K e.ak ∧ a e.ak ≠ g) :
 Calls Tryz.prog 106 #[.iface 135 (.pointer (some ⟨Q, 5, none⟩)), .int .i64 0, .int .i64 N] w fun r w' => (∃ b, r = .returned (.bool b)) ∧ QAt Q B a w' (.slice (some ⟨g, 0, none⟩) n cap) (hdn (bfr K) N l.length 0 l) ∧ Onl g w w' := by
 obtain ⟨R, hR⟩ : ∃ R, R = hdn (bfr K) N l.length 0 l := ⟨_, rfl⟩
 have HR := Lr hR; have HH := Lr h; have HA := Lr ha; have HO0 := Lr h.own; have HNE := Lr hn; rw [← hR]; have hnl := IQ; have hns := GN; have hn6 : n ≤ 1000000 := by omega
 clear hR h ha hn hl
 go_enter Tryz.func106, Tryz.ntmps106
 go_wp2_with fail
 go_loopg [7, 8, 9, 10] (N + 1) (fun gg s7 s8 s9 s10 wr => ∃ (i q : Nat) (cur : List Evn), s7 = .int .i64 i ∧ i ≤ N ∧ N + 1 - i ≤ gg ∧ N ≤ q + i ∧ i < n ∧ cur.length = n ∧ Aside (Own wr B 133 8 (fV a) (.slice (some ⟨g, 0, none⟩) n cap) cur) ∧ Aside (Onl g w wr) ∧ Aside (∀ e, e ∈ cur → e ∈ l) ∧ Aside (hdn (bfr K) N q i cur = R))
 case atStart => exact ⟨0, l.length, l, rfl, by omega, by omega, by have := HNE.out; omega, hn0, HNE.out.symm, HO0.out, (show Aside _ from Onl.refl _ _), (show Aside _ from fun _ h => h), (show Aside _ from HR.out.symm)⟩
 case round =>
  obtain ⟨wq, rfl⟩ : ∃ wq : World, wq = wr := ⟨_, rfl⟩
  obtain ⟨i, q, cur, rfl, hiN, hgi, hqi, hin, hcl, OW, ON, HM, HU⟩ := hrel; have HQ := Lr (HH.out.onl ON.out OW.out); have hON := Lr ON.out; have hOW := Lr OW.out; have hHM := Lr HM.out; have hHU := Lr HU.out; clear ON OW HM HU; obtain ⟨j1, hj1⟩ : ∃ j, j = 2 * i + 1 := ⟨_, rfl⟩
  have e1 : 2 * (i : Int) + 1 = (j1 : Int) := by omega
  by_cases hz : N ≤ j1
  ·have hzz : (N : Int) ≤ (j1 : Int) := by omega
   have HF : Hid (cur = R) := Lr (by rw [← hHU.out, G9 (by omega)]); have HQF := Lr HQ.out; rw [HF.out] at HQF; clear HQ HF hz hj1
   go_wp2
   go_ret
   exact ⟨⟨_, rfl⟩, HQF.out, hON.out⟩
  ·have hzz : ¬ (N : Int) ≤ (j1 : Int) := by omega
   have hj10 : ¬ (j1 : Int) < 0 := by omega
   obtain ⟨q, rfl⟩ : ∃ q', q = q' + 1 := ⟨q - 1, by omega⟩
   obtain ⟨k, hk⟩ : ∃ k, k = qj (bfr K) N i cur := ⟨_, rfl⟩
   have hkb := qX (bfr K) N i cur (by omega); rw [← hk] at hkb; have hnl1 := Lr (fun (W : World) (hb : Below wq.heap.size wq W) (x y : Nat) (hx : x < n) (hy : y < n) => wZ W B g cap a K cur x y (by rw [hcl]; exact hOW.out.below hb (Ls _)) (by omega) (by omega) (fun e he => ((HA.out e (hHM.out e he)).1.onl hON.out (HA.out e (hHM.out e he)).2).below hb)); rw [hcl] at hnl1; have HK := Lr hk; have HJ1 := Lr hj1; have hcw : ∀ W : World, Below wq.heap.size wq W → QAt Q B a W (.slice (some ⟨g, 0, none⟩) n cap) cur := fun W hb => HQ.out.below hb
   have HCW := Lr hcw; have HKU : Hid (qj (bfr K) N i cur = if 2 * i + 2 < N ∧ bfr K (hat cur (2 * i + 2)) (hat cur (2 * i + 1)) = true then 2 * i + 2 else 2 * i + 1) := Lr rfl; clear hk hcw hj1; obtain ⟨tb, htb⟩ : ∃ tb, tb = (decide (2 * i + 2 < N) && bfr K (hat cur (2 * i + 2)) (hat cur (2 * i + 1))) := ⟨_, rfl⟩
   have HTB := Lr htb; have HKT : Hid (k = if tb = true then 2 * i + 2 else 2 * i + 1) := Lr (by
    rw [HK.out, HKU.out, htb]; by_cases h : 2 * i + 2 < N ∧ bfr K (hat cur (2 * i + 2)) (hat cur (2 * i + 1)) = true
    ·rw [if_pos h, if_pos (by simp [h.1, h.2])]
    ·rw [if_neg h, if_neg (by simpa using h)])
   obtain ⟨j2, hj2⟩ : ∃ j, j = 2 * i + 2 := ⟨_, rfl⟩
   have e2 : (j1 : Int) + 1 = (j2 : Int) := by have := HJ1.out; omega
   have hj2b : j2 ≤ 2000002 := by omega
   have HJ2 := Lr hj2; clear htb hj2
   go_upto_region 6 with (fail)
   go_cut [33] (fun s33 wc => s33 = .bool tb ∧ Aside (Below wq.heap.size wq wc))
   case first =>
    have hj2 := HJ2.out; have hj1 := HJ1.out; have hm1 := GX HQ.out.cell.1; by_cases h2 : j2 < N
    ·have h2z : (j2 : Int) < (N : Int) := by omega
     have HLS := Lr (hnl1.out wq (LD _ _) j2 j1 (by omega) (by omega)); have hv : Hid (bfr K (hat cur j2) (hat cur j1) = tb) := Lr (by rw [HTB.out, ← hj2, ← hj1]; simp [h2]); clear hj2 hj1 h2
     go_wp2_with fail
     refine HLS.out.mono ?_; rintro e w2 ⟨rfl, hb⟩; have HB := Lr hb; clear hb
     go_wp2_with fail
     go_meet
     exact ⟨by rw [← hv.out], HB.out⟩
    ·have h2z : ¬ (j2 : Int) < (N : Int) := by omega
     have hv : Hid (false = tb) := Lr (by rw [HTB.out, ← hj2]; simp [h2]); clear hj2 hj1 h2
     go_wp2_with fail
     go_meet
     exact ⟨by rw [← hv.out], (show Aside _ from LD _ _)⟩
   obtain ⟨rfl, HBC⟩ := hcut; obtain ⟨w2, rfl⟩ : ∃ w2, w2 = wc := ⟨_, rfl⟩
   go_upto_if 33 with (fail)
   go_cut [9] (fun s9 wc => s9 = .int .i64 k ∧ w2 = wc)
   case first =>
    cases tb
    case true =>
     have hv : Hid (k = j2) := Lr (by rw [HJ2.out]; exact HKT.out)
     go_wp2_with fail
     go_meet
     exact ⟨by rw [hv.out], rfl⟩
    case false =>
     have hv : Hid (k = j1) := Lr (by rw [HJ1.out]; exact HKT.out)
     go_wp2_with fail
     go_meet
     exact ⟨by rw [hv.out], rfl⟩
   obtain ⟨rfl, hw⟩ := hcut; subst hw; obtain ⟨hki, hkN⟩ := hkb; have hm2 := GX (HCW.out w2 HBC.out).cell.1; have HLS := Lr (hnl1.out w2 HBC.out k i (by omega) hin); cases hlt : bfr K (hat cur k) (hat cur i)
   case false =>
    rw [hlt] at HLS; have HF : Hid (cur = R) := Lr (by rw [← hHU.out, IZ HK.out hlt]); have HQF := Lr (HCW.out w2 HBC.out); rw [HF.out] at HQF; have HBC2 := Lr HBC.out; clear hlt HF HBC
    go_wp2_with fail
    refine HLS.out.mono ?_; rintro e w3 ⟨rfl, hb⟩; have HB := Lr hb; clear hb
    go_wp2_with fail
    go_ret
    exact ⟨⟨_, rfl⟩, HQF.out.below HB.out, hON.out.below (HBC2.out.bf HB.out)⟩
   case true =>
    rw [hlt] at HLS; have HF : Hid (hdn (bfr K) N q k (hsw cur i k) = R) := Lr (by rw [← hHU.out, G8 HK.out (by have := HJ1.out; omega) hlt]); have HBC2 := Lr HBC.out; clear hlt HBC
    go_wp2_with fail
    refine HLS.out.mono ?_; rintro e w3 ⟨rfl, hb⟩; have HQ3 := Lr (HCW.out w3 (HBC2.out.bf hb)); have HON3 := Lr (hON.out.below (HBC2.out.bf hb)); have hm3 := GV HQ3.out.cell.1; have HSW := swap_any w3 B g cap a cur i k (by rw [hcl]; exact HQ3.out.own) (by omega) (by omega); rw [hcl] at HSW; have HSW := Lr HSW; clear hb hm2
    go_wp2_with fail
    refine HSW.out.mono ?_; rintro e w4 ⟨rfl, ho4, hn4⟩; have HO4 := Lr ho4; have HN4 := Lr (HON3.out.trans hn4); clear ho4 hn4 hm3
    go_wp2_with fail
    go_roundg (N + 1 - k)
    case measure => omega
    case rel => exact ⟨k, q, hsw cur i k, rfl, by omega, by omega, by omega, by omega, by rw [bg]; exact hcl, HO4.out, HN4.out, (show Aside _ from fun e he => hHM.out e (qW (by omega) (by omega) he)), HF.out⟩
section
variable {α : Type} [Inhabited α]
theorem kX {l : List α} {i j k : Nat} (hi : i < l.length) (hj : j < l.length) : hat (hsw l i j) k = if k = j then hat l i else if k = i then hat l j else hat l k := by
 have e : ∀ (m : List α) (k : Nat), hat m k = (m[k]?).getD default := fun m k => by unfold hat; rw [Lt]
 rw [e]; unfold hsw; by_cases h1 : k = j
 ·subst h1; rw [if_pos rfl, List.getElem?_set_self (by simpa using hj)]
  rfl
 ·rw [if_neg h1, List.getElem?_set_ne (Ne.symm h1)]; by_cases h2 : k = i
  ·subst h2; rw [if_pos rfl, List.getElem?_set_self hi]
   rfl
  ·rw [if_neg h2, List.getElem?_set_ne (Ne.symm h2), ← e]
theorem I5 {l : List α} {i : Nat} (h : i < l.length) : hat l i = l[i] := by
 unfold hat; rw [Lt, Lu h]
 rfl
theorem jL {l : List α} {i : Nat} (hi : i < l.length) (x : α) : (hat l i :: l.set i x).Perm (x :: l) := by
 induction l generalizing i with
 | nil => simp at hi
 | cons a l ih =>
  cases i with
  | zero => simpa [hat] using List.Perm.swap x a l
  | succ i =>
   have h1 := ih (i := i) (by simpa using hi); have e : hat (a :: l) (i + 1) = hat l i := by simp [hat]
   rw [e, List.set_cons_succ]; exact (List.Perm.swap a (hat l i) _).trans ((h1.cons a).trans (List.Perm.swap x a l))
theorem qV {l : List α} {i j : Nat} (hi : i < l.length) (hj : j < l.length) : (hsw l i j).Perm l := by
 unfold hsw; have h1 := jL hi (hat l j); have h2 := jL (l := l.set i (hat l j)) (i := j) (by simpa using hj) (hat l i); have e : hat (l.set i (hat l j)) j = hat l j := by
  unfold hat; rw [Lt]; by_cases h : i = j
  ·subst h; rw [List.getElem?_set_self hi]; rfl
  ·rw [List.getElem?_set_ne h, ← Lt]
 rw [e] at h2; have h3 : ((l.set i (hat l j)).set j (hat l i)).Perm l := by
  have h4 := h2.trans h1; exact (List.perm_cons (hat l j)).1 h4
 exact h3
structure yx (lt : α → α → Bool) : Prop where
 tr : ∀ a b c, lt b a = false → lt c b = false → lt c a = false
 asy : ∀ a b, lt a b = true → lt b a = false
def jq (lt : α → α → Bool) (l : List α) : Prop := ∀ i, 0 < i → i < l.length → lt (hat l i) (hat l ((i - 1) / 2)) = false
variable {lt : α → α → Bool}
theorem xu : ∀ (g j : Nat) (l : List α), j < l.length → (hup lt g j l).Perm l
 | 0, _, _, _ => List.Perm.refl _
 | g + 1, j, l, h => by
  unfold hup; split
  ·exact List.Perm.refl _
  ·split
   ·have hm : (j - 1) / 2 < l.length := by omega
    exact (xu g _ _ (by rw [bg]; exact hm)).trans (qV hm h)
   ·exact List.Perm.refl _
theorem xw (o : yx lt) : ∀ (g j : Nat) (l : List α), j < l.length → j < g → (∀ i, 0 < i → i < l.length → i ≠ j → lt (hat l i) (hat l ((i - 1) / 2)) = false) → (∀ c, 0 < c → c < l.length → (c - 1) / 2 = j → 0 < j → lt (hat l c) (hat l ((j - 1) / 2)) = false) → jq lt (hup lt g j l)
 | 0, _, _, _, h, _, _ => by omega
 | g + 1, j, l, hj, hg, h1, h2 => by
  unfold hup; by_cases j0 : j = 0
  ·rw [if_pos j0]; exact fun i hi hl => h1 i hi hl (by omega)
  rw [if_neg j0]; have hm : (j - 1) / 2 < l.length := by omega
  cases hb : lt (hat l j) (hat l ((j - 1) / 2))
  ·rw [if_neg (by simp)]; intro i hi hl; by_cases e : i = j
   ·rw [e]; exact hb
   ·exact h1 i hi hl e
  rw [if_pos rfl]; have hs := fun k => kX (k := k) hm hj
  refine xw o g _ _ (by rw [bg]; exact hm) (by omega) (fun i hi hl hne => ?_) (fun c hc hl hp hm0 => ?_)
  ·rw [bg] at hl; rw [hs, hs]; by_cases e1 : i = j
   ·subst e1; rw [if_pos rfl, if_neg (by omega), if_pos rfl]; exact o.asy _ _ hb
   ·rw [if_neg e1, if_neg hne]; by_cases e2 : (i - 1) / 2 = j
    ·rw [if_pos e2]; exact h2 i hi hl e2 (by omega)
    ·rw [if_neg e2]; by_cases e3 : (i - 1) / 2 = (j - 1) / 2
     ·rw [if_pos e3]; have h3 := h1 i hi hl e1; rw [e3] at h3; exact o.tr _ _ _ (o.asy _ _ hb) h3
     ·rw [if_neg e3]; exact h1 i hi hl e1
  ·rw [bg] at hl; rw [hs, hs]; rw [if_neg (show ¬ ((j - 1) / 2 - 1) / 2 = j by omega), if_neg (show ¬ ((j - 1) / 2 - 1) / 2 = (j - 1) / 2 by omega)]; have h3 := h1 ((j - 1) / 2) hm0 hm (by omega); by_cases e1 : c = j
   ·rw [if_pos e1]; exact h3
   ·rw [if_neg e1, if_neg (by omega)]; have h4 := h1 c hc hl e1; rw [hp] at h4; exact o.tr _ _ _ h3 h4
theorem xB (n : Nat) : ∀ (g i : Nat) (l : List α), n ≤ l.length → (hdn lt n g i l).Perm l
 | 0, _, _, _ => List.Perm.refl _
 | g + 1, i, l, h => by
  unfold hdn; split
  ·exact List.Perm.refl _
  ·rename_i hn; split
   ·have hk := qX lt n i l (by omega); exact (xB n g _ _ (by rw [bg]; exact h)).trans (qV (by omega) (by omega))
   ·exact List.Perm.refl _
theorem xC (n : Nat) : ∀ (g i : Nat) (l : List α), n ≤ l.length → i < l.length → ∀ k, n ≤ k → k ≠ i → hat (hdn lt n g i l) k = hat l k
 | 0, _, _, _, _, _, _, _ => rfl
 | g + 1, i, l, h, hi, k, hk, hki => by
  unfold hdn; split
  ·rfl
  ·rename_i hn; split
   ·have hkd := qX lt n i l (by omega); rw [xC n g _ _ (by rw [bg]; exact h) (by rw [bg]; omega) k hk (by omega), kX hi (by omega), if_neg (by omega), if_neg hki]
   ·rfl
theorem qi (o : yx lt) (n i : Nat) (l : List α) {c : Nat} (hc : c < n) (hp : (c - 1) / 2 = i) (h0 : 0 < c) : lt (hat l c) (hat l (qj lt n i l)) = false := by
 unfold qj; have irr : ∀ a, lt a a = false := fun a => by
  cases h : lt a a
  ·rfl
  ·exact (o.asy _ _ h).symm.trans h ▸ rfl
 have h2 : c = 2 * i + 1 ∨ c = 2 * i + 2 := by omega
 split
 ·rename_i h; rcases h2 with e | e
  ·rw [e]; exact o.asy _ _ h.2
  ·rw [e]; exact irr _
 ·rename_i h; rcases h2 with e | e
  ·rw [e]; exact irr _
  ·rw [e]; cases hb : lt (hat l (2 * i + 2)) (hat l (2 * i + 1))
   ·rfl
   ·exact absurd ⟨by omega, hb⟩ h
theorem xE (o : yx lt) (n : Nat) : ∀ (g i : Nat) (l : List α), n ≤ l.length → i < l.length → n ≤ g + i → (∀ k, 0 < k → k < n → (k - 1) / 2 ≠ i → lt (hat l k) (hat l ((k - 1) / 2)) = false) → (∀ c, 0 < c → c < n → (c - 1) / 2 = i → 0 < i → lt (hat l c) (hat l ((i - 1) / 2)) = false) →
 ∀ k, 0 < k → k < n → lt (hat (hdn lt n g i l) k) (hat (hdn lt n g i l) ((k - 1) / 2)) = false
 | 0, i, l, h, hi, hg, h1, h2 => fun k hk hn => by
  show lt (hat l k) (hat l ((k - 1) / 2)) = false
  exact h1 k hk hn (by omega)
 | g + 1, i, l, h, hi, hg, h1, h2 => by
  intro k hk hn; unfold hdn; by_cases hle : n ≤ 2 * i + 1
  ·rw [if_pos hle]; exact h1 k hk hn (by omega)
  rw [if_neg hle]; have hkd := qX lt n i l (by omega); cases hb : lt (hat l (qj lt n i l)) (hat l i)
  ·rw [if_neg (by simp)]; by_cases e : (k - 1) / 2 = i
   ·rw [e]; exact o.tr _ _ _ hb (qi o n i l hn e hk)
   ·exact h1 k hk hn e
  rw [if_pos rfl]; have hs := fun k => kX (k := k) hi (show qj lt n i l < l.length by omega)
  have hkp : (qj lt n i l - 1) / 2 = i := by
   unfold qj; split <;> omega
  obtain ⟨q, hq⟩ : ∃ q, q = qj lt n i l := ⟨_, rfl⟩
  have hle2 := fun c (hc : c < n) (hp : (c - 1) / 2 = i) (h0 : 0 < c) => qi o n i l hc hp h0
  rw [← hq] at hkd hb hs hkp hle2 ⊢; refine xE o n g q _ (by rw [bg]; exact h) (by rw [bg]; omega) (by omega) (fun k hk hn hne => ?_) (fun c hc hcn hp h0 => ?_) k hk hn
  ·rw [hs, hs, if_neg hne]; by_cases e1 : k = q
   ·rw [if_pos e1, e1, hkp, if_pos rfl]; exact o.asy _ _ hb
   ·rw [if_neg e1]; by_cases e2 : k = i
    ·rw [if_pos e2, if_neg (by omega), e2]; exact h2 q (by omega) hkd.2 hkp (by omega)
    ·rw [if_neg e2]; by_cases e3 : (k - 1) / 2 = i
     ·rw [if_pos e3]; exact hle2 k hn e3 hk
     ·rw [if_neg e3]; exact h1 k hk hn e3
  ·rw [hs, hs, if_neg (by omega), if_neg (by omega), hkp, if_neg (by omega), if_pos rfl]; have h4 := h1 c hc hcn (by omega); rw [hp] at h4; exact h4
theorem kV (l : List α) (x : α) : (hpush lt l x).Perm (l ++ [x]) := xu _ _ _ (by simp)
theorem xG {l m : List α} {i : Nat} (h : i < l.length) : hat (l ++ m) i = hat l i := by
 unfold hat; rw [Lt, Lt, List.getElem?_append_left h]
theorem qh (o : yx lt) {l : List α} (h : jq lt l) (x : α) : jq lt (hpush lt l x) := by
 unfold hpush; refine xw o _ _ _ (by simp) (by omega) (fun i hi hl hne => ?_) (fun c hc hl hp _ => ?_)
 ·simp at hl
  rw [xG (by omega), xG (by omega)]; exact h i hi (by omega)
 ·simp at hl
  omega
theorem CP (o : yx lt) {l : List α} (h : jq lt l) : ∀ (i : Nat), i < l.length → lt (hat l i) (hat l 0) = false := by
 intro i
 induction i using Nat.strongRecOn with
 | _ i ih =>
  intro hi; by_cases h0 : i = 0
  ·subst h0; cases hb : lt (hat l 0) (hat l 0)
   ·rfl
   ·exact (o.asy _ _ hb).symm.trans hb ▸ rfl
  ·exact o.tr _ _ _ (ih ((i - 1) / 2) (by omega) (by omega)) (h i (by omega) hi)
theorem kW (o : yx lt) {l : List α} (h : jq lt l) {x : α} (hx : x ∈ l) : lt x (hat l 0) = false := by
 obtain ⟨i, hi, rfl⟩ := List.getElem_of_mem hx; rw [← I5 hi]; exact CP o h i hi
theorem nP (l : List α) : (dD lt l).length = l.length := by
 unfold dD; rw [vg, bg]
theorem xy {l : List α} (h : l ≠ []) : (hpop lt l).1 = hat l 0 := by
 have hl : 0 < l.length := List.length_pos_iff.2 h; unfold hpop dD; show hat _ _ = _
 by_cases h1 : l.length = 1
 ·have e : ∀ g i (m : List α), hdn lt 0 g i m = m := fun g i m => by
   cases g with
   | zero => rfl
   | succ g => unfold hdn; rw [if_pos (Nat.zero_le _)]
  rw [show l.length - 1 = 0 by omega, e, kX (by omega) (by omega), if_pos rfl]
 ·rw [xC _ _ _ _ (by rw [bg]; omega) (by rw [bg]; omega) _ (Ls _) (by omega), kX (by omega) (by omega), if_pos rfl]
theorem jT {l : List α} (h : l ≠ []) : ((hpop lt l).1 :: (hpop lt l).2).Perm l := by
 have hl : 0 < l.length := List.length_pos_iff.2 h; have h1 : (dD lt l).Perm l := by
  unfold dD; exact (xB _ _ _ _ (by rw [bg]; omega)).trans (qV (by omega) (by omega))
 have e : (dD lt l).take (l.length - 1) ++ [hat (dD lt l) (l.length - 1)] = dD lt l := by
  have h2 : (dD lt l)[l.length - 1]? = some (hat (dD lt l) (l.length - 1)) := fA (by rw [nP]; omega); have h3 := List.take_add_one (l := dD lt l) (i := l.length - 1); rw [h2] at h3; have h4 : List.take (l.length - 1 + 1) (dD lt l) = dD lt l := List.take_of_length_le (by rw [nP]; omega); rw [h4] at h3; exact h3.symm
 show (hat (dD lt l) (l.length - 1) :: (dD lt l).take (l.length - 1)).Perm l
 refine List.Perm.trans ?_ h1; have h5 : (dD lt l).Perm ((dD lt l).take (l.length - 1) ++ [hat (dD lt l) (l.length - 1)]) := by rw [e]
 exact (List.perm_append_comm (l₁ := [hat (dD lt l) (l.length - 1)])).trans h5.symm
theorem uj (o : yx lt) {l : List α} (h : jq lt l) (hne : l ≠ []) : jq lt (hpop lt l).2 := by
 have hl : 0 < l.length := List.length_pos_iff.2 hne; intro i hi hil; have hlen : ((hpop lt l).2).length = l.length - 1 := by
  show ((dD lt l).take (l.length - 1)).length = _
  rw [List.length_take, nP]; omega
 rw [hlen] at hil; have et : ∀ k, k < l.length - 1 → hat ((dD lt l).take (l.length - 1)) k = hat (dD lt l) k := fun k hk => by
  unfold hat; rw [Lt, Lt, List.getElem?_take, if_pos hk]
 show lt (hat ((dD lt l).take (l.length - 1)) i) (hat ((dD lt l).take (l.length - 1)) ((i - 1) / 2)) = false
 rw [et _ hil, et _ (by omega)]; unfold dD; have hs := fun k => kX (l := l) (i := 0) (j := l.length - 1) (k := k) (by omega) (by omega)
 refine xE o _ _ _ _ (by rw [bg]; omega) (by rw [bg]; omega) (by omega) (fun k hk hn hp => ?_) (fun c hc hcn hp h0 => absurd h0 (by omega)) i hi hil; rw [hs, hs, if_neg (by omega), if_neg (by omega), if_neg (by omega), if_neg hp]; exact h k hk (by omega)
end
theorem wY {α β : Type} (f : α → β) (t : β → β → Bool) (asy : ∀ x y, t x y = true → t y x = false) (tot : ∀ x y, t x y = false → t y x = false → x = y) (tr : ∀ x y z, t x y = true → t y z = true → t x z = true)
 {r s : α → α → Bool} (hr : yx r) (h1 : ∀ a b, f a ≠ f b → s a b = t (f a) (f b)) (h2 : ∀ a b, f a = f b → s a b = r a b) : yx s where
 asy a b h := by
  by_cases e : f a = f b
  ·rw [h2 _ _ e] at h; rw [h2 _ _ e.symm]; exact hr.asy _ _ h
  ·rw [h1 _ _ e] at h; rw [h1 _ _ (Ne.symm e)]; exact asy _ _ h
 tr a b c h g := by
  have key : ∀ x y : α, s x y = false → f x = f y ∨ t (f y) (f x) = true := fun x y h => by
   by_cases e : f x = f y
   ·exact .inl e
   ·rw [h1 _ _ e] at h
    right
    cases hb : t (f y) (f x)
    ·exact absurd (tot _ _ h hb) e
    ·rfl
  rcases key _ _ h with e1 | e1
  ·rcases key _ _ g with e2 | e2
   ·rw [h2 _ _ e1] at h; rw [h2 _ _ e2] at g; rw [h2 _ _ (e2.trans e1)]; exact hr.tr _ _ _ h g
   ·have h4 : f c ≠ f a := fun e => by
     rw [e, e1] at e2; exact Bool.noConfusion ((asy _ _ e2).symm.trans e2)
    rw [h1 _ _ h4, ← e1]; exact asy _ _ e2
  ·rcases key _ _ g with e2 | e2
   ·have h4 : f c ≠ f a := fun e => by
     rw [← e, e2] at e1; exact Bool.noConfusion ((asy _ _ e1).symm.trans e1)
    rw [h1 _ _ h4, e2]; exact asy _ _ e1
   ·have h3 := tr _ _ _ e1 e2; have h4 : f c ≠ f a := fun e => by
     rw [e] at h3; exact Bool.noConfusion ((asy _ _ h3).symm.trans h3)
    rw [h1 _ _ h4]; exact asy _ _ h3
theorem iL (K : Nat → Akn) : yx (bfr K) := by
 have o1 : yx (fun e o : Evn => decide (e.ak < o.ak)) := ⟨fun a b c h g => by simp at *; omega, fun a b h => by simp at *; omega⟩
 have o2 : yx (fun e o : Evn => if ((K e.ak).ke.toList == (K o.ak).ke.toList) = false then Op.bytesLess (K e.ak).ke.toList (K o.ak).ke.toList else decide (e.ak < o.ak)) :=
  wY (fun e : Evn => (K e.ak).ke.toList) (fun x y => decide (x < y)) (fun x y h => decide_eq_false (List.lt_asymm (of_decide_eq_true h))) (fun x y h g => List.le_antisymm (List.not_lt.1 (of_decide_eq_false g)) (List.not_lt.1 (of_decide_eq_false h)))
   (fun x y z h g => decide_eq_true (List.lt_trans (of_decide_eq_true h) (of_decide_eq_true g))) o1 (fun a b h => by rw [if_pos (by rw [beq_eq_false_iff_ne]; exact h), bytesLess_eq]) (fun a b h => if_neg (by simp [h]))
 have o3 : yx (fun e o : Evn => if (K e.ak).ca ≠ (K o.ak).ca then decide ((K e.ak).ca < (K o.ak).ca) else if ((K e.ak).ke.toList == (K o.ak).ke.toList) = false then Op.bytesLess (K e.ak).ke.toList (K o.ak).ke.toList else decide (e.ak < o.ak)) :=
  wY (fun e : Evn => (K e.ak).ca) (fun x y => decide (x < y)) (fun x y h => by simp at *; omega) (fun x y h g => by simp at *; omega) (fun x y z h g => by simp at *; omega) o2 (fun a b h => if_pos h) (fun a b h => if_neg (by simp [h]))
 have o4 : yx (fun e o : Evn => if e.bk ≠ o.bk then e.bk else if (K e.ak).ca ≠ (K o.ak).ca then decide ((K e.ak).ca < (K o.ak).ca) else if ((K e.ak).ke.toList == (K o.ak).ke.toList) = false then Op.bytesLess (K e.ak).ke.toList (K o.ak).ke.toList else decide (e.ak < o.ak)) :=
  wY (fun e : Evn => e.bk) (fun x y => x && !y) (fun x y h => by revert h; cases x <;> cases y <;> decide) (fun x y => by cases x <;> cases y <;> decide) (fun x y z => by cases x <;> cases y <;> cases z <;> decide) o3 (fun a b h => by rw [if_pos h]; revert h; cases a.bk <;> cases b.bk <;> decide) (fun a b h => if_neg (by simp [h]))
 exact wY (fun e : Evn => e.ti) (fun x y => decide (x < y)) (fun x y h => by simp at *; omega) (fun x y h g => by simp at *; omega) (fun x y z h g => by simp at *; omega) o4 (fun a b h => if_pos h) (fun a b h => if_neg (by simp [h]))
theorem Ib {K : Nat → Akn} {e o : Evn} (h : bfr K e o = false) (g : bfr K o e = false) : e.ti = o.ti ∧ e.bk = o.bk ∧ e.ak = o.ak := by
 unfold bfr at h g; by_cases h1 : e.ti = o.ti
 ·rw [if_neg (by simp [h1])] at h g; by_cases h2 : e.bk = o.bk
  ·rw [if_neg (by simp [h2])] at h g; by_cases h3 : (K e.ak).ca = (K o.ak).ca
   ·rw [if_neg (by simp [h3])] at h g; by_cases h4 : (K e.ak).ke.toList = (K o.ak).ke.toList
    ·rw [if_neg (by simp [h4])] at h g; simp at h g
     exact ⟨h1, h2, by omega⟩
    ·rw [if_pos (by rw [beq_eq_false_iff_ne]; exact h4), bytesLess_eq] at h; rw [if_pos (by rw [beq_eq_false_iff_ne]; exact Ne.symm h4), bytesLess_eq] at g; exact absurd (List.le_antisymm (List.not_lt.1 (of_decide_eq_false g)) (List.not_lt.1 (of_decide_eq_false h))) h4
   ·rw [if_pos h3] at h; rw [if_pos (Ne.symm h3)] at g; simp at h g
    exact absurd (by omega) h3
  ·rw [if_pos h2] at h; rw [if_pos (Ne.symm h2)] at g; rw [h, g] at h2; exact absurd rfl h2
 ·rw [if_pos h1] at h; rw [if_pos (Ne.symm h1)] at g; simp at h g
  exact absurd (by omega) h1
end Go.Proofs.YtgohddfnhofjhaaGreatDoor

/- Contracts of the library, laid by the shelf at this seat. -/
import Derived.Shelf.Small.Strs
import Derived.Shelf.Strings.Prefix
import Derived.Test.YtehbmnkbmgnkfaaGreatDoorProg
import Derived.Test.YtehbmnkbmgnkfaaGreatDoorB05
import Derived.Test.YtehbmnkbmgnkfaaGreatDoorB04
import Derived.Deep.RegionLaw
namespace Go.Proofs
open Go.Shelf
def Tryz.lays99_ren : Go.Shelf.Ren := ⟨fun | 99 => 47 | 206 => 76 | n => n, fun | 9 => 9 | 4 => 4 | 3 => 3 | n => n, fun | n => n⟩
theorem Tryz.lays99 : Go.Proofs.Lays.n99 Tryz.prog Tryz.lays99_ren := {
  mixed := by kernel_rfl
  f99 := Tryz.func47.trans (congrArg some (by kernel_rfl))
  f206 := Tryz.func76.trans (congrArg some (by kernel_rfl))
  t3 := Tryz.underlying3
  a3 := Tryz.isAgg3
  z3 := Tryz.sizeOf3
  v3 := Tryz.zeroValue3
  t4 := Tryz.underlying4
  a4 := Tryz.isAgg4
  z4 := Tryz.sizeOf4
  v4 := Tryz.zeroValue4
  t9 := Tryz.underlying9
  a9 := Tryz.isAgg9
  z9 := Tryz.sizeOf9
  v9 := Tryz.zeroValue9 }
open Go.RowKit Go.Lib in
/-- strings.HasPrefix: "HasPrefix reports whether the string s begins with prefix.": IT RETURNS 'Lib.hasPrefix s prefix'; the world is as it was. (LAID: no walk: one application.) -/
theorem Tryz.strings_HasPrefix (s p : ByteArray) (w : World) :
    Calls Tryz.prog 47 #[.string s, .string p] w fun e w' => e = .returned (.bool (Lib.hasPrefix s.data.toList p.data.toList)) ∧ w' = w := Any.strings_HasPrefix Tryz.lays99 s p w
end Go.Proofs

/- tidyPath: a path without parts that say nothing. -/
namespace Go.Proofs.YtehbmnkbmgnkfaaGreatDoor
open Go.RowKit Go.Lib

def encS (x : ByteArray) : List Value := [.string x]
theorem encS_len (x : ByteArray) : (encS x).length = 1 := rfl
theorem infoS : (Tryz.prog.info? 9).map (fun i => (i.zero, i.size, i.bytes)) = some (some (.string ⟨#[]⟩), 1, 16) := by kernel_rfl
theorem slS : SlT Tryz.prog 45 9 1 16 := by
  obtain ⟨i0, hi, hz0, hz1, hz2⟩ := info_parts infoS
  exact ⟨i0, _, Tryz.underlying45, hi, hz0, hz1, hz2, rfl, by decide, by decide⟩

theorem flatS (L : List ByteArray) : L.flatMap encS = L.map Value.string := by
  induction L with
  | nil => rfl
  | cons x r ih => rw [List.flatMap_cons, ih]; rfl

/-- A slice of the call's own, cut to its first n elements. -/
theorem Own.cut {α : Type} {w : World} {base : Nat} {E : TypeId} {k : Nat} {enc : α → List Value} {ao : Option Addr} {L cap : Nat} {l : List α} (hk : ∀ x, (enc x).length = k) (h : Own w base E k enc (.slice ao L cap) l) (n : Nat) (hn : n ≤ L) : Own w base E k enc (.slice ao n cap) (l.take n) := by
  obtain ⟨h1, h2⟩ := h
  rcases h2 with ⟨h2, h3⟩ | ⟨g, cap', cur, hv, hg, hh, hn', hm, hs, ht⟩
  · simp only [Value.slice.injEq] at h2
    obtain ⟨rfl, rfl, rfl⟩ := h2
    obtain rfl : n = 0 := by omega
    simp only [List.take_zero]
    exact Own.nil
  · simp only [Value.slice.injEq] at hv
    obtain ⟨rfl, rfl, rfl⟩ := hv
    have hl : (l.take n).length = n := by simp; omega
    refine ⟨by rw [flatMap_len hk, hl], .inr ⟨g, cap, cur, by rw [hl], hg, hh, by rw [hl]; omega, hm, hs, ?_⟩⟩
    rw [hl]
    have e : cur.toList.take (n * k) = (cur.toList.take (l.length * k)).take (n * k) := by
      rw [List.take_take]
      congr 1
      have := Nat.mul_le_mul_right k hn
      omega
    rw [e, ht]
    have : l.flatMap enc = (l.take n).flatMap enc ++ (l.drop n).flatMap enc := by rw [← List.flatMap_append, List.take_append_drop]
    rw [this, List.take_left' (by rw [flatMap_len hk, hl])]

end Go.Proofs.YtehbmnkbmgnkfaaGreatDoor

/- Push and Pop of events: the walks. -/
namespace Go.Proofs.YtehbmnkbmgnkfaaGreatDoor
open Go.RowKit

theorem infoEv : (Tryz.prog.info? 143).map (fun i => (i.zero, i.size, i.bytes)) = some (some (.agg #[.int .i64 0, .bool false, .pointer none, .int .i64 0, .int .i64 0, .int .i64 0, .bool false, .string ⟨#[]⟩]), 8, 72) := by kernel_rfl
theorem slEv : SlT Tryz.prog 76 143 8 72 := by
  obtain ⟨i0, hi, hz0, hz1, hz2⟩ := info_parts infoEv
  exact ⟨i0, _, Tryz.underlying76, hi, hz0, hz1, hz2, rfl, by decide, by decide⟩
/-- The queue v, at cell 5 of block Q, became v': what else was there is as it was. -/
structure QChg (Q : Nat) (w w' : World) (v v' : Value) : Prop where
  other : ∀ b, b < w.heap.size → b ≠ Q → offB b v → w'.heap[b]? = w.heap[b]? ∧ offB b v'
  off : offB Q v'
  own : ∀ cs T fr, w.heap[Q]? = some (.cells cs T fr) → w'.heap[Q]? = some (.cells (cs.setIfInBounds 5 v') T fr)
  size : w.heap.size ≤ w'.heap.size
  os : w'.os = w.os
  tape : w'.tape = w.tape
  output : w'.output = w.output
/-- The queue in memory. -/
structure QAt (Q B : Nat) (a : Nat → Nat) (w : World) (v : Value) (l : List Evn) : Prop where
  own : Own w B 143 8 (encE a) v l
  off : offB Q v
  blk : ∃ cs T, w.heap[Q]? = some (.cells cs T (0, 0)) ∧ cs[5]? = some v
  base : B ≤ w.heap.size
theorem QAt.cell {Q B : Nat} {a : Nat → Nat} {w : World} {v : Value} {l : List Evn} (h : QAt Q B a w v l) : w.cell? ⟨Q, 5, none⟩ = some v ∧ w.frozen? ⟨Q, 5, none⟩ = false := by
  obtain ⟨cs, T, h1, h2⟩ := h.blk
  exact ⟨(cell_of_block h1).trans h2, by simp [World.frozen?, h1]⟩
theorem QAt.lt {Q B : Nat} {a : Nat → Nat} {w : World} {v : Value} {l : List Evn} (h : QAt Q B a w v l) : Q < w.heap.size := by
  obtain ⟨cs, T, h1, h2⟩ := h.blk
  exact (Array.getElem?_eq_some_iff.1 h1).1
theorem assertEv (w : World) (x : Value) : (Instr.typeAssert (.iface 143 x) 20 143 false).run Tryz.prog w = .ok x w := by kernel_rfl
/-- What an append and the store of its result make of the queue. -/
theorem push_done {Q B : Nat} {a : Nat → Nat} {w W0 W5 W' : World} {v v5 : Value} {l l' : List Evn} (h : QAt Q B a w v l) (h0 : ∀ b, b < w.heap.size → W0.heap[b]? = w.heap[b]?) (hs0 : w.heap.size ≤ W0.heap.size) (ho0 : W0.os = w.os) (ht0 : W0.tape = w.tape) (hp0 : W0.output = w.output)
    (ho : Own W5 B 143 8 (encE a) v5 l') (hb : Below B W0 W5) (hk : KeepB W0 W5 v v5) (hW : W'.heap = (W5.setCell ⟨Q, 5, none⟩ v5).heap) (hWo : W'.os = W5.os) (hWt : W'.tape = W5.tape) (hWp : W'.output = W5.output) :
    QAt Q B a W' v5 l' ∧ QChg Q w W' v v5 := by
  have hQ := h.lt
  obtain ⟨cs, T, h1, h2⟩ := h.blk
  obtain ⟨k1, k2⟩ := hk Q (by omega) h.off
  have hq5 : W5.heap[Q]? = some (.cells cs T (0, 0)) := k1.trans ((h0 Q hQ).trans h1)
  have hs5 : w.heap.size ≤ W5.heap.size := Nat.le_trans hs0 hb.size
  have hset : ∀ b, b ≠ Q → W'.heap[b]? = W5.heap[b]? := fun b hb => by rw [hW]; exact Below.heap_setCell W5 ⟨Q, 5, none⟩ v5 b hb
  have hown' : ∀ cs T fr, W5.heap[Q]? = some (.cells cs T fr) → W'.heap[Q]? = some (.cells (cs.setIfInBounds 5 v5) T fr) := fun cs T fr hc => by
    rw [hW, setCell_eq_setRow W5 Q 5 cs T fr v5 hc]
    exact setRow_heap W5 Q cs _ T fr hc
  refine ⟨⟨?_, k2, ⟨cs.setIfInBounds 5 v5, T, hown' _ _ _ hq5, ?_⟩, ?_⟩, ⟨fun b hb hbQ hob => ?_, k2, fun cs T fr hc => ?_, ?_, ?_, ?_, ?_⟩⟩
  · obtain ⟨q1, q2⟩ := ho
    refine ⟨q1, ?_⟩
    rcases q2 with q2 | ⟨g, cap, cur, e1, e2, e3, r⟩
    · exact Or.inl q2
    · exact Or.inr ⟨g, cap, cur, e1, e2, (hset g (fun e => k2 _ _ _ e1 (by show g = Q; exact e))).trans e3, r⟩
  · have hlt : 5 < cs.size := (Array.getElem?_eq_some_iff.1 h2).1
    simp [hlt]
  · rw [hW]
    have := h.base
    simp
    omega
  · obtain ⟨m1, m2⟩ := hk b (by omega) hob
    exact ⟨(hset b hbQ).trans (m1.trans (h0 b hb)), m2⟩
  · exact hown' _ _ _ (k1.trans ((h0 Q hQ).trans hc))
  · rw [hW]; simp; omega
  · rw [hWo, hb.os, ho0]
  · rw [hWt, hb.tape, ht0]
  · rw [hWp, hb.output, hp0]
theorem q_after {Q B : Nat} {a : Nat → Nat} {w W0 W5 : World} {v v5 : Value} {l : List Evn} (h : QAt Q B a w v l) (h0 : ∀ b, b < w.heap.size → W0.heap[b]? = w.heap[b]?) (hs0 : w.heap.size ≤ W0.heap.size) (hk : KeepB W0 W5 v v5) :
    W5.cell? ⟨Q, 5, none⟩ = some v ∧ W5.frozen? ⟨Q, 5, none⟩ = false := by
  have hQ := h.lt
  obtain ⟨cs, T, h1, h2⟩ := h.blk
  have hq5 := (hk Q (by omega) h.off).1.trans ((h0 Q hQ).trans h1)
  exact ⟨(cell_of_block hq5).trans h2, by simp [World.frozen?, hq5]⟩
set_option maxRecDepth 100000 in
set_option maxHeartbeats 4000000 in
theorem evPush_any (w : World) (Q B : Nat) (a : Nat → Nat) (v : Value) (l : List Evn) (e : Evn) (h : QAt Q B a w v l) (hl : l.length ≤ 1000000) :
    Calls Tryz.prog 138 #[.pointer (some ⟨Q, 5, none⟩), .iface 143 (.agg (encE a e).toArray)] w fun r w' => r = .returned (.tuple #[]) ∧ ∃ v', QAt Q B a w' v' (l ++ [e]) ∧ QChg Q w w' v v' := by
  obtain ⟨c5, f5⟩ := h.cell
  have HQ := Lib.hid h
  have hQlt := h.lt
  obtain ⟨ao, n, cp, rfl⟩ := Own.slv (encE_len a) h.own
  have hsz := h.base
  clear h
  show Calls Tryz.prog 138 #[.pointer (some ⟨Q, 5, none⟩), .iface 143 (.agg #[.int .i64 e.ti, .bool e.bk, .pointer (some ⟨a e.ak, 0, none⟩), .int .i64 e.an.ve, .int .i64 e.an.bo, .int .i64 e.an.si, .bool e.an.no, .string e.an.fr])] w _
  go_enter Tryz.func138, Tryz.ntmps138
  have hta := assertEv
  have HO1 : Hid (Own (w.alloc (.cells #[.int .i64 e.ti, .bool e.bk, .pointer (some ⟨a e.ak, 0, none⟩), .int .i64 e.an.ve, .int .i64 e.an.bo, .int .i64 e.an.si, .bool e.an.no, .string e.an.fr] 143)).drew B 143 8 (encE a) (.slice ao n cp) l) := Lib.hid (HQ.out.own.al _).drew1
  have HA1 : Hid ((w.alloc (.cells #[.int .i64 e.ti, .bool e.bk, .pointer (some ⟨a e.ak, 0, none⟩), .int .i64 e.an.ve, .int .i64 e.an.bo, .int .i64 e.an.si, .bool e.an.no, .string e.an.fr] 143)).drew.heap[w.heap.size]? = some (.cells (encE a e).toArray 143 (0, 0))) := Lib.hid (block_new w _)
  have H00 : Hid (∀ b, b < w.heap.size → (w.alloc (.cells #[.int .i64 e.ti, .bool e.bk, .pointer (some ⟨a e.ak, 0, none⟩), .int .i64 e.an.ve, .int .i64 e.an.bo, .int .i64 e.an.si, .bool e.an.no, .string e.an.fr] 143)).drew.heap[b]? = w.heap[b]?) := Lib.hid (fun b hb => Below.heap_alloc w _ b hb)
  have HS0 : Hid (w.heap.size ≤ (w.alloc (.cells #[.int .i64 e.ti, .bool e.bk, .pointer (some ⟨a e.ak, 0, none⟩), .int .i64 e.an.ve, .int .i64 e.an.bo, .int .i64 e.an.si, .bool e.an.no, .string e.an.fr] 143)).drew.heap.size) := Lib.hid (by show w.heap.size ≤ (w.alloc _).heap.size; simp)
  have HN : Hid (l.length * 72 ≤ 140737488355328) := Lib.hid (by omega)
  go_region_law (first | (refine step_pushB (enc := encE a) (v := .slice ao n cp) (l := l) rfl _ _ 76 rfl slEv (by decide) rfl rfl e rfl rfl HO1.out HA1.out HN.out (Nat.le_trans hsz HS0.out) ?_; intro v5 w5 ho5 hb5 hk5; obtain ⟨g5, m5⟩ := q_after HQ.out H00.out HS0.out hk5; obtain ⟨ao5, n5, cp5, rfl⟩ := Own.slv (encE_len a) ho5; have HO5 := Lib.hid ho5; have HB5 := Lib.hid hb5; have HK5 := Lib.hid hk5; clear ho5 hb5 hk5) | fail)
  all_goals go_wp2
  all_goals go_end0
  all_goals exact ⟨rfl, _, push_done HQ.out H00.out HS0.out rfl rfl rfl HO5.out HB5.out HK5.out rfl rfl rfl rfl⟩
theorem QAt.below {Q B : Nat} {a : Nat → Nat} {w w' : World} {v : Value} {l : List Evn} (h : QAt Q B a w v l) (hb : Below w.heap.size w w') : QAt Q B a w' v l := by
  obtain ⟨cs, T, h1, h2⟩ := h.blk
  exact ⟨h.own.below hb (Nat.le_refl _), h.off, ⟨cs, T, (hb.block Q h.lt).trans h1, h2⟩, Nat.le_trans h.base hb.size⟩
theorem QChg.below {Q : Nat} {w w1 w2 : World} {v v' : Value} (h : QChg Q w w1 v v') (hQ : Q < w.heap.size) (hb : Below w1.heap.size w1 w2) : QChg Q w w2 v v' :=
  ⟨fun b h1 h2 h3 => ⟨(hb.block b (Nat.lt_of_lt_of_le h1 h.size)).trans (h.other b h1 h2 h3).1, (h.other b h1 h2 h3).2⟩, h.off, fun cs T fr hc => (hb.block Q (Nat.lt_of_lt_of_le hQ h.size)).trans (h.own cs T fr hc), Nat.le_trans h.size hb.size, hb.os.trans h.os, hb.tape.trans h.tape, hb.output.trans h.output⟩
theorem QChg.trans {Q : Nat} {w w1 w2 : World} {v v1 v2 : Value} (h : QChg Q w w1 v v1) (k : QChg Q w1 w2 v1 v2) : QChg Q w w2 v v2 where
  other b h1 h2 h3 := by
    obtain ⟨p1, p2⟩ := h.other b h1 h2 h3
    obtain ⟨q1, q2⟩ := k.other b (Nat.lt_of_lt_of_le h1 h.size) h2 p2
    exact ⟨q1.trans p1, q2⟩
  off := k.off
  own cs T fr hw := by
    have := k.own _ T fr (h.own cs T fr hw)
    rw [this]
    congr 2
    simp
  size := Nat.le_trans h.size k.size
  os := k.os.trans h.os
  tape := k.tape.trans h.tape
  output := k.output.trans h.output
set_option maxRecDepth 100000 in
set_option maxHeartbeats 4000000 in
theorem evPop_any (w : World) (Q B : Nat) (a : Nat → Nat) (v : Value) (l : List Evn) (h : QAt Q B a w v l) (hl : l.length ≤ 1000000) (h0 : 0 < l.length) :
    Calls Tryz.prog 137 #[.pointer (some ⟨Q, 5, none⟩)] w fun r w' => r = .returned (.iface 143 (.agg (encE a (hat l (l.length - 1))).toArray)) ∧ ∃ v', QAt Q B a w' v' (l.take (l.length - 1)) ∧ QChg Q w w' v v' := by
  obtain ⟨c5, f5⟩ := h.cell
  have HQ := Lib.hid h
  have hQlt := h.lt
  have hne : l ≠ [] := fun e => by rw [e] at h0; simp at h0
  obtain ⟨g, cap, rfl, hg1, hg2, hg3, hg4, -, -⟩ := Own.getk (encE_len a) h.own hne
  obtain ⟨k, hk⟩ : ∃ k, k = l.length - 1 := ⟨_, rfl⟩
  obtain ⟨e, he⟩ : ∃ e, e = hat l (l.length - 1) := ⟨_, rfl⟩
  have h1 : l[k]? = some e := by rw [he, hk]; exact hat_some (by omega)
  obtain ⟨d0, d1, d2, d3, d4, d5, d6, d7⟩ := ev_cells h.own h1
  have hkz : (l.length : Int) - 1 = (k : Int) := by omega
  have hkl : (k : Int) < (l.length : Int) := by omega
  have hkc : (k : Int) ≤ (cap : Int) := by omega
  have hsz := h.base
  rw [← he, ← hk]
  have HK := Lib.hid hk
  clear h hne h1 he hk
  unfold maxLen at hg4
  have HCUT : Hid (Own w B 143 8 (encE a) (.slice (some ⟨g, 0, none⟩) k cap) (l.take k)) := Lib.hid (Own.cut (encE_len a) HQ.out.own k (by omega))
  have HD := Lib.hid (push_done (W0 := w) (W5 := w) (W' := w.setCell ⟨Q, 5, none⟩ (.slice (some ⟨g, 0, none⟩) k cap)) HQ.out (fun _ _ => rfl) (Nat.le_refl _) rfl rfl rfl HCUT.out (Below.refl _ _) (fun b _ ho => ⟨rfl, offB.mk (ho _ _ _ rfl)⟩) rfl rfl rfl rfl)
  clear HCUT
  go_enter Tryz.func137, Tryz.ntmps137
  go_wp2
  go_ret
  exact ⟨rfl, _, HD.out.1.below ((Below.refl _ _).alloc (Nat.le_refl _) _), HD.out.2.below hQlt ((Below.refl _ _).alloc (Nat.le_refl _) _)⟩
end Go.Proofs.YtehbmnkbmgnkfaaGreatDoor

/- Len, Less, Swap of events: the walks. -/
import Derived.Test.YtehbmnkbmgnkfaaGreatDoorB03
import Derived.BigRegion
import Derived.Deep.RegionWith
import Derived.Test.YtehbmnkbmgnkfaaGreatDoorB01
import Derived.Lib.AppendZeros
import Derived.Test.YtehbmnkbmgnkfaaGreatDoorB02
namespace Go.Proofs.YtehbmnkbmgnkfaaGreatDoor
open Go.RowKit

theorem ev_cells {w : World} {B g n cap : Nat} {a : Nat → Nat} {l : List Evn} (h : Own w B 143 8 (encE a) (.slice (some ⟨g, 0, none⟩) n cap) l) {i : Nat} {e : Evn} (hi : l[i]? = some e) :
    w.cell? ⟨g, i * 8, none⟩ = some (.int .i64 e.ti) ∧ w.cell? ⟨g, i * 8 + 1, none⟩ = some (.bool e.bk) ∧ w.cell? ⟨g, i * 8 + 2, none⟩ = some (.pointer (some ⟨a e.ak, 0, none⟩)) ∧ w.cell? ⟨g, i * 8 + 3, none⟩ = some (.int .i64 e.an.ve) ∧ w.cell? ⟨g, i * 8 + 4, none⟩ = some (.int .i64 e.an.bo) ∧ w.cell? ⟨g, i * 8 + 5, none⟩ = some (.int .i64 e.an.si) ∧ w.cell? ⟨g, i * 8 + 6, none⟩ = some (.bool e.an.no) ∧ w.cell? ⟨g, i * 8 + 7, none⟩ = some (.string e.an.fr) := by
  obtain ⟨g', cap', hv, -, -, -, -, hc, -⟩ := Own.getk (encE_len a) h (fun e => by rw [e] at hi; simp at hi)
  simp only [Value.slice.injEq, Option.some.injEq, Addr.mk.injEq, and_true] at hv
  obtain ⟨rfl, -, -⟩ := hv
  exact ⟨hc i e 0 _ hi rfl, hc i e 1 _ hi rfl, hc i e 2 _ hi rfl, hc i e 3 _ hi rfl, hc i e 4 _ hi rfl, hc i e 5 _ hi rfl, hc i e 6 _ hi rfl, hc i e 7 _ hi rfl⟩
theorem len_any (w : World) (ao : Option Addr) (n cap : Nat) : Calls Tryz.prog 131 #[.slice ao n cap] w fun r w' => r = .returned (.int .i64 (n : Nat)) ∧ w = w' := by
  go_enter Tryz.func131, Tryz.ntmps131
  go_wp2
  go_ret
  exact ⟨rfl, rfl⟩
set_option maxRecDepth 100000 in
set_option maxHeartbeats 2000000 in
theorem less_any (w : World) (B g cap : Nat) (a : Nat → Nat) (K : Nat → Akn) (l : List Evn) (i k : Nat) (h : Own w B 143 8 (encE a) (.slice (some ⟨g, 0, none⟩) l.length cap) l) (hi : i < l.length) (hk : k < l.length) (ha : ∀ e, e ∈ l → AskR w a K e.ak) :
    Calls Tryz.prog 132 #[.slice (some ⟨g, 0, none⟩) l.length cap, .int .i64 i, .int .i64 k] w fun r w' => r = .returned (.bool (bfr K (hat l i) (hat l k))) ∧ Below w.heap.size w w' := by
  obtain ⟨e, he⟩ : ∃ e, e = hat l i := ⟨_, rfl⟩
  obtain ⟨o, ho⟩ : ∃ e, e = hat l k := ⟨_, rfl⟩
  have h1 : l[i]? = some e := by rw [he]; exact hat_some hi
  have h2 : l[k]? = some o := by rw [ho]; exact hat_some hk
  obtain ⟨c0, c1, c2, c3, c4, c5, c6, c7⟩ := ev_cells h h1
  obtain ⟨d0, d1, d2, d3, d4, d5, d6, d7⟩ := ev_cells h h2
  have HBF := Lib.hid (fun (W : World) (hb : Below w.heap.size w W) => before_any W a K e o ((ha e (List.mem_of_getElem? h1)).below hb) ((ha o (List.mem_of_getElem? h2)).below hb))
  have HB2 : Hid (∀ W : World, Below w.heap.size w W → Calls Tryz.prog 134 #[.agg #[.int .i64 e.ti, .bool e.bk, .pointer (some ⟨a e.ak, 0, none⟩), .int .i64 e.an.ve, .int .i64 e.an.bo, .int .i64 e.an.si, .bool e.an.no, .string e.an.fr], .agg #[.int .i64 o.ti, .bool o.bk, .pointer (some ⟨a o.ak, 0, none⟩), .int .i64 o.an.ve, .int .i64 o.an.bo, .int .i64 o.an.si, .bool o.an.no, .string o.an.fr]] W fun r w' => r = .returned (.bool (bfr K e o)) ∧ Below W.heap.size W w') := HBF
  have hiz : (i : Int) < (l.length : Int) := by omega
  have hkz : (k : Int) < (l.length : Int) := by omega
  rw [← he, ← ho]
  generalize bfr K e o = R at HB2 ⊢
  clear h ha he ho h1 h2 HBF
  have HQ : Below w.heap.size w w.drew := (Below.refl _ w).drew
  go_enter Tryz.func132, Tryz.ntmps132
  go_upto_region 1 with (fail)
  go_region_with
    (first | (go_at_call 134; (with_reducible refine (HB2.out _ HQ).mono ?_); rintro e w' ⟨rfl, hb⟩; have HB3 := Lib.hid (HQ.thru hb); clear hb) | fail)
  all_goals go_wp2
  all_goals go_ret
  all_goals exact ⟨rfl, HB3.out⟩
/-- An event is stored. -/
abbrev putE (w : World) (g o : Nat) (a : Nat → Nat) (y : Evn) : World :=
  (((((((w.setCell ⟨g, o, none⟩ (.int .i64 y.ti)).setCell ⟨g, o + 1, none⟩ (.bool y.bk)).setCell ⟨g, o + 2, none⟩ (.pointer (some ⟨a y.ak, 0, none⟩))).setCell ⟨g, o + 3, none⟩ (.int .i64 y.an.ve)).setCell ⟨g, o + 4, none⟩ (.int .i64 y.an.bo)).setCell ⟨g, o + 5, none⟩ (.int .i64 y.an.si)).setCell ⟨g, o + 6, none⟩ (.bool y.an.no)).setCell ⟨g, o + 7, none⟩ (.string y.an.fr)
theorem ownE_put {w : World} {B g n cap : Nat} {a : Nat → Nat} {l : List Evn} (h : Own w B 143 8 (encE a) (.slice (some ⟨g, 0, none⟩) n cap) l) (hn : n = l.length) {i : Nat} {x : Evn} (hi : l[i]? = some x) (y : Evn) :
    Own (putE w g (i * 8) a y) B 143 8 (encE a) (.slice (some ⟨g, 0, none⟩) n cap) (l.set i y) := by
  have st : ∀ {w : World} {l : List Evn} {x : Evn} (j : Nat) (u : Value) (z : Evn), Own w B 143 8 (encE a) (.slice (some ⟨g, 0, none⟩) n cap) l → n = l.length → l[i]? = some x → j < 8 → encE a z = (encE a x).set j u →
      Own (w.setCell ⟨g, i * 8 + j, none⟩ u) B 143 8 (encE a) (.slice (some ⟨g, 0, none⟩) n cap) (l.set i z) ∧ n = (l.set i z).length ∧ (l.set i z)[i]? = some z := fun {w l x} j u z h hn hi hj he =>
    ⟨Own.store (encE_len a) h hn hi hj he, by rw [List.length_set]; exact hn, by rw [List.getElem?_set_self (List.getElem?_eq_some_iff.1 hi).1]⟩
  obtain ⟨q0, n0, i0⟩ := st 0 (.int .i64 y.ti) { x with ti := y.ti } h hn hi (by decide) rfl
  obtain ⟨q1, n1, i1⟩ := st 1 (.bool y.bk) { x with ti := y.ti, bk := y.bk } q0 n0 i0 (by decide) rfl
  obtain ⟨q2, n2, i2⟩ := st 2 (.pointer (some ⟨a y.ak, 0, none⟩)) { x with ti := y.ti, bk := y.bk, ak := y.ak } q1 n1 i1 (by decide) rfl
  obtain ⟨q3, n3, i3⟩ := st 3 (.int .i64 y.an.ve) ⟨y.ti, y.bk, y.ak, { x.an with ve := y.an.ve }⟩ q2 n2 i2 (by decide) rfl
  obtain ⟨q4, n4, i4⟩ := st 4 (.int .i64 y.an.bo) ⟨y.ti, y.bk, y.ak, { x.an with ve := y.an.ve, bo := y.an.bo }⟩ q3 n3 i3 (by decide) rfl
  obtain ⟨q5, n5, i5⟩ := st 5 (.int .i64 y.an.si) ⟨y.ti, y.bk, y.ak, { x.an with ve := y.an.ve, bo := y.an.bo, si := y.an.si }⟩ q4 n4 i4 (by decide) rfl
  obtain ⟨q6, n6, i6⟩ := st 6 (.bool y.an.no) ⟨y.ti, y.bk, y.ak, { x.an with ve := y.an.ve, bo := y.an.bo, si := y.an.si, no := y.an.no }⟩ q5 n5 i5 (by decide) rfl
  obtain ⟨q7, -, -⟩ := st 7 (.string y.an.fr) y q6 n6 i6 (by decide) rfl
  simp only [List.set_set] at q7
  exact q7
theorem onl_putE (w : World) (g o : Nat) (a : Nat → Nat) (y : Evn) : Onl g w (putE w g o a y) :=
  (((((((Onl.set g w o _).trans (Onl.set g _ (o + 1) _)).trans (Onl.set g _ (o + 2) _)).trans (Onl.set g _ (o + 3) _)).trans (Onl.set g _ (o + 4) _)).trans (Onl.set g _ (o + 5) _)).trans (Onl.set g _ (o + 6) _)).trans (Onl.set g _ (o + 7) _)
set_option maxRecDepth 100000 in
set_option maxHeartbeats 4000000 in
theorem swap_any (w : World) (B g cap : Nat) (a : Nat → Nat) (l : List Evn) (i k : Nat) (h : Own w B 143 8 (encE a) (.slice (some ⟨g, 0, none⟩) l.length cap) l) (hi : i < l.length) (hk : k < l.length) :
    Calls Tryz.prog 133 #[.slice (some ⟨g, 0, none⟩) l.length cap, .int .i64 i, .int .i64 k] w fun r w' => r = .returned (.tuple #[]) ∧ Own w' B 143 8 (encE a) (.slice (some ⟨g, 0, none⟩) l.length cap) (hsw l i k) ∧ Onl g w w' := by
  obtain ⟨e, he⟩ : ∃ e, e = hat l i := ⟨_, rfl⟩
  obtain ⟨o, ho⟩ : ∃ e, e = hat l k := ⟨_, rfl⟩
  have h1 : l[i]? = some e := by rw [he]; exact hat_some hi
  have h2 : l[k]? = some o := by rw [ho]; exact hat_some hk
  obtain ⟨c0, c1, c2, c3, c4, c5, c6, c7⟩ := ev_cells h h1
  obtain ⟨d0, d1, d2, d3, d4, d5, d6, d7⟩ := ev_cells h h2
  have hf : ∀ j, w.frozen? ⟨g, j, none⟩ = false := by
    obtain ⟨g', cap', hv, -, -, -, -, -, hf⟩ := Own.getk (encE_len a) h (fun e => by rw [e] at hi; simp at hi)
    simp only [Value.slice.injEq, Option.some.injEq, Addr.mk.injEq, and_true] at hv
    obtain ⟨rfl, -, -⟩ := hv
    exact hf
  have hiz : (i : Int) < (l.length : Int) := by omega
  have hkz : (k : Int) < (l.length : Int) := by omega
  have HH := Lib.hid h
  clear h
  have HP := Lib.hid (ownE_put (ownE_put HH.out rfl h1 o) (by rw [List.length_set]) (i := k) (x := if i = k then o else o) (by
    by_cases e : i = k
    · subst e; rw [List.getElem?_set_self hi]; simp
    · rw [List.getElem?_set_ne e, h2]; simp) e)
  have HSW : Hid (hsw l i k = (l.set i o).set k e) := Lib.hid (by unfold hsw; rw [← he, ← ho])
  have HON := Lib.hid ((onl_putE w g (i * 8) a o).trans (onl_putE _ g (k * 8) a e))
  have HEO : Hid (i = k → e = o) := Lib.hid (fun h => by rw [he, ho, h])
  have HPD := Lib.hid HP.out.drew1
  have HND := Lib.hid (HON.out.trans (Onl.of_below (Below.refl _ _).drew))
  rw [← HSW.out] at HPD
  clear HH h1 h2 HP HON HSW he ho
  by_cases hik : i = k
  · have heo := HEO.out hik
    subst hik
    subst heo
    clear d0 d1 d2 d3 d4 d5 d6 d7 hkz HEO
    go_enter Tryz.func133, Tryz.ntmps133
    go_big_region
    go_end0
    exact ⟨rfl, HPD.out, HND.out⟩
  · have hki : ¬ k = i := fun e => hik e.symm
    have n1a : ¬ k * 8 + 1 = i * 8 := by omega
    have n1b : ¬ i * 8 + 1 = k * 8 := by omega
    have n1c : ¬ i * 8 = k * 8 + 1 := by omega
    have n1d : ¬ k * 8 = i * 8 + 1 := by omega
    have n2a : ¬ k * 8 + 2 = i * 8 := by omega
    have n2b : ¬ i * 8 + 2 = k * 8 := by omega
    have n2c : ¬ i * 8 = k * 8 + 2 := by omega
    have n2d : ¬ k * 8 = i * 8 + 2 := by omega
    have n3a : ¬ k * 8 + 3 = i * 8 := by omega
    have n3b : ¬ i * 8 + 3 = k * 8 := by omega
    have n3c : ¬ i * 8 = k * 8 + 3 := by omega
    have n3d : ¬ k * 8 = i * 8 + 3 := by omega
    have n4a : ¬ k * 8 + 4 = i * 8 := by omega
    have n4b : ¬ i * 8 + 4 = k * 8 := by omega
    have n4c : ¬ i * 8 = k * 8 + 4 := by omega
    have n4d : ¬ k * 8 = i * 8 + 4 := by omega
    have n5a : ¬ k * 8 + 5 = i * 8 := by omega
    have n5b : ¬ i * 8 + 5 = k * 8 := by omega
    have n5c : ¬ i * 8 = k * 8 + 5 := by omega
    have n5d : ¬ k * 8 = i * 8 + 5 := by omega
    have n6a : ¬ k * 8 + 6 = i * 8 := by omega
    have n6b : ¬ i * 8 + 6 = k * 8 := by omega
    have n6c : ¬ i * 8 = k * 8 + 6 := by omega
    have n6d : ¬ k * 8 = i * 8 + 6 := by omega
    have n7a : ¬ k * 8 + 7 = i * 8 := by omega
    have n7b : ¬ i * 8 + 7 = k * 8 := by omega
    have n7c : ¬ i * 8 = k * 8 + 7 := by omega
    have n7d : ¬ k * 8 = i * 8 + 7 := by omega
    go_enter Tryz.func133, Tryz.ntmps133
    go_big_region
    go_end0
    exact ⟨rfl, HPD.out, HND.out⟩
end Go.Proofs.YtehbmnkbmgnkfaaGreatDoor

/- append of one element onto a slice that the call has built: which blocks it keeps; up to the most that an array can take. -/
namespace Go.Proofs.YtehbmnkbmgnkfaaGreatDoor
open Go.RowKit

/-- Blocks in which a slice did not lie are as they were, and it does not come to lie in one. -/
def KeepB (w w' : World) (v v' : Value) : Prop := ∀ b, b < w.heap.size → offB b v → w'.heap[b]? = w.heap[b]? ∧ offB b v'
theorem KeepB.trans {a b c : World} {u v x : Value} (h : KeepB a b u v) (hs : a.heap.size ≤ b.heap.size) (k : KeepB b c v x) : KeepB a c u x := fun i hi ho => by
  obtain ⟨h1, h2⟩ := h i hi ho
  obtain ⟨k1, k2⟩ := k i (by omega) h2
  exact ⟨k1.trans h1, k2⟩
theorem KeepB.alloc (w : World) (o : Obj) (v : Value) : KeepB w (w.alloc o) v v := fun b hb ho => ⟨Below.heap_alloc w o b hb, ho⟩
theorem KeepB.same {w w' : World} {g o n n2 c c2 : Nat} {v' : Value} (h : KeepB w w' (.slice (some ⟨g, o, none⟩) n c) v') : KeepB w w' (.slice (some ⟨g, o, none⟩) n2 c2) v' := fun b hb ho => h b hb (offB.mk (ho _ _ _ rfl))
theorem offB_own {α : Type} {w : World} {base b : Nat} {E : TypeId} {k : Nat} {enc : α → List Value} {v : Value} {l : List α} (h : Own w base E k enc v l) (hb : offB b v) : some b ≠ v.ownBlock := by
  rcases h.2 with ⟨rfl, _⟩ | ⟨g, cap, cur, rfl, _⟩
  · simp [Value.ownBlock]
  · simp only [Value.ownBlock, ne_eq, Option.some.injEq]
    exact fun e => hb _ _ _ rfl e.symm
theorem run_push_keep {P : Program} (w : World) (base : Nat) (t ty e : TypeId) (i : TypeInfo) (z : Value) (size bytes : Nat) (ht : P.underlying t = some (.slice e)) (hi : P.info? e = some i) (hz : i.zero = some z)
    (hsize : i.size = size) (hby : i.bytes = bytes) (hzs : z.cells.size = size) (hb0 : 0 < bytes) (hb48 : bytes ≤ 281474976710656)
    (v : Value) (n : Nat) (xs : List Value) (hown : w.ownsRow base e size v n xs)
    (a : Addr) (news : List Value) (hl : news.length = size) (hnews : ∀ j u, news[j]? = some u → w.cell? (a.add j) = some u) (h1 : ∀ u ∈ news, u.oneCell' = true)
    (hbytes : n * bytes ≤ 140737488355328) (hbase : base ≤ w.heap.size) :
    ∃ v' w', (Builtin.append_ #[t, t] ty #[v, .slice (some a) 1 1]).run P w = .ok v' w' ∧ w'.ownsRow base e size v' (n + 1) (xs ++ news) ∧ w.grownBy w' v.ownBlock ∧ (∀ b, b < w.heap.size → offB b v → offB b v') := by
  subst hsize hby
  have hn : n ≤ 140737488355328 := Nat.le_trans (Nat.le_mul_of_pos_right _ hb0) hbytes
  have hl1 : news.length = 1 * i.size := by omega
  have hlen : (xs ++ news).length = (n + 1) * i.size := by rw [List.length_append, hown.1, hl, Nat.add_mul, Nat.one_mul]
  have h63 : n + 1 ≤ maxLen := by unfold maxLen; omega
  have grown : ∀ (old : Nat) (row : Option Nat) (ROW : Array Value), ROW = xs.toArray ++ news.toArray ++ Builtin.zeroCells z.cells (grownCap w (n + 1) old e - (n + 1)) →
      (w.drew.alloc (.cells ROW e)).ownsRow base e i.size (.slice (some ⟨w.heap.size, 0, none⟩) (n + 1) (grownCap w (n + 1) old e)) (n + 1) (xs ++ news) ∧ w.grownBy (w.drew.alloc (.cells ROW e)) row := by
    intro old row ROW hR
    have hge := grownCap_ge w (n + 1) old e
    have hcm : grownCap w (n + 1) old e ≤ maxLen := grownCap_le_maxLen w (n + 1) old e h63
    refine ⟨⟨hlen, .inr ⟨w.heap.size, _, ROW, rfl, hbase, heap_alloc_new w.drew _, hge, hcm, ?_, ?_⟩⟩, ⟨rfl, rfl, rfl, by simp, fun k hk _ => Below.heap_alloc w.drew _ k hk⟩⟩
    · rw [hR]
      simp only [Array.size_append, List.size_toArray, size_zeroCells, hzs, hown.1, hl1, ← Nat.add_mul]
      congr 1
      omega
    · rw [hR]
      simp only [Array.toList_append, List.append_assoc]
      rw [← List.append_assoc, ← hlen]
      exact List.take_left
  rcases hown.2 with ⟨rfl, rfl⟩ | ⟨g, cap, cur, rfl, hbg, hg, hnc, hcm, hcs, htake⟩
  · have hx : xs = [] := List.eq_nil_of_length_eq_zero (by simpa using hown.1)
    subst hx
    have hr := run_append_nil (P := P) w t ty e i z ht hi hz a 1 1 news hl1 hnews (by omega) (by omega) (by omega)
    obtain ⟨g1, g2⟩ := grown 0 (Value.ownBlock (.slice none 0 0)) _ rfl
    simp only [Nat.zero_add, List.nil_append, Array.empty_append] at g1 g2 ⊢
    exact ⟨_, _, hr, g1, g2, fun b hb _ => offB.mk (by omega)⟩
  · by_cases hroom : n + 1 ≤ cap
    · have hfit : n * i.size + news.length ≤ cur.size := by rw [hl1, hcs, ← Nat.add_mul]; exact Nat.mul_le_mul_right _ hroom
      have hr := run_append_room (P := P) w t ty e i ht hi g n cap cur hg a 1 1 news hl1 hnews h1 hroom hfit
      refine ⟨_, _, hr, ⟨hlen, .inr ⟨g, cap, _, rfl, hbg, setRow_heap w g cur _ e _ hg, hroom, hcm, ?_, ?_⟩⟩, ⟨rfl, rfl, rfl, by simp, fun k _ hk => setRow_other w g k _ (fun e => hk (by simp [Value.ownBlock, e]))⟩, fun b _ ho => offB.mk (ho _ _ _ rfl)⟩
      · simp only [List.size_toArray, List.length_append, List.length_take, List.length_drop, Array.length_toList]
        omega
      · rw [htake, ← hlen]
        exact List.take_left
    · obtain rfl : cap = n := by omega
      have holds : ∀ j u, xs[j]? = some u → w.cell? ((⟨g, 0, none⟩ : Addr).add j) = some u := hown.cells (g := g) rfl
      have hr := run_append_grow (P := P) w t ty e i z ht hi hz ⟨g, 0, none⟩ cap cap xs hown.1 holds a 1 1 news hl1 hnews (by omega) (by omega) (growslice_fits_succ hbytes hb48)
      obtain ⟨g1, g2⟩ := grown cap (Value.ownBlock (.slice (some ⟨g, 0, none⟩) cap cap)) _ rfl
      exact ⟨_, _, hr, g1, g2, fun b hb _ => offB.mk (by omega)⟩
/-- 's = append(s, y)', s a slice that the call has built, y in a literal. -/
theorem wpList_pushB {α : Type} {P : Program} {ops : Array Oper} {rest : List Oper} {o : Oper} {a : Act} {Q : Exit → Act → World → Prop} (hgd : o.guard = none) (s x : Operand) (t : TypeId)
    (ho : o.op = .call { callee := .builtin .append, args := #[s, x], argTypes := #[t, t] })
    {E : TypeId} {k bytes : Nat} (hT : SlT P t E k bytes) (hb48 : bytes ≤ 281474976710656) {enc : α → List Value} {base : Nat} {v : Value} {l : List α} {W : World} (hs : a.eval s = v)
    {A : Nat} (hx : a.eval x = .slice (some ⟨A, 0, none⟩) 1 1)
    (y : α) (hk : (enc y).length = k) (h1 : (enc y).all Value.oneCell' = true)
    (hown : Own W base E k enc v l) (hA : W.heap[A]? = some (.cells (enc y).toArray E (0, 0))) (hn : l.length * bytes ≤ 140737488355328) (hbase : base ≤ W.heap.size)
    (h : ∀ v' w', Own w' base E k enc v' (l ++ [y]) → Below base W w' → KeepB W w' v v' → wpList P ops Q rest (a.put o.dst v') w') : wpList P ops Q (o :: rest) a W := by
  obtain ⟨i, z, ht, hi, hz, hsize, hby, hzs, hsz, hb0⟩ := hT
  have hlen : l.length ≤ 140737488355328 := Nat.le_trans (Nat.le_mul_of_pos_right _ hb0) hn
  obtain ⟨v', w', hr, h2, h3, h4⟩ := run_push_keep (P := P) W base t o.type E i z k bytes ht hi hz hsize hby hzs hb0 hb48 v l.length (l.flatMap enc) hown ⟨A, 0, none⟩ (enc y) hk (fun j u hu => by
    rw [Addr.add_lit, Nat.zero_add, cell_of_block hA]
    simpa using hu) (fun u hu => List.all_eq_true.1 h1 u hu) hn hbase
  refine Lib.wpList_append_run W hgd s x t t ho v _ hs hx v' w' hr (h v' w' ?_ ?_ ?_)
  · unfold Own
    rw [List.flatMap_append, List.length_append, List.flatMap_singleton]
    exact h2
  · exact (Below.refl _ _).grown h3 hbase (fun k hk => (World.ownsRow.lt hown k hk).1)
  · exact fun b hb hob => ⟨h3.block b hb (offB_own hown hob), h4 b hb hob⟩
/-- The same as one step of a region that draws its order. -/
theorem step_pushB {α : Type} {P : Program} {ops : Array Oper} {o : Oper} {a : Act} {Q : Exit → Act → World → Prop} {K : Act → World → Prop} {X : Prop} (hgd : o.guard = none) (s x : Operand) (t : TypeId)
    (ho : o.op = .call { callee := .builtin .append, args := #[s, x], argTypes := #[t, t] })
    {E : TypeId} {k bytes : Nat} (hT : SlT P t E k bytes) (hb48 : bytes ≤ 281474976710656) {enc : α → List Value} {base : Nat} {v : Value} {l : List α} {W : World} (hs : a.eval s = v)
    {A : Nat} (hx : a.eval x = .slice (some ⟨A, 0, none⟩) 1 1)
    (y : α) (hk : (enc y).length = k) (h1 : (enc y).all Value.oneCell' = true)
    (hown : Own W base E k enc v l) (hA : W.heap[A]? = some (.cells (enc y).toArray E (0, 0))) (hn : l.length * bytes ≤ 140737488355328) (hbase : base ≤ W.heap.size)
    (h : ∀ v' w', Own w' base E k enc v' (l ++ [y]) → Below base W w' → KeepB W w' v v' → K (a.put o.dst v') w') :
    if Region.wanted o (yielded ops a.tmps) = true then Oper.wp P o a W K Q else X := by
  have hw : Region.wanted o (yielded ops a.tmps) = true := by simp [Region.wanted, hgd]
  rw [if_pos hw]
  obtain ⟨i, z, ht, hi, hz, hsize, hby, hzs, hsz, hb0⟩ := hT
  obtain ⟨v', w', hr, h2, h3, h4⟩ := run_push_keep (P := P) W base t o.type E i z k bytes ht hi hz hsize hby hzs hb0 hb48 v l.length (l.flatMap enc) hown ⟨A, 0, none⟩ (enc y) hk (fun j u hu => by
    rw [Addr.add_lit, Nat.zero_add, cell_of_block hA]
    simpa using hu) (fun u hu => List.all_eq_true.1 h1 u hu) hn hbase
  refine Lib.wp_append_run W s x t t ho v _ hs hx v' w' hr (h v' w' ?_ ?_ ?_)
  · unfold Own
    rw [List.flatMap_append, List.length_append, List.flatMap_singleton]
    exact h2
  · exact (Below.refl _ _).grown h3 hbase (fun k hk => (World.ownsRow.lt hown k hk).1)
  · exact fun b hb hob => ⟨h3.block b hb (offB_own hown hob), h4 b hb hob⟩
end Go.Proofs.YtehbmnkbmgnkfaaGreatDoor

/- Names: kit.IsName and the reference's isName, of chapter 5, answer nameB. -/
namespace Go.Proofs.YtehbmnkbmgnkfaaGreatDoor
open Go.RowKit

def letterI (n : Int) : Bool := decide (97 ≤ n) && decide (n ≤ 122)
def digitI (n : Int) : Bool := decide (48 ≤ n) && decide (n ≤ 57)
def okI (n : Int) : Bool := letterI n || digitI n || n == 45
/-- The byte at a place, as a number. -/
def chr (s : ByteArray) (i : Nat) : Int := (s[i]!.toNat : Int)
theorem chr_of {s : ByteArray} {i : Nat} (h : i < s.size) : ((s[i]'h).toNat : Int) = chr s i := by
  unfold chr
  rw [getElem!_pos s i h]
/-- Is it a name? -/
def nameB (s : ByteArray) : Bool := decide (0 < s.size) && decide (s.size ≤ 40) && letterI (chr s 0) && (List.range s.size).all fun i => okI (chr s i)

theorem nameB_no {s : ByteArray} {i : Nat} (h : i < s.size) (hi : okI (chr s i) = false) : nameB s = false := by
  unfold nameB
  have : ((List.range s.size).all fun i => okI (chr s i)) = false := by
    rw [List.all_eq_false]
    exact ⟨i, List.mem_range.2 h, by simp [hi]⟩
  simp [this]

theorem nameB_yes {s : ByteArray} (h0 : 0 < s.size) (h40 : s.size ≤ 40) (hl : letterI (chr s 0) = true) (h : ∀ i, i < s.size → okI (chr s i) = true) : nameB s = true := by
  unfold nameB
  have : ((List.range s.size).all fun i => okI (chr s i)) = true := List.all_eq_true.2 fun i hi => h i (List.mem_range.1 hi)
  simp [this, h0, h40, hl]

theorem letter_any (n : Int) (w : World) : Calls Tryz.prog 74 #[.int .u8 n] w fun e w' => e = .returned (.bool (letterI n)) ∧ w = w' := by
  by_cases h : 97 ≤ n
  · go_enter Tryz.func74, Tryz.ntmps74
    go_wp2
    go_ret
    exact ⟨ret_bool (by simp [letterI, h]), rfl⟩
  · have h' : decide (97 ≤ n) = false := by simp; omega
    go_enter Tryz.func74, Tryz.ntmps74
    go_wp2
    go_ret
    exact ⟨ret_bool (by simp [letterI, h']), rfl⟩

theorem digit_any (n : Int) (w : World) : Calls Tryz.prog 75 #[.int .u8 n] w fun e w' => e = .returned (.bool (digitI n)) ∧ w = w' := by
  by_cases h : 48 ≤ n
  · go_enter Tryz.func75, Tryz.ntmps75
    go_wp2
    go_ret
    exact ⟨ret_bool (by simp [digitI, h]), rfl⟩
  · have h' : decide (48 ≤ n) = false := by simp; omega
    go_enter Tryz.func75, Tryz.ntmps75
    go_wp2
    go_ret
    exact ⟨ret_bool (by simp [digitI, h']), rfl⟩

set_option maxHeartbeats 1000000 in
theorem isName_any (s : ByteArray) (w : World) (hs : s.size ≤ 9223372036854775807) :
    Calls Tryz.prog 46 #[.string s] w fun e w' => e = .returned (.bool (nameB s)) ∧ w = w' := by
  by_cases h0 : s.size = 0
  · have hv : Hid (false = nameB s) := Lib.hid (by simp [nameB, h0])
    have e0 : ((s.size : Int) == 0) = true := by simp [h0]
    clear h0
    go_enter Tryz.func46, Tryz.ntmps46
    go_wp2_with fail
    go_ret
    exact ⟨ret_bool hv.out, rfl⟩
  have e0 : ((s.size : Int) == 0) = false := by simp [h0]
  have hp : 0 < s.size := by omega
  by_cases h40 : 40 < s.size
  · have hv : Hid (false = nameB s) := Lib.hid (by simp [nameB]; omega)
    clear h0
    go_enter Tryz.func46, Tryz.ntmps46
    go_wp2_with fail
    go_ret
    exact ⟨ret_bool hv.out, rfl⟩
  have hc0 := chr_of hp
  cases hl : letterI (chr s 0)
  case false =>
    have hv : Hid (false = nameB s) := Lib.hid (by simp [nameB, hl])
    clear h0
    go_enter Tryz.func46, Tryz.ntmps46
    go_wp2_with (go_at_call 74; refine (letter_any _ _).mono ?_; rintro e w' ⟨rfl, rfl⟩)
    go_ret
    exact ⟨ret_bool hv.out, rfl⟩
  have HY := Lib.hid (nameB_yes hp (by omega) hl)
  have HN := Lib.hid (fun i h => @nameB_no s i h)
  clear h0
  go_enter Tryz.func46, Tryz.ntmps46
  go_wp2_with (go_at_call 74; refine (letter_any _ _).mono ?_; rintro e w' ⟨rfl, rfl⟩)
  clear hl hc0
  go_loop [20] (fun s20 => ∃ kk : Nat, kk ≤ s.size ∧ s20 = .int .i64 kk ∧ Aside (∀ j, j < kk → okI (chr s j) = true)) (fun i => s.size - (intOf i).toNat)
  case atStart => exact ⟨0, Nat.zero_le _, rfl, fun j hj => absurd hj (Nat.not_lt_zero _)⟩
  case round =>
    obtain ⟨kk, hkk, rfl, A⟩ := hrel
    by_cases hlt : kk < s.size
    · have hltz : (kk : Int) < (s.size : Int) := by omega
      have hc := chr_of hlt
      have hok : Hid (okI (chr s kk) = !(!letterI (chr s kk) && !digitI (chr s kk) && (chr s kk != 45))) := Lib.hid (by
        unfold okI
        cases letterI (chr s kk) <;> cases digitI (chr s kk) <;> simp [bne])
      go_upto_region 6 with (fail)
      go_cut [40] (fun s40 w2 => s40 = .bool (!letterI (chr s kk) && !digitI (chr s kk) && (chr s kk != 45)) ∧ w = w2)
      case first =>
        cases h1 : letterI (chr s kk) <;> cases h2 : digitI (chr s kk)
        all_goals
          go_wp2_with (first | (go_at_call 74; refine (letter_any _ _).mono ?_; rintro e w' ⟨rfl, rfl⟩) | (go_at_call 75; refine (digit_any _ _).mono ?_; rintro e w' ⟨rfl, rfl⟩))
          go_meet
          exact ⟨by simp [*], rfl⟩
      obtain ⟨rfl, rfl⟩ := hcut
      generalize hO : (!letterI (chr s kk) && !digitI (chr s kk) && (chr s kk != 45)) = O at hok
      have HO := Lib.hid hO
      clear hO
      cases O
      case true =>
        have hv : Hid (false = nameB s) := Lib.hid (HN.out kk hlt (by rw [hok.out]; rfl)).symm
        go_wp2
        go_ret
        exact ⟨ret_bool hv.out, rfl⟩
      case false =>
        go_wp2
        go_round
        case rel =>
          refine ⟨kk + 1, by omega, by go_num, (show Aside _ from fun j hj => ?_)⟩
          by_cases e : j = kk
          · rw [e, hok.out]; rfl
          · exact A.out j (by omega)
        case measure => simp [intOf]; omega
    · obtain rfl : kk = s.size := by omega
      have hv : Hid (true = nameB s) := Lib.hid (HY.out A.out).symm
      go_wp2
      go_ret
      exact ⟨ret_bool hv.out, rfl⟩

end Go.Proofs.YtehbmnkbmgnkfaaGreatDoor

/- append of one element onto a slice that the call has built: which blocks it keeps; up to the most that an array can take. -/
import Derived.Test.YthpjgongplffnaaNamL
import Derived.Test.YthpjgongplffnaaOnl
import Derived.Lib.AppendZeros
namespace Go.Proofs.Ythpjgongplffnaa
open Go.RowKit

/-- Blocks in which a slice did not lie are as they were, and it does not come to lie in one. -/
def KeepB (w w' : World) (v v' : Value) : Prop := ∀ b, b < w.heap.size → offB b v → w'.heap[b]? = w.heap[b]? ∧ offB b v'
theorem KeepB.trans {a b c : World} {u v x : Value} (h : KeepB a b u v) (hs : a.heap.size ≤ b.heap.size) (k : KeepB b c v x) : KeepB a c u x := fun i hi ho => by
  obtain ⟨h1, h2⟩ := h i hi ho
  obtain ⟨k1, k2⟩ := k i (by omega) h2
  exact ⟨k1.trans h1, k2⟩
theorem KeepB.alloc (w : World) (o : Obj) (v : Value) : KeepB w (w.alloc o) v v := fun b hb ho => ⟨Below.heap_alloc w o b hb, ho⟩
theorem KeepB.same {w w' : World} {g o n n2 c c2 : Nat} {v' : Value} (h : KeepB w w' (.slice (some ⟨g, o, none⟩) n c) v') : KeepB w w' (.slice (some ⟨g, o, none⟩) n2 c2) v' := fun b hb ho => h b hb (offB.mk (ho _ _ _ rfl))
theorem offB_own {α : Type} {w : World} {base b : Nat} {E : TypeId} {k : Nat} {enc : α → List Value} {v : Value} {l : List α} (h : Own w base E k enc v l) (hb : offB b v) : some b ≠ v.ownBlock := by
  rcases h.2 with ⟨rfl, _⟩ | ⟨g, cap, cur, rfl, _⟩
  · simp [Value.ownBlock]
  · simp only [Value.ownBlock, ne_eq, Option.some.injEq]
    exact fun e => hb _ _ _ rfl e.symm
theorem run_push_keep {P : Program} (w : World) (base : Nat) (t ty e : TypeId) (i : TypeInfo) (z : Value) (size bytes : Nat) (ht : P.underlying t = some (.slice e)) (hi : P.info? e = some i) (hz : i.zero = some z)
    (hsize : i.size = size) (hby : i.bytes = bytes) (hzs : z.cells.size = size) (hb0 : 0 < bytes) (hb48 : bytes ≤ 281474976710656)
    (v : Value) (n : Nat) (xs : List Value) (hown : w.ownsRow base e size v n xs)
    (a : Addr) (news : List Value) (hl : news.length = size) (hnews : ∀ j u, news[j]? = some u → w.cell? (a.add j) = some u) (h1 : ∀ u ∈ news, u.oneCell' = true)
    (hbytes : n * bytes ≤ 140737488355328) (hbase : base ≤ w.heap.size) :
    ∃ v' w', (Builtin.append_ #[t, t] ty #[v, .slice (some a) 1 1]).run P w = .ok v' w' ∧ w'.ownsRow base e size v' (n + 1) (xs ++ news) ∧ w.grownBy w' v.ownBlock ∧ (∀ b, b < w.heap.size → offB b v → offB b v') := by
  subst hsize hby
  have hn : n ≤ 140737488355328 := Nat.le_trans (Nat.le_mul_of_pos_right _ hb0) hbytes
  have hl1 : news.length = 1 * i.size := by omega
  have hlen : (xs ++ news).length = (n + 1) * i.size := by rw [List.length_append, hown.1, hl, Nat.add_mul, Nat.one_mul]
  have h63 : n + 1 ≤ maxLen := by unfold maxLen; omega
  have grown : ∀ (old : Nat) (row : Option Nat) (ROW : Array Value), ROW = xs.toArray ++ news.toArray ++ Builtin.zeroCells z.cells (grownCap w (n + 1) old e - (n + 1)) →
      (w.drew.alloc (.cells ROW e)).ownsRow base e i.size (.slice (some ⟨w.heap.size, 0, none⟩) (n + 1) (grownCap w (n + 1) old e)) (n + 1) (xs ++ news) ∧ w.grownBy (w.drew.alloc (.cells ROW e)) row := by
    intro old row ROW hR
    have hge := grownCap_ge w (n + 1) old e
    have hcm : grownCap w (n + 1) old e ≤ maxLen := grownCap_le_maxLen w (n + 1) old e h63
    refine ⟨⟨hlen, .inr ⟨w.heap.size, _, ROW, rfl, hbase, heap_alloc_new w.drew _, hge, hcm, ?_, ?_⟩⟩, ⟨rfl, rfl, rfl, by simp, fun k hk _ => Below.heap_alloc w.drew _ k hk⟩⟩
    · rw [hR]
      simp only [Array.size_append, List.size_toArray, size_zeroCells, hzs, hown.1, hl1, ← Nat.add_mul]
      congr 1
      omega
    · rw [hR]
      simp only [Array.toList_append, List.append_assoc]
      rw [← List.append_assoc, ← hlen]
      exact List.take_left
  rcases hown.2 with ⟨rfl, rfl⟩ | ⟨g, cap, cur, rfl, hbg, hg, hnc, hcm, hcs, htake⟩
  · have hx : xs = [] := List.eq_nil_of_length_eq_zero (by simpa using hown.1)
    subst hx
    have hr := run_append_nil (P := P) w t ty e i z ht hi hz a 1 1 news hl1 hnews (by omega) (by omega) (by omega)
    obtain ⟨g1, g2⟩ := grown 0 (Value.ownBlock (.slice none 0 0)) _ rfl
    simp only [Nat.zero_add, List.nil_append, Array.empty_append] at g1 g2 ⊢
    exact ⟨_, _, hr, g1, g2, fun b hb _ => offB.mk (by omega)⟩
  · by_cases hroom : n + 1 ≤ cap
    · have hfit : n * i.size + news.length ≤ cur.size := by rw [hl1, hcs, ← Nat.add_mul]; exact Nat.mul_le_mul_right _ hroom
      have hr := run_append_room (P := P) w t ty e i ht hi g n cap cur hg a 1 1 news hl1 hnews h1 hroom hfit
      refine ⟨_, _, hr, ⟨hlen, .inr ⟨g, cap, _, rfl, hbg, setRow_heap w g cur _ e _ hg, hroom, hcm, ?_, ?_⟩⟩, ⟨rfl, rfl, rfl, by simp, fun k _ hk => setRow_other w g k _ (fun e => hk (by simp [Value.ownBlock, e]))⟩, fun b _ ho => offB.mk (ho _ _ _ rfl)⟩
      · simp only [List.size_toArray, List.length_append, List.length_take, List.length_drop, Array.length_toList]
        omega
      · rw [htake, ← hlen]
        exact List.take_left
    · obtain rfl : cap = n := by omega
      have holds : ∀ j u, xs[j]? = some u → w.cell? ((⟨g, 0, none⟩ : Addr).add j) = some u := hown.cells (g := g) rfl
      have hr := run_append_grow (P := P) w t ty e i z ht hi hz ⟨g, 0, none⟩ cap cap xs hown.1 holds a 1 1 news hl1 hnews (by omega) (by omega) (growslice_fits_succ hbytes hb48)
      obtain ⟨g1, g2⟩ := grown cap (Value.ownBlock (.slice (some ⟨g, 0, none⟩) cap cap)) _ rfl
      exact ⟨_, _, hr, g1, g2, fun b hb _ => offB.mk (by omega)⟩
/-- 's = append(s, y)', s a slice that the call has built, y in a literal. -/
theorem wpList_pushB {α : Type} {P : Program} {ops : Array Oper} {rest : List Oper} {o : Oper} {a : Act} {Q : Exit → Act → World → Prop} (hgd : o.guard = none) (s x : Operand) (t : TypeId)
    (ho : o.op = .call { callee := .builtin .append, args := #[s, x], argTypes := #[t, t] })
    {E : TypeId} {k bytes : Nat} (hT : SlT P t E k bytes) (hb48 : bytes ≤ 281474976710656) {enc : α → List Value} {base : Nat} {v : Value} {l : List α} {W : World} (hs : a.eval s = v)
    {A : Nat} (hx : a.eval x = .slice (some ⟨A, 0, none⟩) 1 1)
    (y : α) (hk : (enc y).length = k) (h1 : (enc y).all Value.oneCell' = true)
    (hown : Own W base E k enc v l) (hA : W.heap[A]? = some (.cells (enc y).toArray E (0, 0))) (hn : l.length * bytes ≤ 140737488355328) (hbase : base ≤ W.heap.size)
    (h : ∀ v' w', Own w' base E k enc v' (l ++ [y]) → Below base W w' → KeepB W w' v v' → wpList P ops Q rest (a.put o.dst v') w') : wpList P ops Q (o :: rest) a W := by
  obtain ⟨i, z, ht, hi, hz, hsize, hby, hzs, hsz, hb0⟩ := hT
  have hlen : l.length ≤ 140737488355328 := Nat.le_trans (Nat.le_mul_of_pos_right _ hb0) hn
  obtain ⟨v', w', hr, h2, h3, h4⟩ := run_push_keep (P := P) W base t o.type E i z k bytes ht hi hz hsize hby hzs hb0 hb48 v l.length (l.flatMap enc) hown ⟨A, 0, none⟩ (enc y) hk (fun j u hu => by
    rw [Addr.add_lit, Nat.zero_add, cell_of_block hA]
    simpa using hu) (fun u hu => List.all_eq_true.1 h1 u hu) hn hbase
  refine Lib.wpList_append_run W hgd s x t t ho v _ hs hx v' w' hr (h v' w' ?_ ?_ ?_)
  · unfold Own
    rw [List.flatMap_append, List.length_append, List.flatMap_singleton]
    exact h2
  · exact (Below.refl _ _).grown h3 hbase (fun k hk => (World.ownsRow.lt hown k hk).1)
  · exact fun b hb hob => ⟨h3.block b hb (offB_own hown hob), h4 b hb hob⟩
/-- The same as one step of a region that draws its order. -/
theorem step_pushB {α : Type} {P : Program} {ops : Array Oper} {o : Oper} {a : Act} {Q : Exit → Act → World → Prop} {K : Act → World → Prop} {X : Prop} (hgd : o.guard = none) (s x : Operand) (t : TypeId)
    (ho : o.op = .call { callee := .builtin .append, args := #[s, x], argTypes := #[t, t] })
    {E : TypeId} {k bytes : Nat} (hT : SlT P t E k bytes) (hb48 : bytes ≤ 281474976710656) {enc : α → List Value} {base : Nat} {v : Value} {l : List α} {W : World} (hs : a.eval s = v)
    {A : Nat} (hx : a.eval x = .slice (some ⟨A, 0, none⟩) 1 1)
    (y : α) (hk : (enc y).length = k) (h1 : (enc y).all Value.oneCell' = true)
    (hown : Own W base E k enc v l) (hA : W.heap[A]? = some (.cells (enc y).toArray E (0, 0))) (hn : l.length * bytes ≤ 140737488355328) (hbase : base ≤ W.heap.size)
    (h : ∀ v' w', Own w' base E k enc v' (l ++ [y]) → Below base W w' → KeepB W w' v v' → K (a.put o.dst v') w') :
    if Region.wanted o (yielded ops a.tmps) = true then Oper.wp P o a W K Q else X := by
  have hw : Region.wanted o (yielded ops a.tmps) = true := by simp [Region.wanted, hgd]
  rw [if_pos hw]
  obtain ⟨i, z, ht, hi, hz, hsize, hby, hzs, hsz, hb0⟩ := hT
  obtain ⟨v', w', hr, h2, h3, h4⟩ := run_push_keep (P := P) W base t o.type E i z k bytes ht hi hz hsize hby hzs hb0 hb48 v l.length (l.flatMap enc) hown ⟨A, 0, none⟩ (enc y) hk (fun j u hu => by
    rw [Addr.add_lit, Nat.zero_add, cell_of_block hA]
    simpa using hu) (fun u hu => List.all_eq_true.1 h1 u hu) hn hbase
  refine Lib.wp_append_run W s x t t ho v _ hs hx v' w' hr (h v' w' ?_ ?_ ?_)
  · unfold Own
    rw [List.flatMap_append, List.length_append, List.flatMap_singleton]
    exact h2
  · exact (Below.refl _ _).grown h3 hbase (fun k hk => (World.ownsRow.lt hown k hk).1)
  · exact fun b hb hob => ⟨h3.block b hb (offB_own hown hob), h4 b hb hob⟩
end Go.Proofs.Ythpjgongplffnaa

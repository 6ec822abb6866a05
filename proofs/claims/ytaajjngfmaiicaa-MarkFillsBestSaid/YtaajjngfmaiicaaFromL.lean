/- Bounds of choices; append of an int in a region that draws its order. -/
import Derived.Test.YtaajjngfmaiicaaFillL
import Derived.Test.YtaajjngfmaiicaaStep
namespace Go.Proofs.Ytaajjngfmaiicaa
open Go.RowKit

theorem bitsL_len (bit : Nat → Bool) : ∀ n, (bitsL bit n).length ≤ n
  | 0 => by simp [bitsL]
  | n + 1 => by
    have := bitsL_len bit n
    unfold bitsL
    split
    · simp; omega
    · omega
theorem okL.cnt {l : List Adv} {m : Int} {L : List Int} (h : okL l m L) : L.length ≤ l.length := by
  obtain ⟨s, _, rfl⟩ := bits_all l.length L h.rng h.inc
  exact bitsL_len _ _
theorem sel_bd {f : Int → Int} {C : Int} : ∀ {L : List Int}, (∀ k, k ∈ L → 0 ≤ f k ∧ f k ≤ C) → 0 ≤ (L.map f).sum ∧ (L.map f).sum ≤ L.length * C
  | [], _ => by simp
  | k :: r, h => by
    have h1 := h k (by simp)
    have h2 := sel_bd (f := f) (C := C) (L := r) fun j hj => h j (by simp [hj])
    simp only [List.map_cons, List.sum_cons, List.length_cons, Int.natCast_add, Int.add_mul]
    omega
/-- The bounds of advertisements that have no fault. -/
def AdsOk (l : List Adv) : Prop := l.length ≤ 16 ∧ ∀ x, x ∈ l → (1 ≤ x.ln ∧ x.ln ≤ 1000000000000000) ∧ (0 ≤ x.va ∧ x.va ≤ 1000000000)
theorem adAt_of {l : List Adv} {k : Int} (h : 0 ≤ k ∧ k < l.length) : adAt l k ∈ l := by
  unfold adAt
  rw [getD_of (List.getElem?_eq_getElem (by omega : k.toNat < l.length))]
  exact List.getElem_mem _
theorem okL.bdV {l : List Adv} {m : Int} {L : List Int} (h : okL l m L) (ha : AdsOk l) : 0 ≤ selV l L ∧ selV l L ≤ 16000000000 := by
  have h1 := sel_bd (f := fun k => (adAt l k).va) (C := 1000000000) (L := L) fun k hk => (ha.2 _ (adAt_of (h.rng k hk))).2
  have h2 := h.cnt
  have h3 := ha.1
  unfold selV
  omega
theorem okL.bdL {l : List Adv} {m : Int} {L : List Int} (h : okL l m L) (ha : AdsOk l) : 0 ≤ selL l L :=
  sum_nonneg fun k hk => by have := (ha.2 _ (adAt_of (h.rng k hk))).1; omega

theorem cell_new1 (w : World) (v : Value) (E : TypeId) (fr : Nat × Nat) : (w.alloc (.cells #[v] E fr)).cell? ⟨w.heap.size, 0, none⟩ = some v := by rw [World.cell?_alloc_mark]; rfl
theorem lt_alloc (w : World) (o : Obj) : w.heap.size < (w.alloc o).heap.size := by simp
theorem le_alloc {w : World} {b : Nat} (o : Obj) (h : b ≤ w.heap.size) : b ≤ (w.alloc o).heap.size := Nat.le_trans h (Nat.le_of_lt (lt_alloc w o))
theorem add0 (A : Nat) : (⟨A, 0, none⟩ : Addr).add 0 = ⟨A, 0, none⟩ := by unfold Addr.add; split <;> simp_all
/-- append of one int that lies somewhere, as one step of a region that draws its order. -/
theorem step_int {P : Program} {ops : Array Oper} {o : Oper} {a : Act} {Q : Exit → Act → World → Prop} {K : Act → World → Prop} {X : Prop} (hgd : o.guard = none) (s x : Operand) (t : TypeId)
    (ho : o.op = .call { callee := .builtin .append, args := #[s, x], argTypes := #[t, t] })
    {E : TypeId} (hT : SlT P t E 1 8) {base : Nat} {v : Value} {l : List Int} {W : World} (hs : a.eval s = v)
    {A : Nat} {y : Int} (hx : a.eval x = .slice (some ⟨A, 0, none⟩) 1 1) (hc : W.cell? ⟨A, 0, none⟩ = some (.int .i64 y))
    (hown : Own W base E 1 encI v l) (hn : (l.length + 1) * 8 ≤ 140737488355328) (hbase : base ≤ W.heap.size)
    (h : ∀ v' w', Own w' base E 1 encI v' (l ++ [y]) → Below base W w' → K (a.put o.dst v') w') :
    if Region.wanted o (yielded ops a.tmps) = true then Oper.wp P o a W K Q else X := by
  have hw : Region.wanted o (yielded ops a.tmps) = true := by simp [Region.wanted, hgd]
  rw [if_pos hw]
  obtain ⟨i, z, ht, hi, hz, hsize, hby, hzs, hsz, hb0⟩ := hT
  refine wp_append_own _ s x t ho base E i z 1 8 ht hi hz hsize hby hzs hsz v l.length (l.flatMap encI) hs hown ⟨A, 0, none⟩ 1 1 [.int .i64 y] hx (by simp)
    (fun j u hu => ?_) (fun u hu => by simp at hu; subst hu; rfl) (by unfold maxLen; omega) hn hbase (fun v' w' h2 h3 _ => h v' w' ?_ ?_)
  · match j with
    | 0 => simp at hu; subst hu; rw [add0]; exact hc
    | j + 1 => simp at hu
  · unfold Own
    rw [List.flatMap_append, List.length_append, List.flatMap_singleton]
    exact h2
  · exact (Below.refl _ _).grown h3 hbase (fun k hk => (World.ownsRow.lt hown k hk).1)

end Go.Proofs.Ytaajjngfmaiicaa

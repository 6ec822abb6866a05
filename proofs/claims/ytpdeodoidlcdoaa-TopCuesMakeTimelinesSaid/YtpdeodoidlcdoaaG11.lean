/- What the recursion over choices keeps; its predicate on rivals. -/
import Derived.Test.YtpdeodoidlcdoaaG06
import Derived.Test.YtpdeodoidlcdoaaG10
import Derived.Test.YtpdeodoidlcdoaaG04
import Derived.Test.YtpdeodoidlcdoaaG05
namespace Go.Proofs.Ytpdeodoidlcdoaa
open Go.RowKit

/-- The filler's block: advertisements, the room, the best choice so far. -/
def FillAt (W : World) (P : Nat) (va : Value) (m : Int) (l : List Adv) (B : List Int) : Prop :=
  ∃ vb, W.heap[P]? = some (.cells #[va, .int .i64 m, .int .i64 (selV l B), .int .i64 (selL l B), vb] 86 (0, 0)) ∧ Sl W 1 encI vb B ∧ offB P vb
theorem FillAt.below {W W' : World} {P : Nat} {va : Value} {m : Int} {l : List Adv} {B : List Int} (h : FillAt W P va m l B) (hb : Below W.heap.size W W') : FillAt W' P va m l B := by
  obtain ⟨vb, h1, h2, h3⟩ := h
  exact ⟨vb, (hb.block P (lt_of_blk h1)).trans h1, h2.below hb (Nat.le_refl _), h3⟩
theorem FillAt.lt {W : World} {P : Nat} {va : Value} {m : Int} {l : List Adv} {B : List Int} (h : FillAt W P va m l B) : P < W.heap.size := by
  obtain ⟨vb, h1, _⟩ := h
  exact lt_of_blk h1

def rivE (l : List Adv) (a b : Int) : Bool := (adAt l a).ri.toList == (adAt l b).ri.toList
theorem riv_any (l : List Adv) (L : List Int) (b : Int) : (L.any fun j => riv l j b) = (!(adAt l b).ri.toList.isEmpty && L.any fun j => rivE l j b) := by
  unfold riv rivE
  cases h : (adAt l b).ri.toList.isEmpty
  · simp
  · simp

set_option maxHeartbeats 1000000 in
/-- The closure: is the advertisement with a number of the rival in the box? -/
theorem rivC_any (W : World) (P b0 b1 : Nat) (va : Value) (m : Int) (l : List Adv) (B : List Int) (x : Adv) (k : Int) (hk : 0 ≤ k ∧ k < l.length) (hva : Sl W 4 encA va l) (hf : FillAt W P va m l B)
    (h0 : W.heap[b0]? = some (.cells #[.pointer (some ⟨P, 0, none⟩)] 82 (0, 0))) (h1 : W.heap[b1]? = some (.cells #[.string x.na, .int .i64 x.ln, .int .i64 x.va, .string x.ri] 47 (0, 0))) :
    Calls Try.prog 46 #[.int .i64 k, .pointer (some ⟨b0, 0, none⟩), .pointer (some ⟨b1, 0, none⟩)] W fun e w' => e = .returned (.bool ((adAt l k).ri.toList == x.ri.toList)) ∧ Below W.heap.size W w' := by
  obtain ⟨vb, hf, _, _⟩ := hf
  obtain ⟨ao, cap, rfl, hcap, hmax, hnil, hel⟩ := hva
  unfold maxLen at hmax
  obtain ⟨n, rfl⟩ := Int.eq_ofNat_of_zero_le hk.1
  obtain ⟨_, hk⟩ := hk
  have hn : n < l.length := by omega
  obtain ⟨y, hy⟩ : ∃ y, l[n]? = some y := ⟨l[n], by simp [hn]⟩
  obtain ⟨b, off, rfl, hc⟩ := hel n y hy
  have c3 : W.cell? ⟨b, off + n * 4 + 3, none⟩ = _ := hc 3 _ rfl
  have g0 := (cell_of_block (i := 0) h0).trans rfl
  have g1 := (cell_of_block (i := 3) h1).trans rfl
  have g2 := (cell_of_block (i := 0) hf).trans rfl
  have hv : Hid ((adAt l (n : Int)).ri.toList = y.ri.toList) := Lib.hid (by unfold adAt; rw [Int.toNat_natCast, getD_of hy])
  generalize adAt l (n : Int) = z at hv ⊢
  clear hf h0 h1 hel hc hy hn
  go_enter Try.func46, Try.ntmps46
  go_wp2
  go_quiet (fail)
  go_wp2
  go_ret
  exact ⟨ret_bool (by rw [hv.out]), below_drewN (Below.refl _ _) _⟩
end Go.Proofs.Ytpdeodoidlcdoaa

/- append of a slice in a guarded place. -/
namespace Go.Proofs.Ytpdeodoidlcdoaa
open Go.RowKit

/-- append in a guarded place. -/
theorem wpList_extendG {α : Type} {P : Program} {ops : Array Oper} {rest : List Oper} {o : Oper} {a : Act} {Q : Exit → Act → World → Prop} (hgd : Region.wanted o (yielded ops a.tmps) = true) (s x : Operand) (t : TypeId)
    (ho : o.op = .call { callee := .builtin .append, args := #[s, x], argTypes := #[t, t] })
    {E : TypeId} {k bytes : Nat} (hT : SlT P t E k bytes) {enc : α → List Value} (hk : ∀ x, (enc x).length = k) (h1 : ∀ y, (enc y).all Value.oneCell' = true) {base : Nat} {v u : Value} {l m : List α} {W : World} (hs : a.eval s = v)
    (hx : a.eval x = u) (hown : Own W base E k enc v l) (hm : Sl W k enc u m) (hn : (l.length + m.length) * bytes ≤ 140737488355328) (hbase : base ≤ W.heap.size)
    (h : ∀ v' w', Own w' base E k enc v' (l ++ m) → Below base W w' → wpList P ops Q rest (a.put o.dst v') w') : wpList P ops Q (o :: rest) a W := by
  have key := wpList_extend (P := P) (ops := ops) (rest := rest) (o := { o with guard := none }) (a := a) (Q := Q) rfl s x t ho hT hk h1 hs hx hown hm hn hbase h
  unfold wpList at key ⊢
  rw [if_pos hgd]
  rw [if_pos (by simp [Region.wanted])] at key
  exact key
end Go.Proofs.Ytpdeodoidlcdoaa

/- slices.Clone at []int. -/
namespace Go.Proofs.Ytpdeodoidlcdoaa
open Go.RowKit

theorem cloneI_any (w : World) (l : List Int) (v : Value) (hl : Sl w 1 encI v l) (hb : l.length * 8 ≤ 140737488355328) :
    Calls Try.prog 44 #[v] w (OwnRet w 3 1 encI l) := by
  have hl0 := Lib.hid hl
  obtain ⟨ao, cap, rfl, hcap, hmax, hnil, hel⟩ := hl
  unfold maxLen at hmax
  have hn := fun w => Lib.run_eql_slice_nil (P := Try.prog) w 36 3 ao l.length cap 0 0 Try.underlying36
  cases ao with
  | none =>
    obtain rfl : cap = 0 := hnil rfl
    obtain rfl : l = [] := List.length_eq_zero_iff.1 (by omega)
    clear hel hnil hn
    have hn := fun w => Lib.run_eql_slice_nil (P := Try.prog) w 36 3 none 0 0 0 0 Try.underlying36
    go_enter Try.func44, Try.ntmps44
    go_wp2
    go_ret
    exact OwnRet.mk Own.nil (Below.refl _ _)
  | some ad =>
    clear hel hnil
    have ho := Lib.hid (show Own (w.alloc (.cells #[] 3)) w.heap.size 3 1 encI (.slice (some ⟨w.heap.size, 0, none⟩) 0 0) [] from World.ownsRow_lit w #[] 0 (Nat.le_refl _) (by simp [maxLen]) rfl)
    go_enter Try.func44, Try.ntmps44
    go_wp2_with (at_builtin; refine wpList_extendG rfl _ _ 36 rfl slI encI_len (fun _ => rfl) rfl rfl ho.out (hl0.out.below ((Below.refl _ _).alloc (Nat.le_refl _) _) (Nat.le_refl _)) (by simpa using hb) (by simp) ?_; intro v' w1 ho1 hb1; have HO := Lib.hid ho1; have HB := Lib.hid hb1; clear ho1 hb1)
    go_ret
    exact OwnRet.mk (by simpa using HO.out) (((Below.refl _ _).alloc (Nat.le_refl _) _).trans HB.out)
end Go.Proofs.Ytpdeodoidlcdoaa

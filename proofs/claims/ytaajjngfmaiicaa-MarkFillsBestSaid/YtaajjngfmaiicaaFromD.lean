/- What the recursion over choices keeps; its predicate on rivals. -/
import Derived.Test.YtaajjngfmaiicaaOnl
import Derived.Test.YtaajjngfmaiicaaBetA
import Derived.Test.YtaajjngfmaiicaaAdsD
import Derived.Test.YtaajjngfmaiicaaIdxN
namespace Go.Proofs.Ytaajjngfmaiicaa
open Go.RowKit

/-- The filler's block: advertisements, the room, the best choice so far. -/
def FillAt (W : World) (P : Nat) (va : Value) (m : Int) (l : List Adv) (B : List Int) : Prop :=
  ∃ vb, W.heap[P]? = some (.cells #[va, .int .i64 m, .int .i64 (selV l B), .int .i64 (selL l B), vb] 39 (0, 0)) ∧ Sl W 1 encI vb B ∧ offB P vb
theorem FillAt.below {W W' : World} {P : Nat} {va : Value} {m : Int} {l : List Adv} {B : List Int} (h : FillAt W P va m l B) (hb : Below W.heap.size W W') : FillAt W' P va m l B := by
  obtain ⟨vb, h1, h2, h3⟩ := h
  exact ⟨vb, (hb.block P (lt_of_blk h1)).trans h1, h2.below hb (Nat.le_refl _), h3⟩
theorem FillAt.lt {W : World} {P : Nat} {va : Value} {m : Int} {l : List Adv} {B : List Int} (h : FillAt W P va m l B) : P < W.heap.size := by
  obtain ⟨vb, h1, _⟩ := h
  exact lt_of_blk h1

def rivE (l : List Adv) (a b : Int) : Bool := (adAt l a).ri.toList == (adAt l b).ri.toList
theorem riv_any (l : List Adv) (L : List Int) (b : Int) : (L.any fun j => riv l j b) = (!(adAt l b).ri.toList.isEmpty && L.any fun j => rivE l j b) := by
  unfold riv rivE
  cases h : (adAt l b).ri.toList.isEmpty
  · simp
  · simp

set_option maxHeartbeats 1000000 in
/-- The closure: is the advertisement with a number of the rival in the box? -/
theorem rivC_any (W : World) (P b0 b1 : Nat) (va : Value) (m : Int) (l : List Adv) (B : List Int) (x : Adv) (k : Int) (hk : 0 ≤ k ∧ k < l.length) (hva : Sl W 4 encA va l) (hf : FillAt W P va m l B)
    (h0 : W.heap[b0]? = some (.cells #[.pointer (some ⟨P, 0, none⟩)] 35 (0, 0))) (h1 : W.heap[b1]? = some (.cells #[.string x.na, .int .i64 x.ln, .int .i64 x.va, .string x.ri] 29 (0, 0))) :
    Calls Try.prog 23 #[.int .i64 k, .pointer (some ⟨b0, 0, none⟩), .pointer (some ⟨b1, 0, none⟩)] W fun e w' => e = .returned (.bool ((adAt l k).ri.toList == x.ri.toList)) ∧ Below W.heap.size W w' := by
  obtain ⟨vb, hf, _, _⟩ := hf
  obtain ⟨ao, cap, rfl, hcap, hmax, hnil, hel⟩ := hva
  unfold maxLen at hmax
  obtain ⟨n, rfl⟩ := Int.eq_ofNat_of_zero_le hk.1
  obtain ⟨_, hk⟩ := hk
  have hn : n < l.length := by omega
  obtain ⟨y, hy⟩ : ∃ y, l[n]? = some y := ⟨l[n], by simp [hn]⟩
  obtain ⟨b, off, rfl, hc⟩ := hel n y hy
  have c3 : W.cell? ⟨b, off + n * 4 + 3, none⟩ = _ := hc 3 _ rfl
  have g0 := (cell_of_block (i := 0) h0).trans rfl
  have g1 := (cell_of_block (i := 3) h1).trans rfl
  have g2 := (cell_of_block (i := 0) hf).trans rfl
  have hv : Hid ((adAt l (n : Int)).ri.toList = y.ri.toList) := Lib.hid (by unfold adAt; rw [Int.toNat_natCast, getD_of hy])
  generalize adAt l (n : Int) = z at hv ⊢
  clear hf h0 h1 hel hc hy hn
  go_enter Try.func23, Try.ntmps23
  go_wp2
  go_quiet (fail)
  go_wp2
  go_ret
  exact ⟨ret_bool (by rw [hv.out]), below_drewN (Below.refl _ _) _⟩
end Go.Proofs.Ytaajjngfmaiicaa

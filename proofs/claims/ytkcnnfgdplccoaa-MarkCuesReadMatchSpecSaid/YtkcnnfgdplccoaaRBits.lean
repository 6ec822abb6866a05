/- The bits of the reference, and its bytes. -/
import Derived.Test.YtkcnnfgdplccoaaApp
import Derived.Test.YtkcnnfgdplccoaaCueR
import Derived.Test.YtkcnnfgdplccoaaPutF
import Derived.Test.YtkcnnfgdplccoaaRSum
namespace Go.Proofs.Ytkcnnfgdplccoaa
open Go.RowKit

def encT (t : Bool) : List Value := [.int .i64 (b01 t : Nat)]
theorem encT_len (t : Bool) : (encT t).length = 1 := rfl
abbrev BitsRet (w : World) (L : List Bool) : Ending → World → Prop := OwnRet w 3 1 encT L

theorem Own.fresh {α : Type} {enc : α → List Value} {k : Nat} (hk : ∀ x, (enc x).length = k) (w : World) {base : Nat} (hb : base ≤ w.heap.size) (E : TypeId) (l : List α) (hm : l.length ≤ maxLen) {C : List Value} (hC : l.flatMap enc = C) {n : Nat} (hn : l.length = n) :
    Own (w.alloc (.cells C.toArray E)) base E k enc (.slice (some ⟨w.heap.size, 0, none⟩) n n) l := by
  subst hC hn
  exact ⟨flatMap_len hk l, .inr ⟨w.heap.size, l.length, _, rfl, hb, heap_alloc_new w _, Nat.le_refl _, hm, by simp only [List.size_toArray]; exact flatMap_len hk l, by simp only; rw [← flatMap_len hk l]; exact List.take_length⟩⟩
theorem flagR_any (t : Bool) (w : World) : Calls Try.prog 34 #[.bool t] w (BitsRet w [t]) := by
  cases t
  all_goals
    go_enter Try.func34, Try.ntmps34
    go_wp2
    go_ret
    exact OwnRet.mk (Own.fresh encT_len w (Nat.le_refl _) _ [_] (by simp [maxLen]) rfl rfl) ((Below.refl _ _).alloc (Nat.le_refl _) _)

set_option maxRecDepth 100000 in
set_option maxHeartbeats 2000000 in
theorem bitsR_any (n many : Nat) (hm : many ≤ 60) (w : World) :
    Calls Try.prog 32 #[.int .i64 n, .int .i64 many] w (BitsRet w (bitsN n many)) := by
  have HB0 := Lib.hid (Below.refl w.heap.size w)
  go_enter Try.func32, Try.ntmps32
  go_wp2
  go_loopg [5, 6] many (fun gg s2 s3 wr => ∃ (r : Nat) (z : Int), r ≤ many ∧ r ≤ gg ∧ s3 = .int .i64 z ∧ -1 ≤ z ∧ z ≤ 60 ∧ Aside (z = (r : Int) - 1) ∧ Aside (∃ M, bitsN n many = M ++ bitsN n r ∧ M.length ≤ 60 ∧ Own wr w.heap.size 3 1 encT s2 M) ∧ Aside (Below w.heap.size w wr))
  case atStart => exact ⟨many, (many : Int) - 1, Nat.le_refl _, by omega, by go_num, by omega, by omega, (show _ = _ from rfl), (show ∃ M, _ from ⟨[], rfl, by simp, Own.nil⟩), HB0.out⟩
  obtain ⟨r, z, hr, hg, rfl, hz1, hz2, HZ, HM, BW⟩ := hrel
  obtain ⟨M, hM, hML, OW⟩ := HM.out
  have hz := HZ.out
  have hszw := BW.out.size
  have HOW := Lib.hid OW
  have HMM := Lib.hid hM
  clear HM OW hM HZ
  by_cases h0 : 0 < r
  · obtain ⟨q, rfl⟩ : ∃ q, r = q + 1 := ⟨r - 1, by omega⟩
    obtain rfl : z = (q : Int) := by omega
    have hq0 : (0 : Int) ≤ (q : Int) := by omega
    have hq64 : (q : Int) ≤ 64 := by omega
    have hdq : (n : Int) / 2 ^ q = ((n / 2 ^ q : Nat) : Int) := by rw [Int.natCast_ediv]; simp
    have hdc : (0 : Int) ≤ (n : Int) / 2 ^ q := by rw [hdq]; exact Int.natCast_nonneg _
    have hmt : ((n : Int) / 2 ^ q).tmod 2 = (b01 (n.testBit q) : Int) := by
      rw [Int.tmod_eq_emod_of_nonneg hdc, hdq, ← bit_at]; omega
    have hME : ((n : Int) / 2 ^ q) % 2 = (b01 (n.testBit q) : Int) := by
      rw [hdq, ← bit_at]; omega
    have HNX : Hid (bitsN n many = (M ++ [n.testBit q]) ++ bitsN n q) := Lib.hid (by rw [HMM.out, List.append_assoc]; rfl)
    have hnl : (M.length + 1) * 8 ≤ 140737488355328 := by omega
    generalize n.testBit q = t at hmt hME HNX
    clear hdq hz HMM
    go_wp2_with (at_builtin; refine wpList_push rfl _ _ 50 rfl slI rfl rfl t rfl rfl rfl HOW.out rfl hnl hszw ?_; intro v8 w8 ho8 hb8; have HO8 := Lib.hid ho8; have HB8 := Lib.hid (BW.out.trans hb8); clear ho8 hb8)
    go_roundg q
    case measure => omega
    case rel => exact ⟨q, (q : Int) - 1, by omega, by omega, by go_num, by omega, by omega, (show _ = _ by omega), (show ∃ M, _ from ⟨M ++ [t], HNX.out, by have := congrArg List.length HNX.out; simp [bitsN_len] at this ⊢; omega, HO8.out⟩), HB8.out⟩
  · obtain rfl : r = 0 := by omega
    obtain rfl : z = -1 := by omega
    have HV : Hid (bitsN n many = M) := Lib.hid (by rw [HMM.out]; simp [bitsN])
    clear HMM hz
    go_wp2
    go_ret
    exact OwnRet.mk (by rw [HV.out]; exact HOW.out) BW.out
end Go.Proofs.Ytkcnnfgdplccoaa

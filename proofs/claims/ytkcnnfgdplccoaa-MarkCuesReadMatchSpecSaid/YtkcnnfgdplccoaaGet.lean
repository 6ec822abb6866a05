/- get: bits are taken. -/
import Derived.Test.YtkcnnfgdplccoaaCueL
import Derived.Test.YtkcnnfgdplccoaaOnl
import Derived.Test.YtkcnnfgdplccoaaPut
namespace Go.Proofs.Ytkcnnfgdplccoaa
open Go.RowKit

theorem Onl.drewN (P : Nat) (w : World) (n : Nat) : Onl P w (w.drewN n) := ⟨rfl, rfl, rfl, Nat.le_refl _, fun _ _ _ => rfl⟩
/-- Block P holds bytes that are read, at bit i. -/
def BR (w : World) (P : Nat) (v : Value) (i : Nat) : Prop := w.heap[P]? = some (.cells #[v, .int .i64 i] 42 (0, 0))
def GetP (w : World) (P : Nat) (v : Value) (i n : Nat) : Ending → World → Prop := fun e w' => e = .returned (.int .i64 n) ∧ BR w' P v i ∧ Onl P w w'

theorem and1_u8 (m : Nat) (hm : m < 256) : bits .and .u8 (m : Int) 1 = ((m % 2 : Nat) : Int) := by
  have := u8_and_nat m 1 hm (by omega)
  rw [Nat.and_one_is_mod] at this
  exact this
theorem or1_i64 (n t : Nat) (hn : n < 8589934592) (ht : t < 2) : bits .or .i64 ((n : Int) * 2) (t : Int) = ((n * 2 + t : Nat) : Int) := by
  have e : ((n : Int) * 2) = ((n * 2 : Nat) : Int) := by omega
  rw [e]
  show IntKind.i64.wrap ((BitVec.ofInt 64 ((n * 2 : Nat) : Int) ||| BitVec.ofInt 64 (t : Int)).toNat : Int) = _
  rw [BitVec.toNat_or, ofInt_64 _ (by omega), ofInt_64 t (by omega), or_add (k := 1) (by omega) (by omega), IntKind.wrap_i64]
  omega

set_option maxRecDepth 100000 in
set_option maxHeartbeats 4000000 in
theorem get_any (w : World) (P i many : Nat) (v : Value) (l : List UInt8) (hb : BR w P v i) (hl : Sl w 1 encU v l) (ho : offB P v) (hi : i + many ≤ 8 * l.length) (hm : many ≤ 33) (hn : l.length ≤ 300) :
    Calls Try.prog 25 #[.pointer (some ⟨P, 0, none⟩), .int .i64 many] w (GetP w P v (i + many) (numB l i many)) := by
  have HB := Lib.hid hb
  have HL := Lib.hid hl
  have HO := Lib.hid ho
  clear hb hl ho
  go_enter Try.func25, Try.ntmps25
  go_wp2
  go_loopg [5, 7] (many + 1) (fun gg s5 s7 wr => ∃ (k N : Nat), k ≤ many ∧ many - k ≤ gg ∧ s5 = .int .i64 N ∧ N < 8589934592 ∧ s7 = .int .i64 k ∧ Aside (N = numB l i k) ∧ Aside (BR wr P v (i + k)) ∧ Aside (Onl P w wr))
  case atStart => exact ⟨0, 0, Nat.zero_le _, by omega, by go_num, by omega, by go_num, (show _ = _ from rfl), HB.out, Onl.refl P w⟩
  obtain ⟨k, N, hk, hg, rfl, hN, rfl, HN, HBr, HOr⟩ := hrel
  have HN := Lib.hid HN.out
  have HBr := Lib.hid HBr.out
  have HOr := Lib.hid HOr.out
  by_cases hkm : k < many
  · have hS := HL.out.onl HO.out HOr.out
    have hkmz : (k : Int) < (many : Int) := by omega
    obtain ⟨X, hX⟩ : ∃ X, X = i + k := ⟨_, rfl⟩
    have HBX : Hid (BR wr P v X) := Lib.hid (by rw [hX]; exact HBr.out)
    have hXl : X < 8 * l.length := by omega
    obtain ⟨Q, hQ⟩ : ∃ Q, Q = X / 8 := ⟨_, rfl⟩
    obtain ⟨r, hr⟩ : ∃ r, r = X % 8 := ⟨_, rfl⟩
    have hQl : Q < l.length := by omega
    obtain ⟨ao, cap, rfl, hcap, hmax, hnil, hel⟩ := hS
    unfold maxLen at hmax
    obtain ⟨b, off, rfl, hc⟩ := hel Q l[Q] (by simp)
    obtain ⟨B, hB⟩ : ∃ B, B = l[Q].toNat := ⟨_, rfl⟩
    have hB256 : B < 256 := by rw [hB]; exact l[Q].toNat_lt
    have cb : wr.cell? ⟨b, off + Q, none⟩ = some (.int .u8 B) := by
      have := hc 0 _ rfl
      rw [← hB] at this
      simpa using this
    have HT : Hid (B / 2 ^ (7 - r) % 2 = b01 (bitAt l (i + k))) := Lib.hid (by
      rw [bit_at]
      unfold bitAt
      rw [← hX, ← hQ, ← hr, hB]
      simp [List.getD_eq_getElem?_getD, hQl])
    obtain ⟨t, ht⟩ : ∃ t, t = b01 (bitAt l (i + k)) := ⟨_, rfl⟩
    have ht2 : t < 2 := by rw [ht]; exact b01_lt _
    have HNX : Hid (N * 2 + t = numB l i (k + 1)) := Lib.hid (by rw [ht, HN.out]; rfl)
    have hNX : N * 2 + t < 8589934592 := by rw [HNX.out]; exact numB_le l i (by omega)
    have hdiv : (X : Int) / 8 = (Q : Int) := by omega
    have hmod : (X : Int) % 8 = (r : Int) := by omega
    have hr8 : r < 8 := by omega
    have td : (X : Int).tdiv 8 = (Q : Int) := by rw [Int.tdiv_eq_ediv_of_nonneg (by omega)]; exact hdiv
    have tm : (X : Int).tmod 8 = (r : Int) := by rw [Int.tmod_eq_emod_of_nonneg (by omega)]; exact hmod
    have m1 : IntKind.i64.wrap (Q : Int) = (Q : Int) := IntWalk.i64_in _ (by omega)
    have m2 : IntKind.i64.wrap (7 - (r : Int)) = 7 - (r : Int) := IntWalk.i64_in _ (by omega)
    have m3 : (7 - (r : Int)).toNat = 7 - r := by omega
    have m4 : (0 : Int) ≤ 7 - (r : Int) := by omega
    have m5 : 7 - (r : Int) ≤ 8 := by omega
    have m6 : (Q : Int) < (l.length : Int) := by omega
    have m7 : IntKind.i64.wrap ((N : Int) * 2) = (N : Int) * 2 := IntWalk.i64_in _ (by omega)
    have m8 : IntKind.i64.wrap (t : Int) = (t : Int) := IntWalk.i64_in _ (by omega)
    have hand : bits .and .u8 ((B : Int) / 2 ^ (7 - r)) 1 = (t : Int) := by
      have e : (B : Int) / 2 ^ (7 - r) = ((B / 2 ^ (7 - r) : Nat) : Int) := by rw [Int.natCast_ediv]; simp
      rw [e, and1_u8 _ (Nat.lt_of_le_of_lt (Nat.div_le_self _ _) hB256), HT.out, ht]
    have hor : bits .or .i64 ((N : Int) * 2) (t : Int) = ((N * 2 + t : Nat) : Int) := or1_i64 N t hN ht2
    have HX := Lib.hid hX
    have hP := lt_of_blk HBX.out
    have c0 := (cell_of_block (i := 0) HBX.out).trans rfl
    have c1 := (cell_of_block (i := 1) HBX.out).trans rfl
    have f1 := froz_of_block (i := 1) HBX.out
    have HNEW : Hid (BR (wr.setCell ⟨P, 1, none⟩ (.int .i64 ((X : Int) + 1))) P (.slice (some ⟨b, off, none⟩) l.length cap) (i + (k + 1))) := Lib.hid (by
      unfold BR
      rw [heap_setCell_same _ P 1 _ _ (.int .i64 ((X : Int) + 1)) HBX.out]
      have e : ((i + (k + 1) : Nat) : Int) = (X : Int) + 1 := by omega
      rw [e]
      rfl)
    have HON : Hid (∀ n, Onl P w ((wr.drewN n).setCell ⟨P, 1, none⟩ (.int .i64 ((X : Int) + 1)))) := Lib.hid (fun n => (HOr.out.trans (Onl.drewN P wr n)).trans (Onl.set P _ 1 (.int .i64 ((X : Int) + 1))))
    clear hX hQ hr hB ht hdiv hmod hel hc hnil
    go_upto_region 5 with (fail)
    go_quiet (fail)
    clear td tm m1 m2 m3 m4 m5 m7 m8 hand hor
    go_wp2
    go_roundg (many - (k + 1))
    case measure => omega
    case rel => exact ⟨k + 1, N * 2 + t, by omega, by omega, by go_num, hNX, by go_num, HNX.out, HNEW.out, HON.out _⟩
  · obtain rfl : k = many := by omega
    have hkmz : ¬ (k : Int) < (k : Int) := by omega
    go_wp2
    go_ret
    exact ⟨ret_int (by rw [HN.out]), HBr.out, HOr.out⟩
end Go.Proofs.Ytkcnnfgdplccoaa

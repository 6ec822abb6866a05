/- opened, number and long of the reference. -/
import Derived.Test.YtkcnnfgdplccoaaCueL
import Derived.Test.YtkcnnfgdplccoaaRPk
namespace Go.Proofs.Ytkcnnfgdplccoaa
open Go.RowKit

/-- All bits of bytes. -/
def openL (l : List UInt8) : List Bool := l.flatMap fun c => bitsN c.toNat 8
theorem openL_len (l : List UInt8) : (openL l).length = 8 * l.length := by
  unfold openL
  induction l with
  | nil => rfl
  | cons a r ih => rw [List.flatMap_cons, List.length_append, bitsN_len, ih, List.length_cons]; omega
theorem bitsN_at (n : Nat) : ∀ k j, j < k → (bitsN n k)[j]? = some (n.testBit (k - 1 - j))
  | 0, j, h => absurd h (Nat.not_lt_zero _)
  | k + 1, 0, _ => by simp [bitsN]
  | k + 1, j + 1, h => by
    have := bitsN_at n k j (by omega)
    rw [show k + 1 - 1 - (j + 1) = k - 1 - j by omega, ← this]
    simp [bitsN]
theorem openL_get : ∀ (l : List UInt8) (i : Nat), i < 8 * l.length → (openL l)[i]? = some (bitAt l i)
  | [], i, h => by simp at h
  | c :: r, i, h => by
    have e : openL (c :: r) = bitsN c.toNat 8 ++ openL r := rfl
    rw [e]
    by_cases h8 : i < 8
    · rw [List.getElem?_append_left (by rw [bitsN_len]; exact h8), bitsN_at _ _ _ h8]
      unfold bitAt
      have e1 : i / 8 = 0 := by omega
      have e2 : i % 8 = i := by omega
      rw [e1, e2]
      rfl
    · rw [List.getElem?_append_right (by rw [bitsN_len]; omega), bitsN_len, openL_get r (i - 8) (by simp at h; omega)]
      unfold bitAt
      have e1 : i / 8 = (i - 8) / 8 + 1 := by omega
      have e2 : (i - 8) % 8 = i % 8 := by omega
      rw [e1, e2]
      simp
theorem openL_take {l : List UInt8} {k : Nat} {x : UInt8} (hx : l[k]? = some x) : openL (l.take (k + 1)) = openL (l.take k) ++ bitsN x.toNat 8 := by
  rw [take_next hx]
  unfold openL
  rw [List.flatMap_append, List.flatMap_singleton]

set_option maxRecDepth 100000 in
set_option maxHeartbeats 4000000 in
theorem openedR_any (w : World) (l : List UInt8) (v : Value) (hl : Sl w 1 encU v l) (hn : l.length ≤ 300) :
    Calls Try.prog 26 #[v] w (OwnRet w 3 1 encT (openL l)) := by
  have HL := Lib.hid hl
  have HEND : Hid (openL (l.take l.length) = openL l) := Lib.hid (by rw [List.take_length])
  obtain ⟨ao, cap, rfl, hcap, hmax, hnil, hel⟩ := hl
  unfold maxLen at hmax
  have HEL := Lib.hid hel
  have HB0 := Lib.hid (Below.refl w.heap.size w)
  clear hel hnil
  go_enter Try.func26, Try.ntmps26
  go_wp2
  go_loopg [3, 4] l.length (fun gg s3 s4 wr => ∃ k : Nat, k ≤ l.length ∧ l.length - k ≤ gg ∧ s4 = .int .i64 k ∧ Aside (Own wr w.heap.size 3 1 encT s3 (openL (l.take k))) ∧ Aside (Below w.heap.size w wr))
  case atStart => exact ⟨0, Nat.zero_le _, by omega, by go_num, (show Own _ _ _ _ _ _ (openL (l.take 0)) from Own.nil), HB0.out⟩
  obtain ⟨k, hk, hg, rfl, OW, BW⟩ := hrel
  have HOW := Lib.hid OW.out
  have HBW := Lib.hid BW.out
  have hszw := BW.out.size
  clear OW BW
  by_cases hlt : k < l.length
  · have hltz : (k : Int) < (l.length : Int) := by omega
    obtain ⟨x, hx⟩ : ∃ x, l[k]? = some x := ⟨l[k], by simp [hlt]⟩
    obtain ⟨b, off, hao, hc⟩ := HEL.out k x hx
    subst hao
    have hblt : b < w.heap.size := World.block_lt_of_cell? w ⟨b, off + k * 1 + 0, none⟩ (hc 0 _ rfl)
    have c0 : wr.cell? ⟨b, off + k, none⟩ = some (.int .u8 (x.toNat : Nat)) := by simpa using (HBW.out.cell (p := ⟨b, off + k * 1 + 0, none⟩) hblt).trans (hc 0 _ rfl)
    have hbw : b < wr.heap.size := by omega
    have HNX : Hid (openL (l.take (k + 1)) = openL (l.take k) ++ bitsN x.toNat 8) := Lib.hid (openL_take hx)
    have hlen : (openL (l.take k)).length ≤ 2400 := by rw [openL_len, List.length_take]; omega
    have hxl := x.toNat_lt
    generalize x.toNat = X at c0 HNX hxl
    have hwr : IntKind.i64.wrap (X : Int) = (X : Int) := IntWalk.i64_in _ (by omega)
    obtain ⟨ao3, L3, cp3, rfl⟩ := Own.slv encT_len HOW.out
    clear hx hc
    go_wp2_with fail
    refine (bitsRL 8 8 rfl X (by omega) _).mono ?_
    rintro e w2 ⟨v2, rfl, ho, hb⟩
    have HO2 := Lib.hid (ho.sl encT_len)
    have HP2 := Lib.hid (HOW.out.below hb (Nat.le_refl _))
    have HB2 := Lib.hid (HBW.out.thru hb)
    have hsz2 := HB2.out.size
    clear ho hb
    go_wp2_with (at_builtin; refine wpList_extend (v := .slice ao3 L3 cp3) (u := v2) (l := openL (l.take k)) (m := bitsN X 8) rfl _ _ 50 rfl slI encT_len (fun _ => rfl) rfl rfl HP2.out HO2.out (by rw [bitsN_len]; omega) hsz2 ?_; intro v5 w5 ho5 hb5; have HO5 := Lib.hid ho5; have HB5 := Lib.hid (HB2.out.trans hb5); clear ho5 hb5)
    go_roundg (l.length - (k + 1))
    case measure => omega
    case rel => exact ⟨k + 1, by omega, by omega, by go_num, (show Own _ _ _ _ _ _ _ by rw [HNX.out]; exact HO5.out), HB5.out⟩
  · obtain rfl : k = l.length := by omega
    have hltz : ¬ (l.length : Int) < (l.length : Int) := by omega
    go_wp2
    go_ret
    exact OwnRet.mk (by rw [← HEND.out]; exact HOW.out) HBW.out

set_option maxRecDepth 100000 in
set_option maxHeartbeats 4000000 in
theorem numberR_any (w : World) (l : List UInt8) (v : Value) (a many : Nat) (hl : Sl w 1 encT v (openL l)) (hi : a + many ≤ 8 * l.length) (hm : many ≤ 33) (hn : l.length ≤ 300) :
    Calls Try.prog 27 #[v, .int .i64 a, .int .i64 many] w fun e w' => e = .returned (.int .i64 (numB l a many : Nat)) ∧ w = w' := by
  have HG := Lib.hid (openL_get l)
  have HLN := Lib.hid (openL_len l)
  obtain ⟨ao, cap, rfl, hcap, hmax, hnil, hel⟩ := hl
  unfold maxLen at hmax
  have HEL := Lib.hid hel
  rw [HLN.out] at hcap ⊢
  clear hel hnil
  go_enter Try.func27, Try.ntmps27
  go_wp2
  go_loopg [7, 8] many (fun gg s7 s8 wr => ∃ k N X : Nat, k ≤ many ∧ many - k ≤ gg ∧ s8 = .int .i64 X ∧ Aside (X = a + k) ∧ X ≤ 2400 ∧ s7 = .int .i64 N ∧ N < 8589934592 ∧ Aside (N = numB l a k) ∧ w = wr)
  case atStart => exact ⟨0, 0, a, Nat.zero_le _, by omega, rfl, (show _ = _ from rfl), by omega, by go_num, by omega, (show _ = _ from rfl), rfl⟩
  obtain ⟨k, N, X, hk, hg, rfl, hX, hX2, rfl, hN, HN, rfl⟩ := hrel
  have HX := Lib.hid hX.out
  have HN := Lib.hid HN.out
  clear hX
  by_cases hlt : k < many
  · have hltz : (X : Int) < (a : Int) + (many : Int) := by have := HX.out; omega
    have hX8 : X < 8 * l.length := by have := HX.out; omega
    have hX8z : (X : Int) < ((8 * l.length : Nat) : Int) := by omega
    have hx := HG.out X hX8
    obtain ⟨b, off, hao, hc⟩ := HEL.out X _ hx
    subst hao
    have HNX : Hid (N * 2 + b01 (bitAt l X) = numB l a (k + 1)) := Lib.hid (by rw [HN.out, HX.out]; rfl)
    have hnx : N * 2 + b01 (bitAt l X) < 8589934592 := by rw [HNX.out]; exact numB_le l a (by omega)
    have c0 : w.cell? ⟨b, off + X, none⟩ = some (.int .i64 (b01 (bitAt l X) : Nat)) := by simpa using (hc 0 _ rfl)
    generalize b01 (bitAt l X) = t at c0 HNX hnx
    clear hx hc
    go_wp2
    go_roundg (many - (k + 1))
    case measure => omega
    case rel => exact ⟨k + 1, N * 2 + t, X + 1, by omega, by omega, by go_num, (show _ = _ by have := HX.out; omega), by omega, by go_num, hnx, HNX.out, rfl⟩
  · obtain rfl : k = many := by omega
    have hltz : ¬ (X : Int) < (a : Int) + (k : Int) := by have := HX.out; omega
    go_wp2
    go_ret
    exact ⟨ret_int (by rw [HN.out]), rfl⟩

theorem fields_size (k : Nat) (now : Bool) (hk : k ≤ 3) : ((fieldsL ⟨k, 0, now, 0, 0, false⟩).length + 7) / 8 + 4 = sizeC k now := by
  have : k = 0 ∨ k = 1 ∨ k = 2 ∨ k = 3 := by omega
  rcases this with rfl | rfl | rfl | rfl <;> cases now <;> simp [fieldsL, sizeC, bitsN_len]

set_option maxRecDepth 100000 in
set_option maxHeartbeats 4000000 in
theorem longR_any (k : Nat) (now : Bool) (hk : k ≤ 3) (w : World) :
    Calls Try.prog 28 #[.int .i64 k, .bool now] w fun e w' => e = .returned (.int .i64 (sizeC k now : Nat)) ∧ Below w.heap.size w w' := by
  have HF := Lib.hid (fun W => fieldsR_any k 0 0 0 now false W)
  have HZ := Lib.hid (fields_size k now hk)
  have hfl := fieldsL_len ⟨k, 0, now, 0, 0, false⟩
  have e0 : ((0 : Nat) : Int) = 0 := rfl
  simp only [e0] at HF hfl
  generalize sizeC k now = S at HZ ⊢
  generalize fieldsL ⟨k, 0, now, 0, 0, false⟩ = FL at HF HZ hfl
  clear e0
  go_enter Try.func28, Try.ntmps28
  go_wp2_with fail
  refine (HF.out _).mono ?_
  rintro e w1 ⟨v1, rfl, ho, hb⟩
  have HS1 := Lib.hid (ho.sl encT_len)
  have HB1 := Lib.hid hb
  clear ho hb
  go_wp2_with fail
  refine (packedR_any _ FL _ HS1.out (by omega)).mono ?_
  rintro e w2 ⟨v2, rfl, ho, hb⟩
  obtain ⟨a2, c2, rfl, hc2, hm2, _, _⟩ := Own.sl ho encU_len
  have HB2 := Lib.hid (HB1.out.thru hb)
  have hpl := pkD_len true FL
  have hS := HZ.out
  generalize (pkD true FL).length = Q at hpl
  clear ho hb hc2 hm2
  have hQ : (Q : Int) + 4 = (S : Int) := by omega
  have hSl : (S : Int) ≤ 100 := by omega
  have hS0 : (0 : Int) ≤ (S : Int) := by omega
  clear hpl hS
  go_wp2
  go_ret
  exact ⟨rfl, HB2.out⟩
end Go.Proofs.Ytkcnnfgdplccoaa

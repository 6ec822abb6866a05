/- The cipher of the reference: number, mixed, bytesOf, xored. -/
import Derived.Test.YteepbfpcdhdgfaaDoorG07
import Derived.Test.YteepbfpcdhdgfaaDoorG02
namespace Go.Proofs.YteepbfpcdhdgfaaDoor
open Go.RowKit

theorem wgtN_num4 (a b c d : UInt8) : wgtN [a, b, c, d] 0 = num4 a b c d := by
  unfold num4
  simp only [wgtN]
  omega
set_option maxHeartbeats 1000000 in
theorem number_any (w : World) (b o n cap : Nat) (l : List UInt8) (h : BytesAt w b o l) (hl : l.length = n) (hn : n ≤ 7) :
    Calls Tryd.prog 91 #[.slice (some ⟨b, o, none⟩) n cap] w fun e w' => e = .returned (.int .u64 (wgtN l 0 : Nat)) ∧ w = w' := by
  have HB := Lib.hid h
  have HLL := Lib.hid hl
  clear h hl
  go_enter Tryd.func91, Tryd.ntmps91
  go_wp2_with fail
  go_loopg [3, 8] n (fun gg s3 s8 wr => ∃ i : Nat, i ≤ n ∧ n - i ≤ gg ∧ s8 = .int .i64 i ∧ s3 = .int .u64 (wgtN (l.take i) 0 : Nat) ∧ wr = w)
  case atStart => exact ⟨0, by omega, by omega, rfl, rfl, rfl⟩
  case round =>
    obtain ⟨i, hi, hgi, rfl, rfl, hwr⟩ := hrel
    subst hwr
    by_cases hil : i < n
    · have hiz : (i : Int) < (n : Int) := by omega
      have hzl := HLL.out
      obtain ⟨x, hx⟩ : ∃ x, l[i]? = some x := ⟨l[i]'(by omega), by simp⟩
      have hc := HB.out i x hx
      have hlt := wgtN_lt (l.take i) 0 0 (by decide)
      rw [List.length_take, Nat.min_eq_left (by omega), Nat.zero_add] at hlt
      have hpw : 256 ^ i ≤ 256 ^ 7 := Nat.pow_le_pow_right (by decide) (by omega)
      have h256 : (256 : Nat) ^ 7 = 72057594037927936 := by decide
      have HNX : Hid (wgtN (l.take (i + 1)) 0 = wgtN (l.take i) 0 * 256 + x.toNat) := Lib.hid (by rw [take_next hx, wgtN_snoc])
      obtain ⟨m, hm⟩ : ∃ m, m = wgtN (l.take i) 0 := ⟨_, rfl⟩
      obtain ⟨y, hy⟩ : ∃ y, y = x.toNat := ⟨_, rfl⟩
      have hy8 : y < 256 := by rw [hy]; exact x.toNat_lt
      rw [← hy] at hc HNX
      rw [← hm] at hlt HNX ⊢
      have hm56 : m < 72057594037927936 := by omega
      obtain ⟨r, hr⟩ : ∃ r, r = m * 256 + y := ⟨_, rfl⟩
      have e1 : (m : Int) * 256 + (y : Int) = (r : Int) := by omega
      have hr64 : (r : Int) < 18446744073709551616 := by omega
      have HR := Lib.hid hr
      clear hlt hpw h256 hx hm hy hr hzl
      go_wp2
      go_roundg (n - (i + 1))
      case measure => omega
      case rel => exact ⟨i + 1, by omega, by omega, by go_num, by rw [HNX.out, ← HR.out, ← e1], rfl⟩
    · obtain rfl : i = n := by omega
      have hv : Hid (wgtN (l.take i) 0 = wgtN l 0) := Lib.hid (by rw [List.take_of_length_le (by have := HLL.out; omega)])
      go_wp2
      go_ret
      exact ⟨ret_u (by rw [hv.out]; rfl), rfl⟩
theorem number_at {w : World} {b o : Nat} {l : List UInt8} (h : BytesAt w b o l) (i cap : Nat) (hi : i + 4 ≤ l.length) :
    Calls Tryd.prog 91 #[.slice (some ⟨b, o + i, none⟩) 4 cap] w fun e w' => e = .returned (.int .u64 (numAt l i : Nat)) ∧ w = w' := by
  have e : (l.drop i).take 4 = [l.getD i 0, l.getD (i + 1) 0, l.getD (i + 2) 0, l.getD (i + 3) 0] := by
    apply List.ext_getElem?
    intro j
    rw [List.getElem?_take]
    match j with
    | 0 => rw [if_pos (by omega), List.getElem?_drop, getD_some (by omega)]; rfl
    | 1 => rw [if_pos (by omega), List.getElem?_drop, getD_some (by omega)]; rfl
    | 2 => rw [if_pos (by omega), List.getElem?_drop, getD_some (by omega)]; rfl
    | 3 => rw [if_pos (by omega), List.getElem?_drop, getD_some (by omega)]; rfl
    | j + 4 => rw [if_neg (by omega)]; rfl
  have h1 := number_any w b (o + i) 4 cap ((l.drop i).take 4) ((h.drop i).take 4) (by rw [e]; rfl) (by omega)
  rw [e, wgtN_num4] at h1
  exact h1
theorem bits_xor_u64 (a b : Nat) (ha : a < 18446744073709551616) (hb : b < 18446744073709551616) : bits .xor .u64 (a : Int) (b : Int) = ((a ^^^ b : Nat) : Int) := by
  have hx : a ^^^ b < 2 ^ 64 := Nat.xor_lt_two_pow (by omega) (by omega)
  have h1 : (BitVec.ofInt 64 (a : Int)).toNat = a := by
    rw [BitVec.ofInt_natCast, BitVec.toNat_ofNat]; exact Nat.mod_eq_of_lt (by omega)
  have h2 : (BitVec.ofInt 64 (b : Int)).toNat = b := by
    rw [BitVec.ofInt_natCast, BitVec.toNat_ofNat]; exact Nat.mod_eq_of_lt (by omega)
  show IntKind.u64.wrap ((BitVec.ofInt 64 (a : Int) ^^^ BitVec.ofInt 64 (b : Int)).toNat : Int) = _
  rw [BitVec.toNat_xor, h1, h2, IntKind.wrap_u64]
  omega
set_option maxHeartbeats 1000000 in
theorem mixed_any (x s k : Nat) (w : World) (hx : x < 4294967296) (hs : s < 4294967296) (hk : k < 4294967296) : Calls Tryd.prog 92 #[.int .u64 x, .int .u64 s, .int .u64 k] w fun e w' => e = .returned (.int .u64 (addN x s k : Nat)) ∧ w = w' := by
  obtain ⟨a, ha⟩ : ∃ a, a = x * 16 % 4294967296 := ⟨_, rfl⟩
  obtain ⟨b, hb⟩ : ∃ a, a = x / 32 := ⟨_, rfl⟩
  obtain ⟨c, hc⟩ : ∃ c, c = a ^^^ b := ⟨_, rfl⟩
  have hc32 : c < 4294967296 := by rw [hc]; exact Nat.xor_lt_two_pow (n := 32) (by omega) (by omega)
  obtain ⟨d, hd⟩ : ∃ d, d = (c + x) % 4294967296 := ⟨_, rfl⟩
  obtain ⟨f, hf⟩ : ∃ f, f = (s + k) % 4294967296 := ⟨_, rfl⟩
  have HV : Hid (addN x s k = d ^^^ f) := Lib.hid (by unfold addN mixN; rw [hd, hf, hc, ha, hb])
  have e1 : (x : Int) * 16 % 4294967296 = (a : Int) := by omega
  have e2 : (x : Int) / 32 = (b : Int) := by omega
  have e3 : bits .xor .u64 (a : Int) (b : Int) = (c : Int) := by rw [bits_xor_u64 _ _ (by omega) (by omega), hc]
  have e4 : ((c : Int) + (x : Int)) % 4294967296 = (d : Int) := by omega
  have e5 : ((s : Int) + (k : Int)) % 4294967296 = (f : Int) := by omega
  have HE := Lib.hid (bits_xor_u64 d f (by omega) (by omega))
  clear ha hb hc hd hf
  go_enter Tryd.func92, Tryd.ntmps92
  go_wp2
  go_ret
  exact ⟨ret_u (by rw [HV.out, ← HE.out]; rfl), rfl⟩
end Go.Proofs.YteepbfpcdhdgfaaDoor

/- The cipher of the reference: bytesOf, xored. -/
namespace Go.Proofs.YteepbfpcdhdgfaaDoor
open Go.RowKit

theorem madeU (n : Nat) : madeCells #[Value.int .u8 0] (n * 1) = cellsU (List.replicate n 0) := by
  have h := toList_madeCells_one (Value.int .u8 0) n
  rw [Nat.mul_one]
  apply Array.toList_inj.1
  rw [h]
  simp [cellsU]
theorem makeU (n : Nat) (hn : n ≤ 1000) (w : World) : (Instr.makeSlice 58 (.int .i64 (n : Int)) (.int .i64 (n : Int))).run Tryd.prog w = .ok (.slice (some ⟨w.heap.size, 0, none⟩) n n) (w.alloc (.cells (cellsU (List.replicate n 0)) 5)) := by
  obtain ⟨i, z, ht, hi, hz, hs, hb, _⟩ := slU
  obtain ⟨i0, hi0, hz0, hz1, hz2⟩ := info_parts infoU
  have hr := run_make (P := Tryd.prog) w 58 5 i0 _ ht hi0 hz0 .i64 .i64 n n (by omega) (Int.le_refl _) (by rw [hz2]; omega) (by omega)
  rw [hr, hz1]
  simp only [Int.toNat_natCast]
  rw [show (Value.int IntKind.u8 0).cells = #[Value.int .u8 0] from rfl, madeU]
theorem flatU (l : List UInt8) : l.flatMap encU = l.map fun x => Value.int .u8 x.toNat := by
  induction l with
  | nil => rfl
  | cons a r ih => rw [List.flatMap_cons, ih]; rfl
theorem BlkT.own {w : World} {b base n : Nat} {l : List UInt8} (h : BlkT w b 5 l) (hb : base ≤ b) (hn : l.length = n) (hm : l.length ≤ 1000) : Own w base 5 1 encU (.slice (some ⟨b, 0, none⟩) n n) l := by
  subst hn
  exact ⟨flatMap_len encU_len l, .inr ⟨b, l.length, cellsU l, rfl, hb, h, Nat.le_refl _, by unfold maxLen; omega, by simp [cellsU], by rw [Nat.mul_one, flatU]; simp [cellsU, List.take_of_length_le]⟩⟩
/-- A number as so many bytes. -/
def bytesN (n : Nat) : Nat → List UInt8
  | 0 => []
  | i + 1 => UInt8.ofNat (n / 256 ^ i) :: bytesN n i
theorem bytesN_len (n : Nat) : ∀ i, (bytesN n i).length = i
  | 0 => rfl
  | i + 1 => by rw [bytesN, List.length_cons, bytesN_len n i]
theorem bytesN4 (n : Nat) : bytesN n 4 = bytes4 n := by
  simp [bytesN, bytes4]
theorem ofNat_eq {a b : Nat} (h : a % 256 = b % 256) : UInt8.ofNat a = UInt8.ofNat b := by
  apply UInt8.toNat_inj.1
  rw [u8_toNat, u8_toNat, h]
theorem bytesN8 (n : Nat) : bytesN n 8 = bytes4 (n / 4294967296 % 4294967296) ++ bytes4 (n % 4294967296) := by
  simp only [bytesN, bytes4, List.cons_append, List.nil_append]
  refine List.cons_eq_cons.2 ⟨ofNat_eq (by omega), List.cons_eq_cons.2 ⟨ofNat_eq (by omega), List.cons_eq_cons.2 ⟨ofNat_eq (by omega), List.cons_eq_cons.2 ⟨ofNat_eq (by omega), List.cons_eq_cons.2 ⟨ofNat_eq (by omega), List.cons_eq_cons.2 ⟨ofNat_eq (by omega), List.cons_eq_cons.2 ⟨ofNat_eq (by omega), List.cons_eq_cons.2 ⟨ofNat_eq (by omega), rfl⟩⟩⟩⟩⟩⟩⟩⟩
/-- The bytes of a number while they are written. -/
def byX (n m i : Nat) : List UInt8 := List.replicate (m - i) 0 ++ bytesN n i
theorem byX_next (n : Nat) {m i : Nat} (h : i < m) : (byX n m i).set (m - 1 - i) (UInt8.ofNat (n / 256 ^ i)) = byX n m (i + 1) := by
  unfold byX
  obtain ⟨k, rfl⟩ : ∃ k, m = i + 1 + k := ⟨m - (i + 1), by omega⟩
  rw [show i + 1 + k - i = k + 1 by omega, show i + 1 + k - 1 - i = k by omega, show i + 1 + k - (i + 1) = k by omega, List.replicate_succ', List.append_assoc, List.set_append_right _ _ (by simp), List.length_replicate, Nat.sub_self]
  rfl
theorem byX_len (n : Nat) {m i : Nat} (h : i ≤ m) : (byX n m i).length = m := by
  unfold byX
  rw [List.length_append, List.length_replicate, bytesN_len]
  omega
def UPost (w : World) (l : List UInt8) : Ending → World → Prop := fun e w' => ∃ S, w.heap.size ≤ S ∧ e = .returned (.slice (some ⟨S, 0, none⟩) l.length l.length) ∧ BlkT w' S 5 l ∧ Below w.heap.size w w'

set_option maxRecDepth 100000 in
set_option maxHeartbeats 2000000 in
theorem bytesOf_any (w : World) (n m : Nat) (hm : m ≤ 8) (hn : n < 18446744073709551616) :
    Calls Tryd.prog 74 #[.int .u64 n, .int .i64 m] w (UPost w (bytesN n m)) := by
  obtain ⟨w1, hw1⟩ : ∃ w1, w1 = w.alloc (.cells (cellsU (List.replicate m 0)) 5) := ⟨_, rfl⟩
  have hmk := makeU m (by omega) w
  rw [← hw1] at hmk
  have HB1 : Hid (Below w.heap.size w w1) := Lib.hid (by rw [hw1]; exact (Below.refl _ w).alloc (Nat.le_refl _) _)
  have HK1 : Hid (BlkT w1 w.heap.size 5 (byX n m 0)) := Lib.hid (by
    have h0 := BlkT.new w 5 (List.replicate m 0)
    rw [hw1]
    simpa [byX, bytesN] using h0)
  have HV : Hid (byX n m m = bytesN n m) := Lib.hid (by simp [byX])
  have HL := Lib.hid (bytesN_len n m)
  clear hw1
  unfold UPost
  go_enter Tryd.func74, Tryd.ntmps74
  go_wp2_with fail
  go_loopg [0, 6, 10] m (fun gg s0 s6 s10 wr => ∃ i q : Nat, i ≤ m ∧ m - i ≤ gg ∧ s10 = .int .i64 i ∧ s0 = .int .u64 q ∧ q < 18446744073709551616 ∧ Aside (q = n / 256 ^ i) ∧ Aside (Below w.heap.size w wr) ∧ Aside (BlkT wr w.heap.size 5 (byX n m i)))
  case atStart => exact ⟨0, n, by omega, by omega, rfl, rfl, hn, (show Aside (n = n / 256 ^ 0) from by show n = n / 256 ^ 0; rw [Nat.pow_zero, Nat.div_one]), HB1.out, HK1.out⟩
  case round =>
    obtain ⟨wq, rfl⟩ : ∃ wq : World, wq = wr := ⟨_, rfl⟩
    obtain ⟨i, q, hi, hgi, rfl, rfl, hq, HQ, BW, K⟩ := hrel
    by_cases hil : i < m
    · have hiz : (i : Int) < (m : Int) := by omega
      obtain ⟨j, hj⟩ : ∃ j, j = m - 1 - i := ⟨_, rfl⟩
      have ej : (m : Int) - 1 - (i : Int) = (j : Int) := by omega
      have hjm : (j : Int) < (m : Int) := by omega
      have hj0 : (0 : Int) ≤ (j : Int) := by omega
      obtain ⟨r, hr⟩ : ∃ r, r = q % 256 := ⟨_, rfl⟩
      have er : (q : Int) % 256 = (r : Int) := by omega
      obtain ⟨p, hp⟩ : ∃ p, p = q / 256 := ⟨_, rfl⟩
      have ep : (q : Int) / 256 = (p : Int) := by omega
      have hp64 : p < 18446744073709551616 := by omega
      have HP : Hid (p = n / 256 ^ (i + 1)) := Lib.hid (by rw [hp, HQ.out, Nat.pow_succ, Nat.div_div_eq_div_mul])
      have hlen := byX_len n (m := m) (i := i) (by omega)
      have hc0 := K.out.bytes j ((byX n m i).getD j 0) (getD_some (by omega))
      rw [Nat.zero_add] at hc0
      have hf := K.out.frz j
      have HS : Hid (BlkT (wq.setCell ⟨w.heap.size, j, none⟩ (.int .u8 r)) w.heap.size 5 (byX n m (i + 1))) := Lib.hid (by
        have h1 := K.out.set j (UInt8.ofNat (n / 256 ^ i))
        rw [hj, byX_next n hil, u8_toNat, ← HQ.out, ← hr, ← hj] at h1
        exact h1)
      have hwj : IntKind.i64.wrap ((m : Int) - 1 - (i : Int)) = (j : Int) := by rw [ej]; exact IntWalk.i64_in _ (by omega)
      have HR := Lib.hid hr
      have HPP := Lib.hid hp
      have HJ := Lib.hid hj
      obtain ⟨u, hu⟩ : ∃ u, u = Value.int .u8 (((byX n m i).getD j 0).toNat : Nat) := ⟨_, rfl⟩
      rw [← hu] at hc0
      clear hlen K hr hp hj hu
      go_wp2
      go_roundg (m - (i + 1))
      case measure => omega
      case rel =>
        refine ⟨i + 1, p, by omega, by omega, by go_num, (by first | rfl | rw [ep]), hp64, (show Aside _ from HP.out), (show Aside _ from ?_), (show Aside _ from ?_)⟩
        · exact BW.out.setCell (Nat.le_refl _) _
        · exact HS.out
    · obtain rfl : i = m := by omega
      have hk := K.out
      rw [HV.out] at hk
      have HK := Lib.hid hk
      clear hk K
      go_wp2
      go_ret
      exact ⟨_, Nat.le_refl _, by rw [HL.out]; rfl, HK.out, BW.out⟩
/-- xored at bytes of eight. -/
def fillR (z : List UInt8) (i : Nat) : List UInt8 := fillX z i
set_option maxRecDepth 100000 in
set_option maxHeartbeats 4000000 in
theorem xored_any (w : World) (b o cap c p cap2 : Nat) (l m : List UInt8) (h : BytesAt w b o l) (hl : l.length = 8) (hb : BytesAt w c p m) (hm : m.length = 8) :
    Calls Tryd.prog 75 #[.slice (some ⟨b, o, none⟩) 8 cap, .slice (some ⟨c, p, none⟩) 8 cap2] w (UPost w (xorB l m)) := by
  obtain ⟨z, hz⟩ : ∃ z, z = xorB l m := ⟨_, rfl⟩
  have hzl : z.length = 8 := by rw [hz]; exact xorB_len hl hm
  rw [← hz]
  have HZ := Lib.hid hz
  have HL := Lib.hid h
  have HM := Lib.hid hb
  have HZL := Lib.hid hzl
  have HLL := Lib.hid (And.intro hl hm)
  clear h hb hz hzl hl hm
  obtain ⟨w1, hw1⟩ : ∃ w1, w1 = w.alloc (.cells (cellsU (List.replicate 8 0)) 5) := ⟨_, rfl⟩
  have hmk := makeU 8 (by omega) w
  rw [← hw1] at hmk
  have hmk : (Instr.makeSlice 58 (.int .i64 8) (.int .i64 8)).run Tryd.prog w = .ok (.slice (some ⟨w.heap.size, 0, none⟩) 8 8) w1 := hmk
  have HB1 : Hid (Below w.heap.size w w1) := Lib.hid (by rw [hw1]; exact (Below.refl _ w).alloc (Nat.le_refl _) _)
  have HK1 : Hid (BlkT w1 w.heap.size 5 (fillX z 0)) := Lib.hid (by
    have h0 := BlkT.new w 5 (List.replicate 8 0)
    rw [hw1]
    simpa [fillX] using h0)
  clear hw1
  unfold UPost
  go_enter Tryd.func75, Tryd.ntmps75
  go_wp2_with fail
  go_loopg [6, 12] 8 (fun gg s6 s12 wr => ∃ i : Nat, i ≤ 8 ∧ 8 - i ≤ gg ∧ s12 = .int .i64 i ∧ Aside (Below w.heap.size w wr) ∧ Aside (BlkT wr w.heap.size 5 (fillX z i)))
  case atStart => exact ⟨0, by omega, by omega, rfl, HB1.out, HK1.out⟩
  case round =>
    obtain ⟨wq, rfl⟩ : ∃ wq : World, wq = wr := ⟨_, rfl⟩
    obtain ⟨i, hi, hgi, rfl, BW, K2⟩ := hrel
    by_cases hil : i < 8
    · have hiz : (i : Int) < 8 := by omega
      obtain ⟨x, hx⟩ : ∃ x, l[i]? = some x := ⟨l[i]'(by have := HLL.out.1; omega), by simp⟩
      obtain ⟨y, hy⟩ : ∃ y, m[i]? = some y := ⟨m[i]'(by have := HLL.out.2; omega), by simp⟩
      have hxc := HL.out i x hx
      have hyc := HM.out i y hy
      have cx := (BW.out.cell (p := ⟨b, o + i, none⟩) (World.block_lt_of_cell? w _ hxc)).trans hxc
      have cy := (BW.out.cell (p := ⟨c, p + i, none⟩) (World.block_lt_of_cell? w _ hyc)).trans hyc
      have hzi : z[i]? = some (x ^^^ y) := by rw [HZ.out]; exact xorB_at hx hy
      have HS := Lib.hid (fun v (hv : v = Value.int .u8 (x ^^^ y).toNat) => by
        have := K2.out.set i (x ^^^ y)
        rw [fillX_next HZL.out hzi, ← hv] at this
        exact this)
      have hex : bits .xor .u8 (x.toNat : Int) (y.toNat : Int) = (((x ^^^ y).toNat : Nat) : Int) := by rw [bits_xor_u8 _ _ x.toNat_lt y.toNat_lt, UInt8.toNat_xor]
      obtain ⟨X, hX⟩ : ∃ X, X = x.toNat := ⟨_, rfl⟩
      obtain ⟨Y, hY⟩ : ∃ Y, Y = y.toNat := ⟨_, rfl⟩
      obtain ⟨Z, hZ⟩ : ∃ Z, Z = (x ^^^ y).toNat := ⟨_, rfl⟩
      rw [← hX] at cx hex
      rw [← hY] at cy hex
      rw [← hZ] at hex
      have HZ2 := Lib.hid hZ
      have hq : (wq.cell? ⟨w.heap.size, i, none⟩).isSome = true := by
        have := K2.out.bytes i ((fillX z i).getD i 0) (getD_some (by unfold fillX; rw [List.length_append, List.length_take, List.length_replicate]; have := HZL.out; omega))
        rw [Nat.zero_add] at this
        rw [this]
        rfl
      obtain ⟨u, hu⟩ := Option.isSome_iff_exists.1 hq
      have hf := K2.out.frz i
      clear hx hy hxc hyc hzi hX hY hZ hq K2
      go_upto_region 5 with (fail)
      go_big_region
      all_goals go_wp2
      all_goals
        go_roundg (8 - (i + 1))
        case measure => omega
        case rel => exact ⟨i + 1, by omega, by omega, by go_num, (show Aside _ from (BW.out.setCell (Nat.le_refl _) _).drew), (show Aside _ from by
          have := HS.out (.int .u8 Z) (by rw [HZ2.out])
          exact this)⟩
    · obtain rfl : i = 8 := by omega
      have hk := K2.out
      rw [fillX_all HZL.out] at hk
      have HK := Lib.hid hk
      clear hk K2
      go_wp2
      go_ret
      exact ⟨_, Nat.le_refl _, by rw [HZL.out]; rfl, HK.out, BW.out⟩
end Go.Proofs.YteepbfpcdhdgfaaDoor

/- The cipher of the reference: encrypted. -/
namespace Go.Proofs.YteepbfpcdhdgfaaDoor
open Go.RowKit

theorem number_z {w : World} {b o : Nat} {l : List UInt8} (h : BytesAt w b o l) (cap : Nat) (hi : 4 ≤ l.length) :
    Calls Tryd.prog 91 #[.slice (some ⟨b, o, none⟩) 4 cap] w fun e w' => e = .returned (.int .u64 (numAt l 0 : Nat)) ∧ w = w' := number_at h 0 cap (by omega)
theorem bytesOf4_any (w : World) (n : Nat) (hn : n < 4294967296) :
    Calls Tryd.prog 74 #[.int .u64 n, .int .i64 4] w (UPost w (bytes4 n)) := by
  have h := bytesOf_any w n 4 (by omega) (by omega)
  rw [bytesN4] at h
  exact h
set_option maxRecDepth 100000 in
set_option maxHeartbeats 4000000 in
theorem encrypted_any (w : World) (b o cap c p cap2 : Nat) (k l : List UInt8) (h : BytesAt w b o k) (hk : k.length = 16) (hc : 16 ≤ cap) (hcm : cap ≤ maxLen) (hb : BytesAt w c p l) (hl : l.length = 8) (hc2 : 8 ≤ cap2) (hcm2 : cap2 ≤ maxLen) :
    Calls Tryd.prog 76 #[.slice (some ⟨b, o, none⟩) 16 cap, .slice (some ⟨c, p, none⟩) 8 cap2] w (OwnRet w 5 1 encU (encZ k l)) := by
  have H0 := Lib.hid (fun (W : World) (hB : Below w.heap.size w W) cap => number_z (hb.below hB) cap (by omega))
  have H4 := Lib.hid (fun (W : World) (hB : Below w.heap.size w W) cap => number_at (hb.below hB) 4 cap (by omega))
  have HKY := Lib.hid (fun (W : World) (hB : Below w.heap.size w W) j cap (hj : j < 4) => number_at (h.below hB) (4 * j) cap (by omega))
  have HV : Hid (encZ k l = bytes4 (rndsN (kwN k) ⟨numAt l 0, numAt l 4, 0⟩ 16).a ++ bytes4 (rndsN (kwN k) ⟨numAt l 0, numAt l 4, 0⟩ 16).b) := Lib.hid rfl
  have hlt0 := numAt_lt l 0
  have hlt4 := numAt_lt l 4
  have HKL := Lib.hid (fun j => numAt_lt k j)
  generalize numAt l 0 = A0 at H0 HV hlt0
  generalize numAt l 4 = B0 at H4 HV hlt4
  obtain ⟨x0, hx0⟩ : ∃ x : Hlf, x = ⟨A0, B0, 0⟩ := ⟨_, rfl⟩
  have hok0 : okHl x0 := by rw [hx0]; exact ⟨hlt0, hlt4, (show (0 : Nat) < 4294967296 by decide)⟩
  rw [← hx0] at HV
  have HX0 := Lib.hid hx0
  have HOK := Lib.hid (rndsN_ok (K := kwN k) hok0)
  clear h hb hl hk hlt0 hlt4 hx0 hok0
  unfold maxLen at hcm hcm2
  have z1 : (4 : Int) ≤ (cap2 : Int) := by omega
  have z2 : (8 : Int) ≤ (cap2 : Int) := by omega
  go_enter Tryd.func76, Tryd.ntmps76
  go_upto_region 1 with (fail)
  go_cut [5, 6] (fun s5 s6 wc => s5 = .int .u64 A0 ∧ s6 = .int .u64 B0 ∧ ∃ q, wc = w.drewN q)
  case first =>
    have HQA : ∀ q, Below w.heap.size w (w.drewN q) := fun q => below_drewN (Below.refl _ w) q
    have HQ1 : Below w.heap.size w w.drew := HQA 1
    go_region_held3 (fun _ => True) (first | exact True.intro | fail)
      (first
           | (go_at_call 91; (with_reducible refine (H0.out _ HQ1 _).mono ?_); rintro e w' ⟨rfl, rfl⟩)
           | (go_at_call 91; (with_reducible refine (H0.out _ (HQA _) _).mono ?_); rintro e w' ⟨rfl, rfl⟩)
           | (go_at_call 91; (with_reducible refine (H4.out _ HQ1 _).mono ?_); rintro e w' ⟨rfl, rfl⟩)
           | (go_at_call 91; (with_reducible refine (H4.out _ (HQA _) _).mono ?_); rintro e w' ⟨rfl, rfl⟩) | fail)
    go_wp2
    go_meet
    exact ⟨rfl, rfl, _, rfl⟩
  obtain ⟨rfl, rfl, q0, rfl⟩ := hcut
  obtain ⟨wd, hwd⟩ : ∃ wd, wd = w.drewN q0 := ⟨_, rfl⟩
  have HBD : Hid (Below w.heap.size w wd) := Lib.hid (by rw [hwd]; exact below_drewN (Below.refl _ w) q0)
  rw [← hwd]
  clear hwd
  go_wp2
  go_loopg [5, 6, 7, 8, 15] 16 (fun gg s5 s6 s7 s8 s15 wr => ∃ (i : Nat) (y : Hlf), i ≤ 16 ∧ 16 - i ≤ gg ∧ s15 = .int .i64 i ∧ s5 = .int .u64 (y.a : Nat) ∧ s6 = .int .u64 (y.b : Nat) ∧ s7 = .int .u64 (y.s : Nat) ∧ wr = wd ∧ Aside (y = rndsN (kwN k) x0 i))
  case atStart => exact ⟨0, ⟨A0, B0, 0⟩, by omega, by omega, rfl, rfl, rfl, rfl, rfl, (show Aside _ from HX0.out.symm)⟩
  case round =>
    obtain ⟨i, ⟨a, b', s⟩, hi, hgi, rfl, rfl, rfl, rfl, hwe, HY⟩ := hrel
    subst hwe
    have hok := HOK.out i
    rw [← HY.out] at hok
    obtain ⟨oa, ob, os⟩ := hok
    simp only at oa ob os
    by_cases hil : i < 16
    · have hiz : (i : Int) < 16 := by omega
      obtain ⟨j1, hj1⟩ : ∃ j, j = s % 4 := ⟨_, rfl⟩
      obtain ⟨K1, hK1⟩ : ∃ z, z = kwN k j1 := ⟨_, rfl⟩
      obtain ⟨m2, hm2⟩ : ∃ z, z = addN b' s K1 := ⟨_, rfl⟩
      obtain ⟨m3, hm3⟩ : ∃ z, z = (a + m2) % 4294967296 := ⟨_, rfl⟩
      obtain ⟨m4, hm4⟩ : ∃ z, z = (s + 2654435769) % 4294967296 := ⟨_, rfl⟩
      obtain ⟨j2, hj2⟩ : ∃ j, j = m4 / 2048 % 4 := ⟨_, rfl⟩
      obtain ⟨K2, hK2⟩ : ∃ z, z = kwN k j2 := ⟨_, rfl⟩
      obtain ⟨m6, hm6⟩ : ∃ z, z = addN m3 m4 K2 := ⟨_, rfl⟩
      obtain ⟨m7, hm7⟩ : ∃ z, z = (b' + m6) % 4294967296 := ⟨_, rfl⟩
      have HNX : Hid ((⟨m3, m7, m4⟩ : Hlf) = rndsN (kwN k) x0 (i + 1)) := Lib.hid (by
        show _ = rndN (kwN k) (rndsN (kwN k) x0 i)
        rw [← HY.out, hm7, hm6, hK2, hj2, hm4, hm3, hm2, hK1, hj1]
        rfl)
      have lK1 : K1 < 4294967296 := by rw [hK1]; exact HKL.out _
      have lK2 : K2 < 4294967296 := by rw [hK2]; exact HKL.out _
      have lm2 : m2 < 4294967296 := by rw [hm2]; exact addN_lt _ _ _
      have lm6 : m6 < 4294967296 := by rw [hm6]; exact addN_lt _ _ _
      have lm : m3 < 4294967296 ∧ m4 < 4294967296 := by omega
      obtain ⟨lm3, lm4⟩ := lm
      have lj1 : j1 < 4 := by omega
      have lj2 : j2 < 4 := by omega
      obtain ⟨J1, hJ1⟩ : ∃ J, J = 4 * j1 := ⟨_, rfl⟩
      obtain ⟨J2, hJ2⟩ : ∃ J, J = 4 * j2 := ⟨_, rfl⟩
      have HN1 := Lib.hid (fun cap => HKY.out wr HBD.out j1 cap lj1)
      have HN2 := Lib.hid (fun cap => HKY.out wr HBD.out j2 cap lj2)
      have eK1 : numAt k (4 * j1) = K1 := hK1.symm
      have eK2 : numAt k (4 * j2) = K2 := hK2.symm
      rw [eK1, ← hJ1] at HN1
      rw [eK2, ← hJ2] at HN2
      have HM1 := Lib.hid (fun W => mixed_any b' s K1 W ob os lK1)
      have HM2 := Lib.hid (fun W => mixed_any m3 m4 K2 W lm3 lm4 lK2)
      rw [← hm2] at HM1
      rw [← hm6] at HM2
      have e1 : (s : Int) % 4 = (j1 : Int) := by omega
      have e2 : 4 * (j1 : Int) = (J1 : Int) := by omega
      have e4 : ((a : Int) + (m2 : Int)) % 4294967296 = (m3 : Int) := by omega
      have e5 : ((s : Int) + 2654435769) % 4294967296 = (m4 : Int) := by omega
      have e6 : (m4 : Int) / 2048 % 4 = (j2 : Int) := by omega
      have e7 : 4 * (j2 : Int) = (J2 : Int) := by omega
      have e9 : ((b' : Int) + (m6 : Int)) % 4294967296 = (m7 : Int) := by omega
      have lJ1 : (J1 : Int) + 4 ≤ 16 := by omega
      have lJ2 : (J2 : Int) + 4 ≤ 16 := by omega
      have lc : (16 : Int) ≤ (cap : Int) := by omega
      clear hj1 hK1 hm2 hm3 hm4 hj2 hK2 hm6 hm7 HY eK1 eK2 hJ1 hJ2
      go_wp2_with fail
      refine (HN1.out _).mono ?_
      rintro e w' ⟨rfl, rfl⟩
      go_wp2_with fail
      refine (HM1.out _).mono ?_
      rintro e w' ⟨rfl, rfl⟩
      go_wp2_with fail
      refine (HN2.out _).mono ?_
      rintro e w' ⟨rfl, rfl⟩
      go_wp2_with fail
      refine (HM2.out _).mono ?_
      rintro e w' ⟨rfl, rfl⟩
      go_wp2_with fail
      go_roundg (16 - (i + 1))
      case measure => omega
      case rel => exact ⟨i + 1, ⟨m3, m7, m4⟩, by omega, by omega, by go_num, (by first | with_reducible rfl | rw [e4]), (by first | with_reducible rfl | rw [e9]), (by first | with_reducible rfl | rw [e5]), rfl, (show Aside _ from HNX.out)⟩
    · obtain rfl : i = 16 := by omega
      have HV2 : Hid (encZ k l = bytes4 a ++ bytes4 b') := Lib.hid (by rw [HV.out, ← HY.out])
      have HC1 := Lib.hid (fun W => bytesOf4_any W a oa)
      have HC2 := Lib.hid (fun W => bytesOf4_any W b' ob)
      have hl1 : (bytes4 a).length = 4 := rfl
      have hl2 : (bytes4 b').length = 4 := rfl
      obtain ⟨ya, hya⟩ : ∃ y, y = bytes4 a := ⟨_, rfl⟩
      obtain ⟨yb, hyb⟩ : ∃ y, y = bytes4 b' := ⟨_, rfl⟩
      rw [← hya] at HC1 HV2 hl1
      rw [← hyb] at HC2 HV2 hl2
      unfold UPost at HC1 HC2
      rw [hl1] at HC1
      rw [hl2] at HC2
      have HL := Lib.hid (And.intro hl1 hl2)
      clear oa ob HY HOK hya hyb hl1 hl2
      go_wp2_with fail
      refine (HC1.out _).mono ?_
      rintro e w3 ⟨S, hS, rfl, hk3, hb3⟩
      have HB3 := Lib.hid (HBD.out.thru hb3)
      have hbs := HBD.out.size
      have HO3 := Lib.hid (hk3.own (base := w.heap.size) (by omega) HL.out.1 (by rw [HL.out.1]; omega))
      clear hS hk3 hb3 hbs
      go_wp2_with fail
      refine (HC2.out _).mono ?_
      rintro e w4 ⟨S2, hS2, rfl, hk4, hb4⟩
      have HB4 := Lib.hid (HB3.out.thru hb4)
      have HO4 := Lib.hid (HO3.out.below hb4 (Nat.le_refl _))
      have HS4 := Lib.hid (hk4.bytes.sl HL.out.2 (Nat.le_refl _) (by unfold maxLen; omega))
      have hn : (ya.length + yb.length) * 1 ≤ 140737488355328 := by rw [HL.out.1, HL.out.2]; omega
      clear hS2 hk4 hb4
      go_wp2_with (at_builtin; refine wpList_extend (v := .slice (some ⟨S, 0, none⟩) 4 4) (u := .slice (some ⟨S2, 0, none⟩) 4 4) (l := ya) (m := yb) rfl _ _ 58 rfl slU encU_len (fun _ => rfl) rfl rfl HO4.out HS4.out hn HB4.out.size ?_; intro v5 w5 ho5 hb5; have HO5 := Lib.hid ho5; have HB5 := Lib.hid (HB4.out.trans hb5); clear ho5 hb5)
      go_ret
      exact ⟨_, rfl, by rw [HV2.out]; exact HO5.out, HB5.out⟩
end Go.Proofs.YteepbfpcdhdgfaaDoor

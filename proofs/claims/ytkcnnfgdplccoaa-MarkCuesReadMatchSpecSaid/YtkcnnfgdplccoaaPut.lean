/- put: bits are added. -/
import Derived.Test.YtkcnnfgdplccoaaBitL
import Derived.Test.YtkcnnfgdplccoaaCrc
import Derived.Laws.BitsAllLaws
import Derived.StillTailTactics
namespace Go.Proofs.Ytkcnnfgdplccoaa
open Go.RowKit

theorem infoU : (Try.prog.info? 5).map (fun i => (i.zero, i.size, i.bytes)) = some (some (.int .u8 0), 1, 1) := by kernel_rfl
theorem slU : SlT Try.prog 22 5 1 1 := by
  obtain ⟨i0, hi, hz0, hz1, hz2⟩ := info_parts infoU
  exact ⟨i0, _, Try.underlying22, hi, hz0, hz1, hz2, rfl, by decide, by decide⟩

theorem froz_of_block {w : World} {b i : Nat} {c : Array Value} {T : TypeId} (h : w.heap[b]? = some (.cells c T (0, 0))) : w.frozen? ⟨b, i, none⟩ = false := by simp [World.frozen?, h]
theorem lt_of_block {w : World} {b : Nat} {o : Obj} (h : w.heap[b]? = some o) : b < w.heap.size := (Array.getElem?_eq_some_iff.1 h).1
theorem ofInt_64 (a : Nat) (ha : a < 18446744073709551616) : (BitVec.ofInt 64 (a : Int)).toNat = a := by
  rw [BitVec.ofInt_natCast, BitVec.toNat_ofNat]; exact Nat.mod_eq_of_lt ha
theorem and1 (m : Nat) (hm : m < 9223372036854775808) : bits .and .i64 (m : Int) 1 = ((m % 2 : Nat) : Int) := by
  show IntKind.i64.wrap ((BitVec.ofInt 64 (m : Int) &&& BitVec.ofInt 64 ((1 : Nat) : Int)).toNat : Int) = _
  rw [BitVec.toNat_and, ofInt_64 m (by omega), ofInt_64 1 (by omega), Nat.and_one_is_mod, IntKind.wrap_i64]
  omega
theorem bit_at (n q : Nat) : n / 2 ^ q % 2 = b01 (n.testBit q) := by
  rw [Nat.testBit_eq_decide_div_mod_eq]
  have : n / 2 ^ q % 2 < 2 := Nat.mod_lt _ (by omega)
  unfold b01
  by_cases h : n / 2 ^ q % 2 = 1
  · simp [h]
  · have h0 : n / 2 ^ q % 2 = 0 := by omega
    simp [h0]
theorem onB_lt (t : Bool) (r : Nat) : onB t r < 256 := by
  unfold onB
  have h1 := b01_lt t
  have h2 : 2 ^ (7 - r) ≤ 2 ^ 7 := Nat.pow_le_pow_right (by omega) (by omega)
  have h3 : b01 t * 2 ^ (7 - r) ≤ 1 * 2 ^ 7 := Nat.mul_le_mul (by omega) h2
  omega
/-- Block P holds a list of bits, whose bytes lie behind P. -/
def BL (w : World) (P : Nat) (L : List Bool) (v : Value) : Prop := w.heap[P]? = some (.cells #[v, .int .i64 L.length] 42 (0, 0)) ∧ Own w (P + 1) 5 1 encU v (pkD false L)
theorem Own.setP {α : Type} {w : World} {base P : Nat} {E : TypeId} {k : Nat} {enc : α → List Value} {v : Value} {l : List α} (h : Own w base E k enc v l) (hP : P < base) (i : Nat) (x : Value) : Own (w.setCell ⟨P, i, none⟩ x) base E k enc v l := by
  obtain ⟨h1, h2⟩ := h
  refine ⟨h1, ?_⟩
  rcases h2 with h2 | ⟨g, cap, cur, hv, hg, hh, r⟩
  · exact .inl h2
  · exact .inr ⟨g, cap, cur, hv, hg, (Below.heap_setCell w ⟨P, i, none⟩ x g (show g ≠ P by omega)).trans hh, r⟩
/-- Blocks of other types than bytes are as they were, but for block P. -/
def KeepP (P : Nat) (w w' : World) : Prop := ∀ (b : Nat) (c : Array Value) (T : TypeId) (fr : Nat × Nat), w.heap[b]? = some (Obj.cells c T fr) → T ≠ 5 → b ≠ P → w'.heap[b]? = some (Obj.cells c T fr)
theorem KeepP.refl (P : Nat) (w : World) : KeepP P w w := fun _ _ _ _ h _ _ => h
theorem KeepP.trans {P : Nat} {a b c : World} (h : KeepP P a b) (k : KeepP P b c) : KeepP P a c := fun i d T fr h1 h2 h3 => k i d T fr (h i d T fr h1 h2 h3) h2 h3
theorem KeepP.of_keep {P : Nat} {a b : World} (h : KeepT 5 a b) : KeepP P a b := fun i d T fr h1 h2 _ => h i d T fr h1 h2
theorem KeepP.set {P : Nat} (w : World) (o : Nat) (v : Value) : KeepP P w (w.setCell ⟨P, o, none⟩ v) := fun i _ _ _ h1 _ h3 => (Below.heap_setCell w ⟨P, o, none⟩ v i h3).trans h1
theorem KeepP.setU {P g : Nat} {w : World} {c0 : Array Value} {fr0 : Nat × Nat} (hg : w.heap[g]? = some (Obj.cells c0 5 fr0)) (o : Nat) (v : Value) : KeepP P w (w.setCell ⟨g, o, none⟩ v) := fun i d T fr h1 h2 _ => by
  have hne : i ≠ g := fun e => by
    subst e
    rw [hg] at h1
    simp only [Option.some.injEq, Obj.cells.injEq] at h1
    exact h2 h1.2.1.symm
  exact (Below.heap_setCell w ⟨g, o, none⟩ v i hne).trans h1
def PutP (w : World) (P : Nat) (L : List Bool) : Ending → World → Prop := fun e w' => e = .returned (.tuple #[]) ∧ (∃ v, BL w' P L v) ∧ Below P w w' ∧ KeepP P w w'

set_option maxRecDepth 100000 in
set_option maxHeartbeats 4000000 in
theorem put_any (w : World) (P : Nat) (L : List Bool) (v : Value) (n many : Nat) (hb : BL w P L v) (hm : many ≤ 60) (hn : n < 1152921504606846976) (hL : L.length ≤ 1000) :
    Calls Try.prog 19 #[.pointer (some ⟨P, 0, none⟩), .int .i64 n, .int .i64 many] w (PutP w P (L ++ bitsN n many)) := by
  have HBL := Lib.hid hb
  have HRET : Hid (∀ k, k = many → L ++ bitsN n many = L ++ bitsN n k) := Lib.hid (fun k h => by rw [h])
  clear hb
  go_enter Try.func19, Try.ntmps19
  go_wp2
  go_loopg [6] (many + 1) (fun gg s6 wr => ∃ (k : Nat) (z : Int) (M : List Bool) (u : Value), k ≤ many ∧ k ≤ gg ∧ s6 = .int .i64 z ∧ -1 ≤ z ∧ z ≤ 60 ∧ Aside (z = (k : Int) - 1) ∧ Aside (L ++ bitsN n many = M ++ bitsN n k) ∧ Aside (BL wr P M u) ∧ Aside (Below P w wr) ∧ Aside (KeepP P w wr))
  case atStart => exact ⟨many, (many : Int) - 1, L, v, Nat.le_refl _, by omega, by go_num, by omega, by omega, (show _ = _ from rfl), (show _ = _ from rfl), HBL.out, Below.refl _ _, KeepP.refl _ _⟩
  obtain ⟨k, z, M, u, hk, hg, rfl, hz1, hz2, HZ, HM, HB, BW, KW⟩ := hrel
  have HKW := Lib.hid KW.out
  have hz := HZ.out
  have HM := Lib.hid HM.out
  have HB := Lib.hid HB.out
  have HBW := Lib.hid BW.out
  clear HZ BW KW
  cases k with
  | zero =>
    obtain rfl : z = -1 := by omega
    clear hz hz1 hz2
    go_wp2
    go_end0
    exact ⟨rfl, ⟨u, by rw [HM.out]; simpa [bitsN] using HB.out⟩, HBW.out, HKW.out⟩
  | succ q =>
    obtain rfl : z = q := by omega
    clear hz hz1 hz2
    have hML : M.length ≤ 1060 := by
      have := congrArg List.length HM.out
      simp [bitsN_len] at this
      omega
    have c0 := (cell_of_block (i := 0) HB.out.1).trans rfl
    have c1 := (cell_of_block (i := 1) HB.out.1).trans rfl
    have f0 := froz_of_block (i := 0) HB.out.1
    have f1 := froz_of_block (i := 1) HB.out.1
    have hPl := lt_of_block HB.out.1
    obtain ⟨uo, uL, uc, rfl⟩ := Own.slv encU_len HB.out.2
    have hroom := roomB_get M
    have HRM : Hid (roomB M = if M.length % 8 = 0 then pkD false M ++ [0] else pkD false M) := Lib.hid rfl
    have HSET := Lib.hid (put_bit M (n.testBit q))
    have HMQ : Hid (L ++ bitsN n many = (M ++ [n.testBit q]) ++ bitsN n q) := Lib.hid (by rw [HM.out, List.append_assoc]; rfl)
    have hpl := pkD_len false M
    have hp8 : Hid ((M.length : Int) % 8 = ((M.length % 8 : Nat) : Int)) := Lib.hid (by omega)
    go_upto_if 18 with (fail)
    go_cut [18] (fun s18 w4 => ∃ u2 : Value, Aside (w4.heap[P]? = some (.cells #[u2, .int .i64 M.length] 42 (0, 0))) ∧ Aside (Own w4 (P + 1) 5 1 encU u2 (roomB M)) ∧ Aside (Below P wr w4) ∧ Aside (KeepP P wr w4))
    case first =>
      by_cases h8 : M.length % 8 = 0
      · have hd : ((M.length : Int) % 8 == 0) = true := by rw [beq_iff_eq]; omega
        have HR2 : Hid (pkD false M ++ [0] = roomB M) := Lib.hid (by rw [HRM.out, if_pos h8])
        have hcnt : Hid (((pkD false M).length + 1) * 1 ≤ 140737488355328) := Lib.hid (by omega)
        clear h8
        go_wp2_with (at_builtin; refine wpList_pushK rfl _ _ 22 rfl slU rfl rfl (0 : UInt8) rfl rfl rfl HB.out.2 rfl hcnt.out hPl ?_; intro v5 w5 ho5 hb5 hk5; have HK5 := Lib.hid hk5; obtain ⟨ao6, L6, cp6, rfl⟩ := Own.slv encU_len ho5; have HO5 := Lib.hid ho5; have HB5 := Lib.hid hb5; have hP5 := (hb5.block P (Nat.lt_succ_self P)).trans HB.out.1; have HP5 := Lib.hid hP5; have d0 := (cell_of_block (i := 0) hP5).trans rfl; have d1 := (cell_of_block (i := 1) hP5).trans rfl; have e0 := froz_of_block (i := 0) hP5; have hl5 := lt_of_block hP5; clear ho5 hb5 hP5 hk5)
        go_meet
        exact ⟨.slice ao6 L6 cp6, (heap_setCell_same _ P 0 _ _ _ HP5.out).trans rfl, (show Own _ _ _ _ _ _ _ by rw [← HR2.out]; exact HO5.out.setP (Nat.lt_succ_self P) 0 _), ((HB5.out.mono (Nat.le_succ P)).setCell (Nat.le_refl P) _), ((KeepP.of_keep HK5.out).trans (KeepP.set _ 0 _))⟩
      · have hd : ((M.length : Int) % 8 == 0) = false := by rw [beq_eq_false_iff_ne]; omega
        have HR2 : Hid (pkD false M = roomB M) := Lib.hid (by rw [HRM.out, if_neg h8])
        clear h8
        go_wp2
        go_meet
        exact ⟨_, HB.out.1, (show Own _ _ _ _ _ _ _ by rw [← HR2.out]; exact HB.out.2), Below.refl _ _, KeepP.refl _ _⟩
    obtain ⟨u2, HP4, HO4, HB4, HK4⟩ := hcut
    have HKW4 := Lib.hid (HKW.out.trans HK4.out)
    obtain ⟨w4, rfl⟩ : ∃ w4, w4 = wc := ⟨_, rfl⟩
    have HP4 := Lib.hid HP4.out
    obtain ⟨g, cp, rfl, hgb, hgl, hgc, hgm, hgcell, hgf⟩ := Own.getk encU_len HO4.out (by intro h; rw [h] at hroom; simp at hroom)
    have HO4 := Lib.hid HO4.out
    have HBW4 := Lib.hid (HBW.out.trans HB4.out)
    clear c0 c1 f0 f1 HB4
    have c0 := (cell_of_block (i := 0) HP4.out).trans rfl
    have c1 := (cell_of_block (i := 1) HP4.out).trans rfl
    have f1 := froz_of_block (i := 1) HP4.out
    have hPl4 := lt_of_block HP4.out
    have cb : w4.cell? ⟨g, M.length / 8, none⟩ = some (.int .u8 (byD false M (M.length / 8))) := by
      have := hgcell _ _ 0 _ hroom.1 rfl
      have hlt := byD_lt false M (M.length / 8)
      simp only [UInt8.toNat_ofNat', Nat.mod_eq_of_lt hlt] at this
      simpa using this
    have fb := hgf (M.length / 8)
    rw [hroom.2] at hgc HP4 HO4 c0 c1
    have hgz : ((M.length / 8 : Nat) : Int) < ((M.length / 8 + 1 : Nat) : Int) := by omega
    obtain ⟨Q, hQ⟩ : ∃ Q, Q = M.length / 8 := ⟨_, rfl⟩
    obtain ⟨r, hr⟩ : ∃ r, r = M.length % 8 := ⟨_, rfl⟩
    have hr8 : r < 8 := by omega
    have hdiv : (M.length : Int) / 8 = (Q : Int) := by omega
    have hmod : (M.length : Int) % 8 = (r : Int) := by omega
    have td : (M.length : Int).tdiv 8 = (Q : Int) := by rw [Int.tdiv_eq_ediv_of_nonneg (by omega)]; exact hdiv
    have tm : (M.length : Int).tmod 8 = (r : Int) := by rw [Int.tmod_eq_emod_of_nonneg (by omega)]; exact hmod
    have m1 : IntKind.i64.wrap (Q : Int) = (Q : Int) := IntWalk.i64_in _ (by omega)
    have m2 : IntKind.i64.wrap (7 - (r : Int)) = 7 - (r : Int) := IntWalk.i64_in _ (by omega)
    have m3 : (7 - (r : Int)).toNat = 7 - r := by omega
    have m4 : (0 : Int) ≤ 7 - (r : Int) := by omega
    have m5 : 7 - (r : Int) ≤ 8 := by omega
    rw [← hQ] at cb fb c0 hgc hgz HP4 HO4
    have m6 : (Q : Int) < (Q : Int) + 1 := by omega
    have m7 : (q : Int) ≤ 64 := by omega
    have m8 : (0 : Int) ≤ (q : Int) := by omega
    have hdq : (n : Int) / 2 ^ q = ((n / 2 ^ q : Nat) : Int) := by rw [Int.natCast_ediv]; simp
    have hdl : n / 2 ^ q ≤ n := Nat.div_le_self _ _
    have hand : bits .and .i64 ((n : Int) / 2 ^ q) 1 = (b01 (n.testBit q) : Int) := by rw [hdq, and1 _ (by omega), bit_at]
    have hbl := b01_lt (n.testBit q)
    have hwu : IntKind.u8.wrap (b01 (n.testBit q) : Int) = (b01 (n.testBit q) : Int) := by rw [IntKind.wrap_u8']; omega
    have hol := onB_lt (n.testBit q) r
    have hshl : IntKind.u8.wrap ((b01 (n.testBit q) : Int) * 2 ^ (7 - r)) = (onB (n.testBit q) r : Int) := by
      have e : (b01 (n.testBit q) : Int) * 2 ^ (7 - r) = (onB (n.testBit q) r : Int) := by unfold onB; simp
      rw [e, IntKind.wrap_u8']; omega
    have hor : bits .or .u8 (byD false M Q : Int) (onB (n.testBit q) r : Int) = ((byD false M Q ||| onB (n.testBit q) r : Nat) : Int) := u8_or_nat _ _ (byD_lt _ _ _) hol
    have HQ := Lib.hid hQ
    have HR := Lib.hid hr
    have holt : byD false M Q ||| onB (n.testBit q) r < 256 := Nat.or_lt_two_pow (n := 8) (byD_lt _ _ _) hol
    have HNEW : Hid (BL ((w4.setCell ⟨g, Q, none⟩ (.int .u8 ((byD false M Q ||| onB (n.testBit q) r : Nat) : Int))).setCell ⟨P, 1, none⟩ (.int .i64 ((M.length : Int) + 1))).drew P (M ++ [n.testBit q]) (.slice (some ⟨g, 0, none⟩) (Q + 1) cp)) := Lib.hid (by
      have hs := Own.store (i := Q) (j := 0) (x := UInt8.ofNat (byD false M Q)) (y := UInt8.ofNat (byD false M Q ||| onB (n.testBit q) r)) (u := .int .u8 ((byD false M Q ||| onB (n.testBit q) r : Nat) : Int)) encU_len HO4.out (by rw [hroom.2, hQ]) (by rw [hQ]; exact hroom.1) (by omega) (by
        simp only [encU, UInt8.toNat_ofNat', Nat.mod_eq_of_lt holt, List.set_cons_zero])
      have e1 : Q * 1 + 0 = Q := by omega
      rw [e1] at hs
      have e2 : (roomB M).set Q (UInt8.ofNat (byD false M Q ||| onB (n.testBit q) r)) = pkD false (M ++ [n.testBit q]) := by rw [hQ, hr]; exact HSET.out
      rw [e2] at hs
      refine ⟨?_, hs.setP (Nat.lt_succ_self P) 1 _⟩
      have h1 := (Below.heap_setCell w4 ⟨g, Q, none⟩ (.int .u8 ((byD false M Q ||| onB (n.testBit q) r : Nat) : Int)) P (show P ≠ g by omega)).trans HP4.out
      have h2 := heap_setCell_same _ P 1 _ _ (.int .i64 ((M.length : Int) + 1)) h1
      show ((w4.setCell ⟨g, Q, none⟩ _).setCell ⟨P, 1, none⟩ _).heap[P]? = _
      rw [h2, List.length_append, List.length_singleton]
      simp)
    have HBN : Hid (Below P w ((w4.setCell ⟨g, Q, none⟩ (.int .u8 ((byD false M Q ||| onB (n.testBit q) r : Nat) : Int))).setCell ⟨P, 1, none⟩ (.int .i64 ((M.length : Int) + 1))).drew) := Lib.hid (((HBW4.out.setCell (p := ⟨g, Q, none⟩) (by show P ≤ g; omega) _).setCell (p := ⟨P, 1, none⟩) (Nat.le_refl P) _).drew)
    have HKN : Hid (KeepP P w ((w4.setCell ⟨g, Q, none⟩ (.int .u8 ((byD false M Q ||| onB (n.testBit q) r : Nat) : Int))).setCell ⟨P, 1, none⟩ (.int .i64 ((M.length : Int) + 1))).drew) := Lib.hid (by
      obtain ⟨cur, hcur⟩ := Own.blk HO4.out
      exact (HKW4.out.trans (KeepP.setU hcur Q _)).trans (KeepP.set _ 1 _))
    clear hQ hr hdq hdl hol hroom holt
    clear hgcell hgf
    go_upto_region 5 with (fail)
    go_still_tail 24, (by kernel_rfl)
    change wpList _ _ _ _ _ w4.drew
    go_wp2
    go_roundg q
    case measure => omega
    case rel => exact ⟨q, (q : Int) - 1, M ++ [n.testBit q], .slice (some ⟨g, 0, none⟩) (Q + 1) cp, by omega, by omega, by go_num, by omega, by omega, (show _ = _ from rfl), HMQ.out, HNEW.out, HBN.out, HKN.out⟩
end Go.Proofs.Ytkcnnfgdplccoaa

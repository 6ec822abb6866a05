/- put: bits are added. -/
import Derived.Test.YtpdeodoidlcdoaaG25
import Derived.Laws.BitsAllLaws
import Derived.StillTailTactics
import Derived.Test.YtpdeodoidlcdoaaG05
namespace Go.Proofs.Ytpdeodoidlcdoaa
open Go.RowKit

theorem infoU : (Try.prog.info? 5).map (fun i => (i.zero, i.size, i.bytes)) = some (some (.int .u8 0), 1, 1) := by kernel_rfl
theorem slU : SlT Try.prog 24 5 1 1 := by
  obtain ⟨i0, hi, hz0, hz1, hz2⟩ := info_parts infoU
  exact ⟨i0, _, Try.underlying24, hi, hz0, hz1, hz2, rfl, by decide, by decide⟩

theorem froz_of_block {w : World} {b i : Nat} {c : Array Value} {T : TypeId} (h : w.heap[b]? = some (.cells c T (0, 0))) : w.frozen? ⟨b, i, none⟩ = false := by simp [World.frozen?, h]
theorem lt_of_block {w : World} {b : Nat} {o : Obj} (h : w.heap[b]? = some o) : b < w.heap.size := (Array.getElem?_eq_some_iff.1 h).1
theorem ofInt_64 (a : Nat) (ha : a < 18446744073709551616) : (BitVec.ofInt 64 (a : Int)).toNat = a := by
  rw [BitVec.ofInt_natCast, BitVec.toNat_ofNat]; exact Nat.mod_eq_of_lt ha
theorem and1 (m : Nat) (hm : m < 9223372036854775808) : bits .and .i64 (m : Int) 1 = ((m % 2 : Nat) : Int) := by
  show IntKind.i64.wrap ((BitVec.ofInt 64 (m : Int) &&& BitVec.ofInt 64 ((1 : Nat) : Int)).toNat : Int) = _
  rw [BitVec.toNat_and, ofInt_64 m (by omega), ofInt_64 1 (by omega), Nat.and_one_is_mod, IntKind.wrap_i64]
  omega
theorem bit_at (n q : Nat) : n / 2 ^ q % 2 = b01 (n.testBit q) := by
  rw [Nat.testBit_eq_decide_div_mod_eq]
  have : n / 2 ^ q % 2 < 2 := Nat.mod_lt _ (by omega)
  unfold b01
  by_cases h : n / 2 ^ q % 2 = 1
  · simp [h]
  · have h0 : n / 2 ^ q % 2 = 0 := by omega
    simp [h0]
theorem onB_lt (t : Bool) (r : Nat) : onB t r < 256 := by
  unfold onB
  have h1 := b01_lt t
  have h2 : 2 ^ (7 - r) ≤ 2 ^ 7 := Nat.pow_le_pow_right (by omega) (by omega)
  have h3 : b01 t * 2 ^ (7 - r) ≤ 1 * 2 ^ 7 := Nat.mul_le_mul (by omega) h2
  omega
/-- Block P holds a list of bits, whose bytes lie behind P. -/
def BL (w : World) (P : Nat) (L : List Bool) (v : Value) : Prop := w.heap[P]? = some (.cells #[v, .int .i64 L.length] 57 (0, 0)) ∧ Own w (P + 1) 5 1 encU v (pkD false L)
theorem Own.setP {α : Type} {w : World} {base P : Nat} {E : TypeId} {k : Nat} {enc : α → List Value} {v : Value} {l : List α} (h : Own w base E k enc v l) (hP : P < base) (i : Nat) (x : Value) : Own (w.setCell ⟨P, i, none⟩ x) base E k enc v l := by
  obtain ⟨h1, h2⟩ := h
  refine ⟨h1, ?_⟩
  rcases h2 with h2 | ⟨g, cap, cur, hv, hg, hh, r⟩
  · exact .inl h2
  · exact .inr ⟨g, cap, cur, hv, hg, (Below.heap_setCell w ⟨P, i, none⟩ x g (show g ≠ P by omega)).trans hh, r⟩
/-- Blocks of other types than bytes are as they were, but for block P. -/
def KeepP (P : Nat) (w w' : World) : Prop := ∀ (b : Nat) (c : Array Value) (T : TypeId) (fr : Nat × Nat), w.heap[b]? = some (Obj.cells c T fr) → T ≠ 5 → b ≠ P → w'.heap[b]? = some (Obj.cells c T fr)
theorem KeepP.refl (P : Nat) (w : World) : KeepP P w w := fun _ _ _ _ h _ _ => h
theorem KeepP.trans {P : Nat} {a b c : World} (h : KeepP P a b) (k : KeepP P b c) : KeepP P a c := fun i d T fr h1 h2 h3 => k i d T fr (h i d T fr h1 h2 h3) h2 h3
theorem KeepP.of_keep {P : Nat} {a b : World} (h : KeepT 5 a b) : KeepP P a b := fun i d T fr h1 h2 _ => h i d T fr h1 h2
theorem KeepP.set {P : Nat} (w : World) (o : Nat) (v : Value) : KeepP P w (w.setCell ⟨P, o, none⟩ v) := fun i _ _ _ h1 _ h3 => (Below.heap_setCell w ⟨P, o, none⟩ v i h3).trans h1
theorem KeepP.setU {P g : Nat} {w : World} {c0 : Array Value} {fr0 : Nat × Nat} (hg : w.heap[g]? = some (Obj.cells c0 5 fr0)) (o : Nat) (v : Value) : KeepP P w (w.setCell ⟨g, o, none⟩ v) := fun i d T fr h1 h2 _ => by
  have hne : i ≠ g := fun e => by
    subst e
    rw [hg] at h1
    simp only [Option.some.injEq, Obj.cells.injEq] at h1
    exact h2 h1.2.1.symm
  exact (Below.heap_setCell w ⟨g, o, none⟩ v i hne).trans h1
def PutP (w : World) (P : Nat) (L : List Bool) : Ending → World → Prop := fun e w' => e = .returned (.tuple #[]) ∧ (∃ v, BL w' P L v) ∧ Below P w w' ∧ KeepP P w w'

set_option maxRecDepth 100000 in
set_option maxHeartbeats 4000000 in
theorem put_any (w : World) (P : Nat) (L : List Bool) (v : Value) (n many : Nat) (hb : BL w P L v) (hm : many ≤ 60) (hn : n < 1152921504606846976) (hL : L.length ≤ 1000) :
    Calls Try.prog 13 #[.pointer (some ⟨P, 0, none⟩), .int .i64 n, .int .i64 many] w (PutP w P (L ++ bitsN n many)) := by
  have HBL := Lib.hid hb
  have HRET : Hid (∀ k, k = many → L ++ bitsN n many = L ++ bitsN n k) := Lib.hid (fun k h => by rw [h])
  clear hb
  go_enter Try.func13, Try.ntmps13
  go_wp2
  go_loopg [6] (many + 1) (fun gg s6 wr => ∃ (k : Nat) (z : Int) (M : List Bool) (u : Value), k ≤ many ∧ k ≤ gg ∧ s6 = .int .i64 z ∧ -1 ≤ z ∧ z ≤ 60 ∧ Aside (z = (k : Int) - 1) ∧ Aside (L ++ bitsN n many = M ++ bitsN n k) ∧ Aside (BL wr P M u) ∧ Aside (Below P w wr) ∧ Aside (KeepP P w wr))
  case atStart => exact ⟨many, (many : Int) - 1, L, v, Nat.le_refl _, by omega, by go_num, by omega, by omega, (show _ = _ from rfl), (show _ = _ from rfl), HBL.out, Below.refl _ _, KeepP.refl _ _⟩
  obtain ⟨k, z, M, u, hk, hg, rfl, hz1, hz2, HZ, HM, HB, BW, KW⟩ := hrel
  have HKW := Lib.hid KW.out
  have hz := HZ.out
  have HM := Lib.hid HM.out
  have HB := Lib.hid HB.out
  have HBW := Lib.hid BW.out
  clear HZ BW KW
  cases k with
  | zero =>
    obtain rfl : z = -1 := by omega
    clear hz hz1 hz2
    go_wp2
    go_end0
    exact ⟨rfl, ⟨u, by rw [HM.out]; simpa [bitsN] using HB.out⟩, HBW.out, HKW.out⟩
  | succ q =>
    obtain rfl : z = q := by omega
    clear hz hz1 hz2
    have hML : M.length ≤ 1060 := by
      have := congrArg List.length HM.out
      simp [bitsN_len] at this
      omega
    have c0 := (cell_of_block (i := 0) HB.out.1).trans rfl
    have c1 := (cell_of_block (i := 1) HB.out.1).trans rfl
    have f0 := froz_of_block (i := 0) HB.out.1
    have f1 := froz_of_block (i := 1) HB.out.1
    have hPl := lt_of_block HB.out.1
    obtain ⟨uo, uL, uc, rfl⟩ := Own.slv encU_len HB.out.2
    have hroom := roomB_get M
    have HRM : Hid (roomB M = if M.length % 8 = 0 then pkD false M ++ [0] else pkD false M) := Lib.hid rfl
    have HSET := Lib.hid (put_bit M (n.testBit q))
    have HMQ : Hid (L ++ bitsN n many = (M ++ [n.testBit q]) ++ bitsN n q) := Lib.hid (by rw [HM.out, List.append_assoc]; rfl)
    have hpl := pkD_len false M
    have hp8 : Hid ((M.length : Int) % 8 = ((M.length % 8 : Nat) : Int)) := Lib.hid (by omega)
    go_upto_if 18 with (fail)
    go_cut [18] (fun s18 w4 => ∃ u2 : Value, Aside (w4.heap[P]? = some (.cells #[u2, .int .i64 M.length] 57 (0, 0))) ∧ Aside (Own w4 (P + 1) 5 1 encU u2 (roomB M)) ∧ Aside (Below P wr w4) ∧ Aside (KeepP P wr w4))
    case first =>
      by_cases h8 : M.length % 8 = 0
      · have hd : ((M.length : Int) % 8 == 0) = true := by rw [beq_iff_eq]; omega
        have HR2 : Hid (pkD false M ++ [0] = roomB M) := Lib.hid (by rw [HRM.out, if_pos h8])
        have hcnt : Hid (((pkD false M).length + 1) * 1 ≤ 140737488355328) := Lib.hid (by omega)
        clear h8
        go_wp2_with (at_builtin; refine wpList_pushK rfl _ _ 24 rfl slU rfl rfl (0 : UInt8) rfl rfl rfl HB.out.2 rfl hcnt.out hPl ?_; intro v5 w5 ho5 hb5 hk5; have HK5 := Lib.hid hk5; obtain ⟨ao6, L6, cp6, rfl⟩ := Own.slv encU_len ho5; have HO5 := Lib.hid ho5; have HB5 := Lib.hid hb5; have hP5 := (hb5.block P (Nat.lt_succ_self P)).trans HB.out.1; have HP5 := Lib.hid hP5; have d0 := (cell_of_block (i := 0) hP5).trans rfl; have d1 := (cell_of_block (i := 1) hP5).trans rfl; have e0 := froz_of_block (i := 0) hP5; have hl5 := lt_of_block hP5; clear ho5 hb5 hP5 hk5)
        go_meet
        exact ⟨.slice ao6 L6 cp6, (heap_setCell_same _ P 0 _ _ _ HP5.out).trans rfl, (show Own _ _ _ _ _ _ _ by rw [← HR2.out]; exact HO5.out.setP (Nat.lt_succ_self P) 0 _), ((HB5.out.mono (Nat.le_succ P)).setCell (Nat.le_refl P) _), ((KeepP.of_keep HK5.out).trans (KeepP.set _ 0 _))⟩
      · have hd : ((M.length : Int) % 8 == 0) = false := by rw [beq_eq_false_iff_ne]; omega
        have HR2 : Hid (pkD false M = roomB M) := Lib.hid (by rw [HRM.out, if_neg h8])
        clear h8
        go_wp2
        go_meet
        exact ⟨_, HB.out.1, (show Own _ _ _ _ _ _ _ by rw [← HR2.out]; exact HB.out.2), Below.refl _ _, KeepP.refl _ _⟩
    obtain ⟨u2, HP4, HO4, HB4, HK4⟩ := hcut
    have HKW4 := Lib.hid (HKW.out.trans HK4.out)
    obtain ⟨w4, rfl⟩ : ∃ w4, w4 = wc := ⟨_, rfl⟩
    have HP4 := Lib.hid HP4.out
    obtain ⟨g, cp, rfl, hgb, hgl, hgc, hgm, hgcell, hgf⟩ := Own.getk encU_len HO4.out (by intro h; rw [h] at hroom; simp at hroom)
    have HO4 := Lib.hid HO4.out
    have HBW4 := Lib.hid (HBW.out.trans HB4.out)
    clear c0 c1 f0 f1 HB4
    have c0 := (cell_of_block (i := 0) HP4.out).trans rfl
    have c1 := (cell_of_block (i := 1) HP4.out).trans rfl
    have f1 := froz_of_block (i := 1) HP4.out
    have hPl4 := lt_of_block HP4.out
    have cb : w4.cell? ⟨g, M.length / 8, none⟩ = some (.int .u8 (byD false M (M.length / 8))) := by
      have := hgcell _ _ 0 _ hroom.1 rfl
      have hlt := byD_lt false M (M.length / 8)
      simp only [UInt8.toNat_ofNat', Nat.mod_eq_of_lt hlt] at this
      simpa using this
    have fb := hgf (M.length / 8)
    rw [hroom.2] at hgc HP4 HO4 c0 c1
    have hgz : ((M.length / 8 : Nat) : Int) < ((M.length / 8 + 1 : Nat) : Int) := by omega
    obtain ⟨Q, hQ⟩ : ∃ Q, Q = M.length / 8 := ⟨_, rfl⟩
    obtain ⟨r, hr⟩ : ∃ r, r = M.length % 8 := ⟨_, rfl⟩
    have hr8 : r < 8 := by omega
    have hdiv : (M.length : Int) / 8 = (Q : Int) := by omega
    have hmod : (M.length : Int) % 8 = (r : Int) := by omega
    have td : (M.length : Int).tdiv 8 = (Q : Int) := by rw [Int.tdiv_eq_ediv_of_nonneg (by omega)]; exact hdiv
    have tm : (M.length : Int).tmod 8 = (r : Int) := by rw [Int.tmod_eq_emod_of_nonneg (by omega)]; exact hmod
    have m1 : IntKind.i64.wrap (Q : Int) = (Q : Int) := IntWalk.i64_in _ (by omega)
    have m2 : IntKind.i64.wrap (7 - (r : Int)) = 7 - (r : Int) := IntWalk.i64_in _ (by omega)
    have m3 : (7 - (r : Int)).toNat = 7 - r := by omega
    have m4 : (0 : Int) ≤ 7 - (r : Int) := by omega
    have m5 : 7 - (r : Int) ≤ 8 := by omega
    rw [← hQ] at cb fb c0 hgc hgz HP4 HO4
    have m6 : (Q : Int) < (Q : Int) + 1 := by omega
    have m7 : (q : Int) ≤ 64 := by omega
    have m8 : (0 : Int) ≤ (q : Int) := by omega
    have hdq : (n : Int) / 2 ^ q = ((n / 2 ^ q : Nat) : Int) := by rw [Int.natCast_ediv]; simp
    have hdl : n / 2 ^ q ≤ n := Nat.div_le_self _ _
    have hand : bits .and .i64 ((n : Int) / 2 ^ q) 1 = (b01 (n.testBit q) : Int) := by rw [hdq, and1 _ (by omega), bit_at]
    have hbl := b01_lt (n.testBit q)
    have hwu : IntKind.u8.wrap (b01 (n.testBit q) : Int) = (b01 (n.testBit q) : Int) := by rw [IntKind.wrap_u8']; omega
    have hol := onB_lt (n.testBit q) r
    have hshl : IntKind.u8.wrap ((b01 (n.testBit q) : Int) * 2 ^ (7 - r)) = (onB (n.testBit q) r : Int) := by
      have e : (b01 (n.testBit q) : Int) * 2 ^ (7 - r) = (onB (n.testBit q) r : Int) := by unfold onB; simp
      rw [e, IntKind.wrap_u8']; omega
    have hor : bits .or .u8 (byD false M Q : Int) (onB (n.testBit q) r : Int) = ((byD false M Q ||| onB (n.testBit q) r : Nat) : Int) := u8_or_nat _ _ (byD_lt _ _ _) hol
    have HQ := Lib.hid hQ
    have HR := Lib.hid hr
    have holt : byD false M Q ||| onB (n.testBit q) r < 256 := Nat.or_lt_two_pow (n := 8) (byD_lt _ _ _) hol
    have HNEW : Hid (BL ((w4.setCell ⟨g, Q, none⟩ (.int .u8 ((byD false M Q ||| onB (n.testBit q) r : Nat) : Int))).setCell ⟨P, 1, none⟩ (.int .i64 ((M.length : Int) + 1))).drew P (M ++ [n.testBit q]) (.slice (some ⟨g, 0, none⟩) (Q + 1) cp)) := Lib.hid (by
      have hs := Own.store (i := Q) (j := 0) (x := UInt8.ofNat (byD false M Q)) (y := UInt8.ofNat (byD false M Q ||| onB (n.testBit q) r)) (u := .int .u8 ((byD false M Q ||| onB (n.testBit q) r : Nat) : Int)) encU_len HO4.out (by rw [hroom.2, hQ]) (by rw [hQ]; exact hroom.1) (by omega) (by
        simp only [encU, UInt8.toNat_ofNat', Nat.mod_eq_of_lt holt, List.set_cons_zero])
      have e1 : Q * 1 + 0 = Q := by omega
      rw [e1] at hs
      have e2 : (roomB M).set Q (UInt8.ofNat (byD false M Q ||| onB (n.testBit q) r)) = pkD false (M ++ [n.testBit q]) := by rw [hQ, hr]; exact HSET.out
      rw [e2] at hs
      refine ⟨?_, hs.setP (Nat.lt_succ_self P) 1 _⟩
      have h1 := (Below.heap_setCell w4 ⟨g, Q, none⟩ (.int .u8 ((byD false M Q ||| onB (n.testBit q) r : Nat) : Int)) P (show P ≠ g by omega)).trans HP4.out
      have h2 := heap_setCell_same _ P 1 _ _ (.int .i64 ((M.length : Int) + 1)) h1
      show ((w4.setCell ⟨g, Q, none⟩ _).setCell ⟨P, 1, none⟩ _).heap[P]? = _
      rw [h2, List.length_append, List.length_singleton]
      simp)
    have HBN : Hid (Below P w ((w4.setCell ⟨g, Q, none⟩ (.int .u8 ((byD false M Q ||| onB (n.testBit q) r : Nat) : Int))).setCell ⟨P, 1, none⟩ (.int .i64 ((M.length : Int) + 1))).drew) := Lib.hid (((HBW4.out.setCell (p := ⟨g, Q, none⟩) (by show P ≤ g; omega) _).setCell (p := ⟨P, 1, none⟩) (Nat.le_refl P) _).drew)
    have HKN : Hid (KeepP P w ((w4.setCell ⟨g, Q, none⟩ (.int .u8 ((byD false M Q ||| onB (n.testBit q) r : Nat) : Int))).setCell ⟨P, 1, none⟩ (.int .i64 ((M.length : Int) + 1))).drew) := Lib.hid (by
      obtain ⟨cur, hcur⟩ := Own.blk HO4.out
      exact (HKW4.out.trans (KeepP.setU hcur Q _)).trans (KeepP.set _ 1 _))
    clear hQ hr hdq hdl hol hroom holt
    clear hgcell hgf
    go_upto_region 5 with (fail)
    go_still_tail 24, (by kernel_rfl)
    change wpList _ _ _ _ _ w4.drew
    go_wp2
    go_roundg q
    case measure => omega
    case rel => exact ⟨q, (q : Int) - 1, M ++ [n.testBit q], .slice (some ⟨g, 0, none⟩) (Q + 1) cp, by omega, by omega, by go_num, by omega, by omega, (show _ = _ from rfl), HMQ.out, HNEW.out, HBN.out, HKN.out⟩
end Go.Proofs.Ytpdeodoidlcdoaa

/- putFields: the bits of a cue. -/
namespace Go.Proofs.Ytpdeodoidlcdoaa
open Go.RowKit

/-- The bits of a cue, behind its first three bytes. -/
def fieldsL (c : Cue) : List Bool :=
  bitsN c.ki.toNat 3 ++ ((if c.ki = 0 then [] else bitsN c.ev.toNat 32) ++ ((if c.ki = 1 ∨ c.ki = 2 then [c.no] ++ (if c.no then [] else bitsN c.ti.toNat 33) else []) ++ (if c.ki = 1 then [c.au] ++ bitsN c.le.toNat 33 else [])))
def padO (L : List Bool) : List Bool := L ++ List.replicate ((8 - L.length % 8) % 8) true
theorem fieldsL_len (c : Cue) : (fieldsL c).length ≤ 103 := by
  unfold fieldsL
  simp only [List.length_append, bitsN_len]
  split <;> split <;> split <;> (try split) <;> simp [bitsN_len]
theorem bitsN_one (t : Bool) : bitsN (b01 t) 1 = [t] := by cases t <;> rfl
theorem bitsN_1 : bitsN 1 1 = [true] := rfl

theorem flag_any (t : Bool) (w : World) : Calls Try.prog 29 #[.bool t] w fun e w' => e = .returned (.int .i64 (b01 t : Nat)) ∧ w = w' := by
  cases t
  all_goals
    go_enter Try.func29, Try.ntmps29
    go_wp2
    go_ret
    exact ⟨rfl, rfl⟩

/-- All bits are put; what the padding adds. -/
theorem pad_next (L : List Bool) : L.length % 8 ≠ 0 → padO L = padO (L ++ [true]) := fun h => by
  unfold padO
  have e1 : (8 - L.length % 8) % 8 = 8 - L.length % 8 := by omega
  have hl : (L ++ [true]).length = L.length + 1 := by simp
  rw [hl, e1, List.append_assoc]
  congr 1
  have e2 : 8 - L.length % 8 = (8 - (L.length + 1) % 8) % 8 + 1 := by omega
  rw [e2, List.replicate_succ]
  rfl
theorem padO_done {L : List Bool} (h : L.length % 8 = 0) : padO L = L := by
  unfold padO
  rw [h]
  simp
end Go.Proofs.Ytpdeodoidlcdoaa

/- putFields: the walk. -/
namespace Go.Proofs.Ytpdeodoidlcdoaa
open Go.RowKit

theorem BL.alloc {w : World} {P : Nat} {L : List Bool} {v : Value} (h : BL w P L v) (o : Obj) : BL (w.alloc o) P L v := ⟨(Below.heap_alloc w o P (lt_of_block h.1)).trans h.1, h.2.al o⟩
theorem KeepP.alloc {P : Nat} (w : World) (o : Obj) : KeepP P w (w.alloc o) := fun b _ _ _ h1 _ _ => (Below.heap_alloc w o b (lt_of_block h1)).trans h1
/-- put, with the numbers as they stand in the text. -/
theorem putL (m : Int) (many : Nat) (hm' : m = many) (w : World) (P : Nat) (L : List Bool) (v : Value) (n : Nat) (hb : BL w P L v) (hm : many ≤ 60) (hn : n < 1152921504606846976) (hL : L.length ≤ 1000) :
    Calls Try.prog 13 #[.pointer (some ⟨P, 0, none⟩), .int .i64 n, .int .i64 m] w (PutP w P (L ++ bitsN n many)) := by
  subst hm'
  exact put_any w P L v n many hb hm hn hL

set_option maxRecDepth 100000 in
set_option maxHeartbeats 4000000 in
theorem putF_nn (w : World) (P : Nat) (v : Value) (k e t q : Nat) (no au : Bool) (hb : BL w P [] v) (hk : k ≤ 3) (he : e ≤ 4294967295) (ht : t ≤ 8589934591) (hq : q ≤ 8589934591) :
    Calls Try.prog 12 #[.pointer (some ⟨P, 0, none⟩), agC ⟨k, e, no, t, q, au⟩] w (PutP w P (padO (fieldsL ⟨k, e, no, t, q, au⟩))) := by
  have hPl := lt_of_block hb.1
  have HB1 := Lib.hid (hb.alloc (boxC ⟨k, e, no, t, q, au⟩))
  have HK1 := Lib.hid (block_new w (boxC ⟨k, e, no, t, q, au⟩))
  have HW1 : Hid (Below P w (w.alloc (boxC ⟨k, e, no, t, q, au⟩))) := Lib.hid ((Below.refl P w).alloc (Nat.le_of_lt hPl) _)
  have HKP1 := Lib.hid (KeepP.alloc (P := P) w (boxC ⟨k, e, no, t, q, au⟩))
  have HF : Hid (fieldsL ⟨k, e, no, t, q, au⟩ = bitsN k 3 ++ ((if k = 0 then [] else bitsN e 32) ++ ((if k = 1 ∨ k = 2 then [no] ++ (if no then [] else bitsN t 33) else []) ++ (if k = 1 then [au] ++ bitsN q 33 else [])))) := Lib.hid (by
    unfold fieldsL
    simp only [Int.toNat_natCast]
    have e0 : ((k : Int) = 0) = (k = 0) := by simp
    have e1 : ((k : Int) = 1) = (k = 1) := by rw [eq_iff_iff]; omega
    have e2 : ((k : Int) = 2) = (k = 2) := by rw [eq_iff_iff]; omega
    simp only [e0, e1, e2])
  have HL := Lib.hid (fieldsL_len ⟨k, e, no, t, q, au⟩)
  generalize fieldsL ⟨k, e, no, t, q, au⟩ = FL at HF HL ⊢
  obtain ⟨X1, hX1⟩ : ∃ X1, X1 = if k = 0 then [] else bitsN e 32 := ⟨_, rfl⟩
  obtain ⟨X2, hX2⟩ : ∃ X2, X2 = if k = 1 ∨ k = 2 then [no] ++ (if no then [] else bitsN t 33) else [] := ⟨_, rfl⟩
  obtain ⟨X3, hX3⟩ : ∃ X3, X3 = if k = 1 then [au] ++ bitsN q 33 else [] := ⟨_, rfl⟩
  rw [← hX1, ← hX2, ← hX3] at HF
  have HX1 := Lib.hid hX1
  have HX2 := Lib.hid hX2
  have HX3 := Lib.hid hX3
  clear hX1 hX2 hX3
  have hBP : w.heap.size ≠ P := by omega
  clear hb
  go_enter Try.func12, Try.ntmps12
  go_wp2_with fail
  refine (putL 3 3 rfl _ P [] v k HB1.out (by omega) (by omega) (by simp)).mono ?_
  rintro e1 w2 ⟨rfl, ⟨v2, hb2⟩, hw2, hk2⟩
  have HB2 := Lib.hid hb2
  have HW2 := Lib.hid (HW1.out.trans hw2)
  have HKP2 := Lib.hid (HKP1.out.trans hk2)
  have HK2 := Lib.hid (hk2 _ _ _ _ HK1.out (by decide) hBP)
  clear hb2 hw2 hk2 HB1 HW1 HKP1
  have b0 := (cell_of_block (i := 0) HK2.out).trans rfl
  have b1 := (cell_of_block (i := 1) HK2.out).trans rfl
  have hlb := lt_of_block HK2.out
  go_upto_if 10 with (fail)
  go_cut [10] (fun s10 w4 => ∃ v4, Aside (BL w4 P ([] ++ bitsN k 3 ++ X1) v4) ∧ Aside (Below P w w4) ∧ Aside (KeepP P w w4) ∧ Aside (w4.heap[w.heap.size]? = some (boxC ⟨k, e, no, t, q, au⟩)))
  case first =>
    by_cases h0 : k = 0
    · have HI : Hid (X1 = []) := Lib.hid (by rw [HX1.out, if_pos h0])
      subst h0
      go_wp2
      go_meet
      exact ⟨v2, by rw [HI.out, List.append_nil]; exact HB2.out, HW2.out, HKP2.out, HK2.out⟩
    · have hd : ((k : Int) != 0) = true := by simp; omega
      have HI : Hid (X1 = bitsN e 32) := Lib.hid (by rw [HX1.out, if_neg h0])
      clear h0
      go_wp2_with fail
      refine (putL 32 32 rfl _ P _ v2 e HB2.out (by omega) (by omega) (by simp [bitsN_len])).mono ?_
      rintro e1 w3 ⟨rfl, ⟨v3, hb3⟩, hw3, hk3⟩
      have HB3 := Lib.hid hb3
      have HW3 := Lib.hid (HW2.out.trans hw3)
      have HKP3 := Lib.hid (HKP2.out.trans hk3)
      have HK3 := Lib.hid (hk3 _ _ _ _ HK2.out (by decide) hBP)
      clear hb3 hw3 hk3
      go_wp2
      go_meet
      exact ⟨v3, by rw [HI.out]; exact HB3.out, HW3.out, HKP3.out, HK3.out⟩
  obtain ⟨v4, hb4, hw4, hkp4, hk4⟩ := hcut
  obtain ⟨w4, rfl⟩ : ∃ w4, w4 = wc := ⟨_, rfl⟩
  generalize hL1 : [] ++ bitsN k 3 ++ X1 = L1 at hb4
  have HL1 := Lib.hid hL1
  have HB4 := Lib.hid hb4.out
  have HW4 := Lib.hid hw4.out
  have HKP4 := Lib.hid hkp4.out
  have HK4 := Lib.hid hk4.out
  have hl1 : L1.length ≤ 35 := by rw [← HL1.out, HX1.out]; simp only [List.length_append, bitsN_len, List.length_nil]; split <;> simp [bitsN_len]
  clear hb4 hw4 hkp4 hk4 hL1 b0 b1 hlb HB2 HW2 HKP2 HK2
  have b0 := (cell_of_block (i := 0) HK4.out).trans rfl
  have b2 := (cell_of_block (i := 2) HK4.out).trans rfl
  have b3 := (cell_of_block (i := 3) HK4.out).trans rfl
  have hlb := lt_of_block HK4.out
  go_upto_region 4 with (fail)
  go_cut [22] (fun s22 w5 => s22 = .bool (decide (k = 1) || decide (k = 2)) ∧ w4 = w5)
  case first =>
    by_cases h1 : k = 1
    · subst h1
      go_wp2
      go_meet
      exact ⟨rfl, rfl⟩
    · have hd : ((k : Int) == 1) = false := by rw [beq_eq_false_iff_ne]; omega
      have he : ((k : Int) == 2) = decide (k = 2) := by rw [Bool.eq_iff_iff]; simp; omega
      have hf : decide (k = 1) = false := decide_eq_false h1
      go_wp2
      go_meet
      exact ⟨by rw [hf]; rfl, rfl⟩
  obtain ⟨rfl, rfl⟩ := hcut
  go_upto_if 22 with (fail)
  go_cut [22] (fun s22 w5 => ∃ v5, Aside (BL w5 P (L1 ++ X2) v5) ∧ Aside (Below P w w5) ∧ Aside (KeepP P w w5) ∧ Aside (w5.heap[w.heap.size]? = some (boxC ⟨k, e, no, t, q, au⟩)))
  case first =>
    by_cases h12 : k = 1 ∨ k = 2
    · have hd : (decide (k = 1) || decide (k = 2)) = true := by simpa using h12
      rw [hd]
      have HI : Hid (X2 = [no] ++ (if no then [] else bitsN t 33)) := Lib.hid (by rw [HX2.out, if_pos h12])
      clear hd h12
      go_wp2_with (go_at_call 29; refine (flag_any no _).mono ?_; rintro e w' ⟨rfl, rfl⟩)
      refine (putL 1 1 rfl _ P L1 v4 (b01 no) HB4.out (by omega) (by have := b01_lt no; omega) (by omega)).mono ?_
      rintro e1 w5 ⟨rfl, ⟨v5, hb5⟩, hw5, hk5⟩
      rw [bitsN_one] at hb5
      have HB5 := Lib.hid hb5
      have HW5 := Lib.hid (HW4.out.trans hw5)
      have HKP5 := Lib.hid (HKP4.out.trans hk5)
      have HK5 := Lib.hid (hk5 _ _ _ _ HK4.out (by decide) hBP)
      clear hb5 hw5 hk5 b0 b2 b3 hlb
      have b2 := (cell_of_block (i := 2) HK5.out).trans rfl
      have b3 := (cell_of_block (i := 3) HK5.out).trans rfl
      have hlb := lt_of_block HK5.out
      cases no
      case true =>
        have HI2 : Hid (X2 = [true]) := Lib.hid (by rw [HI.out]; rfl)
        go_wp2
        go_meet
        exact ⟨v5, by rw [HI2.out]; exact HB5.out, HW5.out, HKP5.out, HK5.out⟩
      case false =>
        have HI2 : Hid (X2 = [false] ++ bitsN t 33) := Lib.hid (by rw [HI.out]; rfl)
        go_wp2_with fail
        refine (putL 33 33 rfl _ P _ v5 t HB5.out (by omega) (by omega) (by simp; omega)).mono ?_
        rintro e1 w6 ⟨rfl, ⟨v6, hb6⟩, hw6, hk6⟩
        rw [List.append_assoc] at hb6
        have HB6 := Lib.hid hb6
        have HW6 := Lib.hid (HW5.out.trans hw6)
        have HKP6 := Lib.hid (HKP5.out.trans hk6)
        have HK6 := Lib.hid (hk6 _ _ _ _ HK5.out (by decide) hBP)
        clear hb6 hw6 hk6
        go_wp2
        go_meet
        exact ⟨v6, by rw [HI2.out]; exact HB6.out, HW6.out, HKP6.out, HK6.out⟩
    · have hd : (decide (k = 1) || decide (k = 2)) = false := by simpa using h12
      rw [hd]
      have HI : Hid (X2 = []) := Lib.hid (by rw [HX2.out, if_neg h12])
      clear hd h12
      go_wp2
      go_meet
      exact ⟨v4, by rw [HI.out, List.append_nil]; exact HB4.out, HW4.out, HKP4.out, HK4.out⟩
  obtain ⟨v5, hb5, hw5, hkp5, hk5⟩ := hcut
  obtain ⟨w5, rfl⟩ : ∃ w5, w5 = wc := ⟨_, rfl⟩
  generalize hL2 : L1 ++ X2 = L2 at hb5
  have HL2 := Lib.hid hL2
  have HB5 := Lib.hid hb5.out
  have HW5 := Lib.hid hw5.out
  have HKP5 := Lib.hid hkp5.out
  have HK5 := Lib.hid hk5.out
  have hl2 : L2.length ≤ 69 := by rw [← HL2.out, HX2.out]; simp only [List.length_append]; split <;> (try split) <;> simp [bitsN_len] <;> omega
  clear hb5 hw5 hkp5 hk5 hL2 b0 b2 b3 hlb HB4 HW4 HKP4 HK4
  have b0 := (cell_of_block (i := 0) HK5.out).trans rfl
  have b4 := (cell_of_block (i := 4) HK5.out).trans rfl
  have b5 := (cell_of_block (i := 5) HK5.out).trans rfl
  have hlb := lt_of_block HK5.out
  go_upto_if 37 with (fail)
  go_cut [37] (fun s37 w6 => ∃ v6, Aside (BL w6 P (L2 ++ X3) v6) ∧ Aside (Below P w w6) ∧ Aside (KeepP P w w6))
  case first =>
    by_cases h1 : k = 1
    · have HI : Hid (X3 = [au] ++ bitsN q 33) := Lib.hid (by rw [HX3.out, if_pos h1])
      subst h1
      go_wp2_with (go_at_call 29; refine (flag_any au _).mono ?_; rintro e w' ⟨rfl, rfl⟩)
      refine (putL 1 1 rfl _ P L2 v5 (b01 au) HB5.out (by omega) (by have := b01_lt au; omega) (by omega)).mono ?_
      rintro e1 w6 ⟨rfl, ⟨v6, hb6⟩, hw6, hk6⟩
      rw [bitsN_one] at hb6
      have HB6 := Lib.hid hb6
      have HW6 := Lib.hid (HW5.out.trans hw6)
      have HKP6 := Lib.hid (HKP5.out.trans hk6)
      have HK6 := Lib.hid (hk6 _ _ _ _ HK5.out (by decide) hBP)
      clear hb6 hw6 hk6 b0 b4 b5 hlb
      have b4 := (cell_of_block (i := 4) HK6.out).trans rfl
      have hlb := lt_of_block HK6.out
      go_wp2_with fail
      refine (putL 33 33 rfl _ P _ v6 q HB6.out (by omega) (by omega) (by simp; omega)).mono ?_
      rintro e1 w7 ⟨rfl, ⟨v7, hb7⟩, hw7, hk7⟩
      rw [List.append_assoc] at hb7
      have HB7 := Lib.hid hb7
      have HW7 := Lib.hid (HW6.out.trans hw7)
      have HKP7 := Lib.hid (HKP6.out.trans hk7)
      clear hb7 hw7 hk7
      go_wp2
      go_meet
      exact ⟨v7, by rw [HI.out]; exact HB7.out, HW7.out, HKP7.out⟩
    · have hd : ((k : Int) == 1) = false := by rw [beq_eq_false_iff_ne]; omega
      have HI : Hid (X3 = []) := Lib.hid (by rw [HX3.out, if_neg h1])
      clear h1
      go_wp2
      go_meet
      exact ⟨v5, by rw [HI.out, List.append_nil]; exact HB5.out, HW5.out, HKP5.out⟩
  obtain ⟨v6, hb6, hw6, hkp6⟩ := hcut
  obtain ⟨w6, rfl⟩ : ∃ w6, w6 = wc := ⟨_, rfl⟩
  have HFL : Hid (L2 ++ X3 = FL) := Lib.hid (by rw [HF.out, ← HL2.out, ← HL1.out]; simp only [List.nil_append, List.append_assoc])
  have HB6 : Hid (BL w6 P FL v6) := Lib.hid (by rw [← HFL.out]; exact hb6.out)
  have HW6 := Lib.hid hw6.out
  have HKP6 := Lib.hid hkp6.out
  have hfl := HL.out
  clear hb6 hw6 hkp6 b0 b4 b5 hlb HB5 HW5 HKP5 HK5
  go_wp2
  go_loopg [52] 8 (fun gg _ wr => ∃ (M : List Bool) (u : Value), (8 - M.length % 8) % 8 ≤ gg ∧ M.length ≤ 112 ∧ (M.length ≤ 103 ∨ M.length % 8 ≠ 1) ∧ Aside (padO FL = padO M) ∧ Aside (BL wr P M u) ∧ Aside (Below P w wr) ∧ Aside (KeepP P w wr))
  case atStart => exact ⟨FL, v6, by omega, by omega, .inl hfl, (show _ = _ from rfl), HB6.out, HW6.out, HKP6.out⟩
  obtain ⟨M, u, hg, hM1, hM2, HM, HB, BW, KW⟩ := hrel
  have HM := Lib.hid HM.out
  have HB := Lib.hid HB.out
  have HBW := Lib.hid BW.out
  have HKW := Lib.hid KW.out
  have c1 := (cell_of_block (i := 1) HB.out.1).trans rfl
  have hlb := lt_of_block HB.out.1
  clear BW KW
  by_cases h8 : M.length % 8 = 0
  · have hd : ((M.length : Int) % 8 != 0) = false := by simp; omega
    have hd2 : (M.length : Int) % 8 = 0 := by omega
    have HP : Hid (padO FL = M) := Lib.hid (by rw [HM.out]; exact padO_done h8)
    clear h8
    go_wp2
    go_end0
    exact ⟨rfl, ⟨u, by rw [HP.out]; exact HB.out⟩, HBW.out, HKW.out⟩
  · have hd : ((M.length : Int) % 8 != 0) = true := by simp; omega
    have HP : Hid (padO FL = padO (M ++ [true])) := Lib.hid (by rw [HM.out]; exact pad_next M h8)
    go_wp2_with fail
    refine (putL 1 1 rfl _ P M u 1 HB.out (by omega) (by omega) (by omega)).mono ?_
    rintro e1 w7 ⟨rfl, ⟨v7, hb7⟩, hw7, hk7⟩
    rw [bitsN_1] at hb7
    have HB7 := Lib.hid hb7
    have HW7 := Lib.hid (HBW.out.trans hw7)
    have HKP7 := Lib.hid (HKW.out.trans hk7)
    have hlm : (M ++ [true]).length = M.length + 1 := by simp
    clear hb7 hw7 hk7
    go_wp2
    go_roundg ((8 - (M.length + 1) % 8) % 8)
    case measure => omega
    case rel => exact ⟨M ++ [true], v7, by rw [hlm]; exact Nat.le_refl _, by omega, by omega, HP.out, HB7.out, HW7.out, HKP7.out⟩
end Go.Proofs.Ytpdeodoidlcdoaa

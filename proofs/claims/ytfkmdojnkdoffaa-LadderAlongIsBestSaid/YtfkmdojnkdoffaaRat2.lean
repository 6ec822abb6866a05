/- How many bits a second some bytes in some ticks are. -/
import Derived.Test.YtfkmdojnkdoffaaRat
namespace Go.Proofs.Ytfkmdojnkdoffaa
open Go.RowKit

def rG (S L : Nat) : Nat := Nat.gcd (8 * S) L
def rH (S L C : Nat) : Nat := Nat.gcd C (L / rG S L)
/-- The numerator, before it is looked at; the denominator. -/
def rNum (S L C : Nat) : Nat := (8 * S / rG S L) * (C / rH S L C)
def rDen (S L C : Nat) : Nat := L / rG S L / rH S L C
def ratF (S L C : Nat) : Int := if rNum S L C < 9223372036854775808 then 0 else 1
def ratN (S L C : Nat) : Int := if rNum S L C < 9223372036854775808 then (rNum S L C : Nat) else 0
def ratD (S L C : Nat) : Int := if rNum S L C < 9223372036854775808 then (rDen S L C : Nat) else 0

/-- A ratio and a fault. -/
def RtP (w : World) (n d f : Int) : Ending → World → Prop := fun e w' => e = .returned (.tuple #[.agg #[.int .i64 n, .int .i64 d], .int .i64 f]) ∧ Below w.heap.size w w'
theorem RtP.mk {w w' : World} {n d f n' d' f' : Int} (hn : n' = n) (hd : d' = d) (hf : f' = f) (hw : Below w.heap.size w w') : RtP w n d f (.returned (.tuple #[.agg #[.int .i64 n', .int .i64 d'], .int .i64 f'])) w' := by
  subst hn hd hf
  exact ⟨rfl, hw⟩

theorem rG_pos {S L : Nat} (h : 1 ≤ L) : 1 ≤ rG S L := Nat.gcd_pos_of_pos_right _ h
theorem rL_pos {S L : Nat} (h : 1 ≤ L) : 1 ≤ L / rG S L := Nat.div_pos (Nat.le_of_dvd h (Nat.gcd_dvd_right _ _)) (rG_pos h)
theorem rH_pos {S L C : Nat} (h : 1 ≤ L) : 1 ≤ rH S L C := Nat.gcd_pos_of_pos_right _ (rL_pos h)
theorem rD_pos {S L C : Nat} (h : 1 ≤ L) : 1 ≤ rDen S L C := Nat.div_pos (Nat.le_of_dvd (rL_pos h) (Nat.gcd_dvd_right _ _)) (rH_pos h)
theorem rC_pos {S L C : Nat} (h : 1 ≤ L) (hC : 1 ≤ C) : 1 ≤ C / rH S L C := Nat.div_pos (Nat.le_of_dvd hC (Nat.gcd_dvd_left _ _)) (rH_pos h)

theorem w64 (n : Int) (h0 : 0 ≤ n) (h1 : n ≤ 9223372036854775807) : wrap64 n = n := by unfold wrap64; omega
theorem froz_of_block {w : World} {b i : Nat} {c : Array Value} {T : TypeId} (h : w.heap[b]? = some (.cells c T (0, 0))) : w.frozen? ⟨b, i, none⟩ = false := by simp [World.frozen?, h]

set_option maxHeartbeats 1000000 in
theorem rateOf_any (S L C : Nat) (w : World) (hS : S ≤ 1000000000000) (hL : 1 ≤ L) (hL2 : L ≤ 1000000000000) (hC : 1 ≤ C) (hC2 : C ≤ 1000000000) :
    Calls Try.prog 47 #[.int .i64 S, .int .i64 L, .int .i64 C] w (RtP w (ratN S L C) (ratD S L C) (ratF S L C)) := by
  have hg1 := rG_pos (S := S) hL
  have hl1 := rL_pos (S := S) hL
  have hh1 := rH_pos (S := S) (C := C) hL
  have hd1 := rD_pos (S := S) (C := C) hL
  have hc1 := rC_pos (S := S) (C := C) hL hC
  have q1 : (S : Int) * 8 / (rG S L : Nat) = ((8 * S / rG S L : Nat) : Int) := by rw [show (S : Int) * 8 = ((8 * S : Nat) : Int) by omega]; exact (Int.natCast_ediv _ _).symm
  have q2 : (L : Int) / (rG S L : Nat) = ((L / rG S L : Nat) : Int) := (Int.natCast_ediv _ _).symm
  have q3 : (C : Int) / (rH S L C : Nat) = ((C / rH S L C : Nat) : Int) := (Int.natCast_ediv _ _).symm
  have q4 : ((L / rG S L : Nat) : Int) / (rH S L C : Nat) = ((rDen S L C : Nat) : Int) := (Int.natCast_ediv _ _).symm
  have d1 := fun (w : World) => divisor_any ((S : Int) * 8) L w (by omega) (by omega) (by omega) (by omega)
  rw [show Nat.gcd ((S : Int) * 8).toNat ((L : Int)).toNat = rG S L by unfold rG; congr 1; omega] at d1
  have hLl : L / rG S L ≤ L := Nat.div_le_self _ _
  have hSl : 8 * S / rG S L ≤ 8 * S := Nat.div_le_self _ _
  have hCl : C / rH S L C ≤ C := Nat.div_le_self _ _
  have hDl : rDen S L C ≤ L := Nat.le_trans (Nat.div_le_self _ _) hLl
  have d2 := fun (w : World) => divisor_any C ((L / rG S L : Nat) : Int) w (by omega) (by omega) (by omega) (by omega)
  rw [show Nat.gcd ((C : Int)).toNat (((L / rG S L : Nat) : Int)).toNat = rH S L C by unfold rH; congr 1] at d2
  have hp := fun (w : World) => product_any (8 * S / rG S L) (C / rH S L C) w (by omega) (by omega)
  unfold ProdP at hp
  have hN : rNum S L C = 8 * S / rG S L * (C / rH S L C) := rfl
  rw [← hN] at hp
  have hF : Hid (ratF S L C = if rNum S L C < 9223372036854775808 then 0 else 1) := Lib.hid rfl
  have hNn : Hid (ratN S L C = if rNum S L C < 9223372036854775808 then ((rNum S L C : Nat) : Int) else 0) := Lib.hid rfl
  have hD : Hid (ratD S L C = if rNum S L C < 9223372036854775808 then ((rDen S L C : Nat) : Int) else 0) := Lib.hid rfl
  clear hN
  generalize ratF S L C = F at hF ⊢
  generalize ratN S L C = N at hNn ⊢
  generalize ratD S L C = D at hD ⊢
  generalize 8 * S / rG S L = S1 at hp q1 hSl
  generalize L / rG S L = L1 at q2 q4 d2 hLl hl1
  generalize C / rH S L C = C1 at q3 hp hCl hc1
  generalize rDen S L C = D1 at q4 hD hDl hd1
  generalize rNum S L C = N1 at hp hF hNn hD
  generalize rG S L = G at hg1 q1 q2 d1
  generalize rH S L C = H at hh1 q3 q4 d2
  have Q1 := Lib.hid q1
  have Q2 := Lib.hid q2
  have Q3 := Lib.hid q3
  have Q4 := Lib.hid q4
  have e1 : ¬ (G : Int) = 0 := by omega
  have e2 : (0 : Int) < (G : Int) := by omega
  have e3 : (1 : Int) ≤ (G : Int) := by omega
  have e4 : ¬ (H : Int) = 0 := by omega
  have e5 : (0 : Int) < (H : Int) := by omega
  clear q1 q2 q3 q4
  have hmx : (if 1 < (G : Int) then (G : Int) else 1) = (G : Int) := by split <;> omega
  have hBK := block_new w (.cells #[.int .i64 0, .int .i64 0] 52)
  have HBK := Lib.hid hBK
  have hB0 : Below w.heap.size w (w.alloc (.cells #[.int .i64 0, .int .i64 0] 52)) := (Below.refl _ _).alloc (Nat.le_refl _) _
  have HB0 := Lib.hid hB0
  clear hBK hB0
  go_enter Try.func47, Try.ntmps47
  go_upto_region 3 with (go_at_call 58; refine (d1 _).mono ?_; rintro e w1 ⟨rfl, hb1⟩; have HB1 := Lib.hid (HB0.out.thru hb1); have HK1 := Lib.hid ((hb1.block w.heap.size (by simp)).trans HBK.out); clear hb1)
  go_cut [0, 1] (fun s0 s1 w2 => s0 = .int .i64 S1 ∧ s1 = .int .i64 L1 ∧ ∃ n, w2 = w1.drewN n)
  case first =>
    go_quiet (fail)
    go_wp2
    go_meet
    exact ⟨by first | (rw [Q1.out]; done) | rw [Q1.out, w64 _ (by omega) (by omega)], by first | (rw [Q2.out]; done) | rw [Q2.out, w64 _ (by omega) (by omega)], _, rfl⟩
  obtain ⟨rfl, rfl, nq, rfl⟩ := hcut
  obtain ⟨w2, hw2⟩ : ∃ w2, w2 = w1.drewN nq := ⟨_, rfl⟩
  have HB2 : Hid (Below w.heap.size w w2) := Lib.hid (by rw [hw2]; exact below_drewN HB1.out _)
  have HK2 : Hid (w2.heap[w.heap.size]? = some (.cells #[.int .i64 0, .int .i64 0] 52 (0, 0))) := Lib.hid (by rw [hw2]; exact HK1.out)
  rw [← hw2]
  clear hw2
  go_upto_region 5 with (go_at_call 58; refine (d2 _).mono ?_; rintro e w3 ⟨rfl, hb3⟩; have HB3 := Lib.hid (HB2.out.thru hb3); have HK3 := Lib.hid ((hb3.block w.heap.size (lt_of_block HK2.out)).trans HK2.out); clear hb3)
  go_cut [2, 1] (fun s2 s1 w4 => s2 = .int .i64 C1 ∧ s1 = .int .i64 D1 ∧ ∃ n, w4 = w3.drewN n)
  case first =>
    go_quiet (fail)
    go_wp2
    go_meet
    exact ⟨by first | (rw [Q3.out]; done) | rw [Q3.out, w64 _ (by omega) (by omega)], by first | (rw [Q4.out]; done) | rw [Q4.out, w64 _ (by omega) (by omega)], _, rfl⟩
  obtain ⟨rfl, rfl, nq2, rfl⟩ := hcut
  obtain ⟨w4, hw4⟩ : ∃ w4, w4 = w3.drewN nq2 := ⟨_, rfl⟩
  have HB4 : Hid (Below w.heap.size w w4) := Lib.hid (by rw [hw4]; exact below_drewN HB3.out _)
  have hK4 : w4.heap[w.heap.size]? = some (.cells #[.int .i64 0, .int .i64 0] 52 (0, 0)) := by rw [hw4]; exact HK3.out
  rw [← hw4]
  have c0 := (cell_of_block (i := 0) hK4).trans rfl
  have c1 := (cell_of_block (i := 1) hK4).trans rfl
  have f0 := froz_of_block (i := 0) hK4
  have f1 := froz_of_block (i := 1) hK4
  have hlt := lt_of_block hK4
  have HK4 := Lib.hid hK4
  clear hw4 hK4
  by_cases hn : N1 < 9223372036854775808
  · have hv : Hid ((N1 : Int) = N ∧ (D1 : Int) = D ∧ 0 = F) := Lib.hid ⟨by rw [hNn.out, if_pos hn], by rw [hD.out, if_pos hn], by rw [hF.out, if_pos hn]⟩
    have e6 : decide (N1 < 9223372036854775808) = true := decide_eq_true hn
    go_wp2_with (go_at_call 59; refine (hp _).mono ?_; rintro e w5 ⟨z, rfl, hz, rfl⟩; obtain rfl := hz hn)
    exact bodyPost_ret (v := .tuple #[.agg #[.int .i64 N1, .int .i64 D1], .int .i64 0]) (by simp [results, Try.results47, go_sem, c0, c1]) rfl (RtP.mk hv.out.1 hv.out.2.1 hv.out.2.2 ((HB4.out.setCell (Nat.le_refl _) _).setCell (Nat.le_refl _) _))
  · have hv : Hid (0 = N ∧ 0 = D ∧ 1 = F) := Lib.hid ⟨by rw [hNn.out, if_neg hn], by rw [hD.out, if_neg hn], by rw [hF.out, if_neg hn]⟩
    have e6 : decide (N1 < 9223372036854775808) = false := decide_eq_false hn
    have HPA := Lib.hid hp
    clear hn hp
    have hp2 := fun w => HPA.out w
    rw [e6] at hp2
    go_wp2_with (go_at_call 59; refine (hp2 _).mono ?_; rintro e w5 ⟨z, rfl, hz, rfl⟩)
    exact bodyPost_ret (v := .tuple #[.agg #[.int .i64 0, .int .i64 0], .int .i64 1]) (by simp [results, Try.results47, go_sem, c0, c1]) rfl (RtP.mk hv.out.1 hv.out.2.1 hv.out.2.2 ((HB4.out.setCell (Nat.le_refl _) _).setCell (Nat.le_refl _) _))
end Go.Proofs.Ytfkmdojnkdoffaa

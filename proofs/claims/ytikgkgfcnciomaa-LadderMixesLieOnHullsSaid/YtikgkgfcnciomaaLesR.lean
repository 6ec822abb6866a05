/- less of the reference. -/
import Derived.Test.YtikgkgfcnciomaaRto
import Derived.Test.YtikgkgfcnciomaaHulR
namespace Go.Proofs.Ytikgkgfcnciomaa
open Go.RowKit

theorem les_iff {an ad bn bd : Int} (ha : 0 < ad) (hb : 0 < bd) : (an * bd < bn * ad) ↔ (an / ad < bn / bd ∨ (an / ad = bn / bd ∧ an % ad * bd < bn % bd * ad)) := by
  have e1 := Int.mul_ediv_add_emod an ad
  have e2 := Int.mul_ediv_add_emod bn bd
  have a1 := Int.emod_nonneg an (by omega : ad ≠ 0)
  have a2 := Int.emod_lt_of_pos an ha
  have b1 := Int.emod_nonneg bn (by omega : bd ≠ 0)
  have b2 := Int.emod_lt_of_pos bn hb
  generalize an / ad = p at *
  generalize an % ad = r at *
  generalize bn / bd = q at *
  generalize bn % bd = s at *
  subst e1 e2
  have k1 : (ad * p + r) * bd = p * (ad * bd) + r * bd := by grind
  have k2 : (bd * q + s) * ad = q * (ad * bd) + s * ad := by grind
  have hM : 0 < ad * bd := Int.mul_pos ha hb
  have r1 : 0 ≤ r * bd := Int.mul_nonneg a1 (Int.le_of_lt hb)
  have s1 : 0 ≤ s * ad := Int.mul_nonneg b1 (Int.le_of_lt ha)
  have r2 : r * bd < ad * bd := Int.mul_lt_mul_of_pos_right a2 hb
  have s2 : s * ad < ad * bd := by rw [Int.mul_comm ad bd]; exact Int.mul_lt_mul_of_pos_right b2 ha
  rw [k1, k2]
  rcases Int.lt_trichotomy p q with h | h | h
  · have : (p + 1) * (ad * bd) ≤ q * (ad * bd) := Int.mul_le_mul_of_nonneg_right (by omega) (Int.le_of_lt hM)
    rw [Int.add_mul, Int.one_mul] at this
    constructor
    · intro _; exact .inl h
    · intro _; omega
  · subst h
    constructor
    · intro h; exact .inr ⟨rfl, by omega⟩
    · rintro (h | ⟨_, h⟩)
      · omega
      · omega
  · have : (q + 1) * (ad * bd) ≤ p * (ad * bd) := Int.mul_le_mul_of_nonneg_right (by omega) (Int.le_of_lt hM)
    rw [Int.add_mul, Int.one_mul] at this
    constructor
    · intro h; omega
    · rintro (h | ⟨h, _⟩) <;> omega

theorem boxes2 (w : World) (o1 o2 : Obj) : ((w.alloc o1).alloc o2).heap[w.heap.size]? = some o1 ∧ ((w.alloc o1).alloc o2).heap[w.heap.size + 1]? = some o2 ∧ Below w.heap.size w ((w.alloc o1).alloc o2) := by
  have h1 := block_new w o1
  have h2 := block_new (w.alloc o1) o2
  have s1 : (w.alloc o1).heap.size = w.heap.size + 1 := by simp
  rw [s1] at h2
  refine ⟨?_, h2, ((Below.refl _ _).alloc (Nat.le_refl _) _).alloc (by simp) _⟩
  rw [Below.heap_alloc _ _ _ (by omega)]; exact h1

set_option maxHeartbeats 1000000 in
theorem less_nn (an ad bn bd : Int) (w : World) (h1 : 0 ≤ an ∧ an ≤ 10000000000000000) (h2 : 0 < ad ∧ ad ≤ 1000000000) (h3 : 0 ≤ bn ∧ bn ≤ 10000000000000000) (h4 : 0 < bd ∧ bd ≤ 1000000000) :
    Calls Try.prog 35 #[.agg #[.int .i64 an, .int .i64 ad], .agg #[.int .i64 bn, .int .i64 bd]] w fun e w' => e = .returned (.bool (lesP (an, ad) (bn, bd))) ∧ Below w.heap.size w w' := by
  have HV : Hid (lesP (an, ad) (bn, bd) = decide (an / ad < bn / bd ∨ (an / ad = bn / bd ∧ an % ad * bd < bn % bd * ad))) := Lib.hid (by
    unfold lesP
    rw [Bool.eq_iff_iff, decide_eq_true_iff, decide_eq_true_iff]
    exact les_iff h2.1 h4.1)
  generalize lesP (an, ad) (bn, bd) = V at HV ⊢
  have HB := Lib.hid (boxes2 w (.cells #[.int .i64 an, .int .i64 ad] 36) (.cells #[.int .i64 bn, .int .i64 bd] 36)).2.2
  obtain ⟨ha0, ha1⟩ := h1
  obtain ⟨hd0, hd1⟩ := h2
  obtain ⟨hb0, hb1⟩ := h3
  obtain ⟨he0, he1⟩ := h4
  have n1 : ¬ ad = 0 := by omega
  have n2 : ¬ bd = 0 := by omega
  have r1 := Int.emod_nonneg an n1
  have r2 := Int.emod_lt_of_pos an hd0
  have r3 := Int.emod_nonneg bn n2
  have r4 := Int.emod_lt_of_pos bn he0
  have q1 := mul_bd (a := an % ad) (b := bd) (A := 1000000000) (B := 1000000000) (by omega) (by omega) (by omega) (by omega)
  have q2 := mul_bd (a := bn % bd) (b := ad) (A := 1000000000) (B := 1000000000) (by omega) (by omega) (by omega) (by omega)
  have m1 : IntKind.i64.wrap (an % ad * bd) = an % ad * bd := IntWalk.i64_in _ (by omega)
  have m2 : IntKind.i64.wrap (bn % bd * ad) = bn % bd * ad := IntWalk.i64_in _ (by omega)
  have p1 : 0 ≤ an / ad := Int.ediv_nonneg ha0 (by omega)
  have p2 : 0 ≤ bn / bd := Int.ediv_nonneg hb0 (by omega)
  have p3 : an / ad ≤ 10000000000000000 := Int.le_trans (Int.ediv_le_self _ ha0) ha1
  have p4 : bn / bd ≤ 10000000000000000 := Int.le_trans (Int.ediv_le_self _ hb0) hb1
  have t1 : an.tdiv ad = an / ad := Int.tdiv_eq_ediv_of_nonneg ha0
  have t2 : bn.tdiv bd = bn / bd := Int.tdiv_eq_ediv_of_nonneg hb0
  have t3 : an.tmod ad = an % ad := Int.tmod_eq_emod_of_nonneg ha0
  have t4 : bn.tmod bd = bn % bd := Int.tmod_eq_emod_of_nonneg hb0
  clear q1 q2
  cases hq : (an / ad != bn / bd)
  case true =>
    have hne : an / ad ≠ bn / bd := by simpa using hq
    have hv : Hid (decide (an / ad < bn / bd) = V) := Lib.hid (by
      rw [HV.out, Bool.eq_iff_iff, decide_eq_true_iff, decide_eq_true_iff]
      exact ⟨.inl, fun h => h.elim id fun h => absurd h.1 hne⟩)
    clear hne
    go_enter Try.func35, Try.ntmps35
    go_wp2
    go_quiet (fail)
    go_wp2
    go_ret
    exact ⟨ret_bool hv.out, by first | exact below_drewN HB.out _ | exact below_drewN (below_drewN HB.out _) _⟩
  case false =>
    have heq : an / ad = bn / bd := by simpa using hq
    have hv : Hid (decide (an % ad * bd < bn % bd * ad) = V) := Lib.hid (by
      rw [HV.out, Bool.eq_iff_iff, decide_eq_true_iff, decide_eq_true_iff]
      exact ⟨fun h => .inr ⟨heq, h⟩, fun h => h.elim (fun h => by omega) (fun h => h.2)⟩)
    clear heq
    go_enter Try.func35, Try.ntmps35
    go_wp2
    go_quiet (fail)
    go_wp2
    go_quiet (fail)
    go_wp2
    go_ret
    exact ⟨ret_bool hv.out, by first | exact below_drewN HB.out _ | exact below_drewN (below_drewN HB.out _) _⟩

set_option maxHeartbeats 1000000 in
theorem less_neg (bn bd : Int) (w : World) (h3 : 0 ≤ bn ∧ bn ≤ 10000000000000000) (h4 : 0 < bd ∧ bd ≤ 1000000000) :
    Calls Try.prog 35 #[.agg #[.int .i64 (-1), .int .i64 1], .agg #[.int .i64 bn, .int .i64 bd]] w fun e w' => e = .returned (.bool (lesP (-1, 1) (bn, bd))) ∧ Below w.heap.size w w' := by
  have HV : Hid (lesP (-1, 1) (bn, bd) = true) := Lib.hid (by
    unfold lesP
    rw [decide_eq_true_iff]
    simp only
    omega)
  rw [HV.out]
  have HB := Lib.hid (boxes2 w (.cells #[.int .i64 (-1), .int .i64 1] 36) (.cells #[.int .i64 bn, .int .i64 bd] 36)).2.2
  obtain ⟨hb0, hb1⟩ := h3
  obtain ⟨he0, he1⟩ := h4
  have n2 : ¬ bd = 0 := by omega
  have p2 : 0 ≤ bn / bd := Int.ediv_nonneg hb0 (by omega)
  have p4 : bn / bd ≤ 10000000000000000 := Int.le_trans (Int.ediv_le_self _ hb0) hb1
  have t2 : bn.tdiv bd = bn / bd := Int.tdiv_eq_ediv_of_nonneg hb0
  have d1 : ((-1 : Int) != bn / bd) = true := by simp; omega
  have d2 : decide ((-1 : Int) < bn / bd) = true := decide_eq_true (by omega)
  have d3 : (-1 : Int) < bn / bd := by omega
  have d4 : ¬ (-1 : Int) = bn / bd := by omega
  go_enter Try.func35, Try.ntmps35
  go_wp2
  go_quiet (fail)
  go_wp2
  go_ret
  exact ⟨by first | rfl | simp [d2], below_drewN HB.out _⟩
end Go.Proofs.Ytikgkgfcnciomaa

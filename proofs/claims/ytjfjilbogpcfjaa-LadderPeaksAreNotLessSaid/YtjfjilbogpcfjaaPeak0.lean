/- Peak: what it returns; plain. -/
import Derived.Test.YtjfjilbogpcfjaaLess
import Derived.Test.YtjfjilbogpcfjaaMean3
namespace Go.Proofs.Ytjfjilbogpcfjaa
open Go.RowKit

/-- The sum of m numbers from place i on. -/
def rowS (s : List Int) (i m : Nat) : Int := sumI ((s.drop i).take m)
theorem rowS_zero (s : List Int) (i : Nat) : rowS s i 0 = 0 := rfl
theorem rowS_succ {s : List Int} {i m : Nat} {x : Int} (hx : s[i + m]? = some x) : rowS s i (m + 1) = rowS s i m + x := by
  unfold rowS
  exact sumI_take (by rw [List.getElem?_drop]; exact hx)
theorem rowS_bd {s : List Int} {a : Int} (h : ∀ x, x ∈ s → a ≤ x ∧ x ≤ 1000000000) (ha : 0 ≤ a) (i m : Nat) (hm : m ≤ 500) : m.min (s.length - i) * a ≤ rowS s i m ∧ 0 ≤ rowS s i m ∧ rowS s i m ≤ 1000000000000 := by
  have h1 := sumI_bd (l := (s.drop i).take m) fun x hx => h x (List.mem_of_mem_drop (List.mem_of_mem_take hx))
  have h2 : ((s.drop i).take m).length = m.min (s.length - i) := by rw [List.length_take, List.length_drop]
  rw [h2] at h1
  have h3 : m.min (s.length - i) ≤ 500 := Nat.le_trans (Nat.min_le_left _ _) hm
  have h4 : 0 ≤ ((m.min (s.length - i) : Nat) : Int) * a := Int.mul_nonneg (Int.natCast_nonneg _) ha
  unfold rowS
  omega

def pkS (lo hi : Int) (st : Int × Int) (x y : Int) : Int × Int := if lo ≤ y ∧ y ≤ hi ∧ (st.2 = 0 ∨ st.1 * y < x * st.2) then (x, y) else st
def pkI (lo hi : Int) (s l : List Int) (i : Nat) : Nat → Int × Int → Int × Int
  | 0, st => st
  | m + 1, st => pkS lo hi (pkI lo hi s l i m st) (rowS s i (m + 1)) (rowS l i (m + 1))
def pkA (lo hi : Int) (s l : List Int) : Nat → Int × Int
  | 0 => (0, 0)
  | n + 1 => pkI lo hi s l n (s.length - n) (pkA lo hi s l n)

def pkF (s l : List Int) (c lo hi : Int) : Int := if segF s l c ≠ 0 then segF s l c else if (outB lo 1 hi || decide (1000000000000000 < hi)) = true then 1 else if (pkA lo hi s l s.length).2 = 0 then 0 else ratF (pkA lo hi s l s.length).1.toNat (pkA lo hi s l s.length).2.toNat c.toNat
def pkG (s l : List Int) (c lo hi : Int) : Bool := decide (segF s l c = 0) && !(outB lo 1 hi || decide (1000000000000000 < hi)) && decide ((pkA lo hi s l s.length).2 ≠ 0)
def pkN (s l : List Int) (c lo hi : Int) : Int := if pkG s l c lo hi = true then ratN (pkA lo hi s l s.length).1.toNat (pkA lo hi s l s.length).2.toNat c.toNat else 0
def pkD (s l : List Int) (c lo hi : Int) : Int := if pkG s l c lo hi = true then ratD (pkA lo hi s l s.length).1.toNat (pkA lo hi s l s.length).2.toNat c.toNat else 0
def pkB (s l : List Int) (c lo hi : Int) : Bool := pkG s l c lo hi && decide (pkF s l c lo hi = 0)

/-- A state of the search that is right. -/
def PkOk (st : Int × Int) : Prop := 0 ≤ st.1 ∧ st.1 ≤ 1000000000000 ∧ 0 ≤ st.2 ∧ st.2 ≤ 1000000000000
theorem pkS_ok {lo hi : Int} {st : Int × Int} {x y : Int} (h : PkOk st) (hx : 0 ≤ x ∧ x ≤ 1000000000000) (hy : 0 ≤ y ∧ y ≤ 1000000000000) : PkOk (pkS lo hi st x y) := by
  unfold pkS
  split
  · exact ⟨hx.1, hx.2, hy.1, hy.2⟩
  · exact h
theorem pkI_ok {lo hi : Int} {s l : List Int} (hs : ∀ x, x ∈ s → 0 ≤ x ∧ x ≤ 1000000000) (hl : ∀ x, x ∈ l → 1 ≤ x ∧ x ≤ 1000000000) (i : Nat) {st : Int × Int} (h : PkOk st) : ∀ m, m ≤ 500 → PkOk (pkI lo hi s l i m st)
  | 0, _ => h
  | m + 1, hm => by
    have h1 := rowS_bd hs (by omega) i (m + 1) hm
    have h2 := rowS_bd hl (by omega) i (m + 1) hm
    exact pkS_ok (pkI_ok hs hl i h m (by omega)) ⟨h1.2.1, h1.2.2⟩ ⟨h2.2.1, h2.2.2⟩
theorem pkA_ok {lo hi : Int} {s l : List Int} (hs : ∀ x, x ∈ s → 0 ≤ x ∧ x ≤ 1000000000) (hl : ∀ x, x ∈ l → 1 ≤ x ∧ x ≤ 1000000000) (h5 : s.length ≤ 500) : ∀ n, PkOk (pkA lo hi s l n)
  | 0 => ⟨by simp [pkA], by simp [pkA], by simp [pkA], by simp [pkA]⟩
  | n + 1 => pkI_ok hs hl n (pkA_ok hs hl h5 n) _ (by omega)

theorem rowS_mono {l : List Int} (hl : ∀ x, x ∈ l → 1 ≤ x ∧ x ≤ 1000000000) (i : Nat) : ∀ d m, rowS l i m ≤ rowS l i (m + d)
  | 0, _ => Int.le_refl _
  | d + 1, m => by
    have ih := rowS_mono hl i d m
    by_cases h : i + (m + d) < l.length
    · have h1 := rowS_succ (s := l) (i := i) (m := m + d) (List.getElem?_eq_getElem h)
      have h2 := hl _ (List.getElem_mem h)
      rw [show m + (d + 1) = m + d + 1 by omega]
      omega
    · have : rowS l i (m + (d + 1)) = rowS l i (m + d) := by
        unfold rowS
        rw [List.take_of_length_le (by simp; omega), List.take_of_length_le (by simp; omega)]
      omega
/-- Rows that are too long change nothing. -/
theorem pkI_stop {lo hi : Int} {s l : List Int} (hl : ∀ x, x ∈ l → 1 ≤ x ∧ x ≤ 1000000000) {i : Nat} {st : Int × Int} {m : Nat} (h : hi < rowS l i (m + 1)) : ∀ d, pkI lo hi s l i (m + d) st = pkI lo hi s l i m st
  | 0 => rfl
  | d + 1 => by
    have h1 := rowS_mono hl i d (m + 1)
    rw [show m + 1 + d = m + d + 1 by omega] at h1
    rw [show m + (d + 1) = m + d + 1 by omega, pkI, pkS, if_neg (by omega), pkI_stop hl h d]

theorem wcmp_int (a b c d : Int) (w : World) (ha : 0 ≤ a ∧ a ≤ 1000000000000) (hb : 0 ≤ b ∧ b ≤ 1000000000000) (hc : 0 ≤ c ∧ c ≤ 1000000000000) (hd : 0 ≤ d ∧ d ≤ 1000000000000) :
    Calls Try.prog 19 #[.int .i64 a, .int .i64 b, .int .i64 c, .int .i64 d] w fun e w' => e = .returned (.int .i64 (sgn (a * d) (c * b))) ∧ Below w.heap.size w w' := by
  obtain ⟨a, rfl⟩ : ∃ n : Nat, a = n := ⟨a.toNat, by omega⟩
  obtain ⟨b, rfl⟩ : ∃ n : Nat, b = n := ⟨b.toNat, by omega⟩
  obtain ⟨c, rfl⟩ : ∃ n : Nat, c = n := ⟨c.toNat, by omega⟩
  obtain ⟨d, rfl⟩ : ∃ n : Nat, d = n := ⟨d.toNat, by omega⟩
  have := wcmp_nn a b c d w (by omega) (by omega) (by omega) (by omega)
  rw [Int.natCast_mul, Int.natCast_mul] at this
  exact this
theorem less_int (a b c d : Int) (w : World) (ha : 0 ≤ a ∧ a ≤ 9223372036854775807) (hb : 1 ≤ b ∧ b ≤ 9223372036854775807) (hc : 0 ≤ c ∧ c ≤ 9223372036854775807) (hd : 1 ≤ d ∧ d ≤ 9223372036854775807) :
    Calls Try.prog 12 #[.int .i64 a, .int .i64 b, .int .i64 c, .int .i64 d] w fun e w' => e = .returned (.bool (decide (a * d < c * b))) ∧ Below w.heap.size w w' := by
  obtain ⟨a, rfl⟩ : ∃ n : Nat, a = n := ⟨a.toNat, by omega⟩
  obtain ⟨b, rfl⟩ : ∃ n : Nat, b = n := ⟨b.toNat, by omega⟩
  obtain ⟨c, rfl⟩ : ∃ n : Nat, c = n := ⟨c.toNat, by omega⟩
  obtain ⟨d, rfl⟩ : ∃ n : Nat, d = n := ⟨d.toNat, by omega⟩
  have h := less_any a b c d w (by omega) (by omega) (by omega) (by omega) (by omega) (by omega)
  have e : decide ((a : Int) * (d : Int) < (c : Int) * (b : Int)) = decide (a * d < c * b) := by
    rw [decide_eq_decide, ← Int.natCast_mul, ← Int.natCast_mul, Int.ofNat_lt]
  rw [e]
  exact h

/-- A ratio, a bool and a fault. -/
def Rt3 (w : World) (n d : Int) (b : Bool) (f : Int) : Ending → World → Prop := fun e w' => e = .returned (.tuple #[.agg #[.int .i64 n, .int .i64 d], .bool b, .int .i64 f]) ∧ Below w.heap.size w w'
theorem Rt3.mk {w w' : World} {n d f n' d' f' : Int} {b b' : Bool} (hn : n' = n) (hd : d' = d) (hb : b' = b) (hf : f' = f) (hw : Below w.heap.size w w') : Rt3 w n d b f (.returned (.tuple #[.agg #[.int .i64 n', .int .i64 d'], .bool b', .int .i64 f'])) w' := by
  subst hn hd hb hf
  exact ⟨rfl, hw⟩
end Go.Proofs.Ytjfjilbogpcfjaa

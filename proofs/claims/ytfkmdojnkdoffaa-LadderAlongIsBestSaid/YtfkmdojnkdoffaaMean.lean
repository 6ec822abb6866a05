/- Segments: their fault, their sums; Mean, of the program and of the reference; awake. -/
import Derived.Test.YtfkmdojnkdoffaaRat2
namespace Go.Proofs.Ytfkmdojnkdoffaa
open Go.RowKit

def sgF (s l : List Int) (i : Nat) : Int := if (outB (s.getD i 0) 0 1000000000 || outB (l.getD i 0) 1 1000000000) = true then 1 else 0
/-- The fault of segments. -/
def segF (s l : List Int) (c : Int) : Int :=
  if s.length = 0 then 9 else if 500 < s.length then 2 else if l.length ≠ s.length then 3 else if FF (sgF s l) s.length ≠ 0 then FF (sgF s l) s.length else if outB c 1 1000000000 = true then 1 else 0
def sumI : List Int → Int
  | [] => 0
  | x :: r => x + sumI r
theorem sumI_append : ∀ a b : List Int, sumI (a ++ b) = sumI a + sumI b
  | [], b => by simp [sumI]
  | p :: r, b => by simp [sumI, sumI_append r b]; omega
theorem sumI_take {l : List Int} {k : Nat} {a : Int} (hx : l[k]? = some a) : sumI (l.take (k + 1)) = sumI (l.take k) + a := by
  rw [take_next hx, sumI_append]; simp [sumI]
theorem sumI_bd {l : List Int} {a b : Int} (h : ∀ x, x ∈ l → a ≤ x ∧ x ≤ b) : l.length * a ≤ sumI l ∧ sumI l ≤ l.length * b := by
  induction l with
  | nil => simp [sumI]
  | cons p r ih =>
    have h1 := h p (by simp)
    have h2 := ih fun q hq => h q (by simp [hq])
    simp only [sumI, List.length_cons, Int.natCast_add, Int.natCast_one, Int.add_mul, Int.one_mul]
    omega

theorem sgF_zero {s l : List Int} {i : Nat} (h : sgF s l i = 0) : 0 ≤ s.getD i 0 ∧ s.getD i 0 ≤ 1000000000 ∧ 1 ≤ l.getD i 0 ∧ l.getD i 0 ≤ 1000000000 := by
  unfold sgF at h
  split at h
  · simp at h
  rename_i h1
  simp only [Bool.or_eq_true, not_or] at h1
  have h2 := outB_no' h1.1
  have h3 := outB_no' h1.2
  exact ⟨h2.1, h2.2, h3.1, h3.2⟩
theorem segF_zero {s l : List Int} {c : Int} (h : segF s l c = 0) : 1 ≤ s.length ∧ s.length ≤ 500 ∧ l.length = s.length ∧ (∀ x, x ∈ s → 0 ≤ x ∧ x ≤ 1000000000) ∧ (∀ x, x ∈ l → 1 ≤ x ∧ x ≤ 1000000000) ∧ 1 ≤ c ∧ c ≤ 1000000000 := by
  unfold segF at h
  split at h
  · simp at h
  rename_i h1
  split at h
  · simp at h
  rename_i h2
  split at h
  · simp at h
  rename_i h3
  split at h
  · rename_i h4; exact absurd h h4
  rename_i h4
  split at h
  · simp at h
  rename_i h5
  have h6 := outB_no' h5
  have h7 := FF_eq_zero (by simpa using h4 : FF (sgF s l) s.length = 0)
  refine ⟨by omega, by omega, by simpa using h3, fun x hx => ?_, fun x hx => ?_, h6.1, h6.2⟩
  · obtain ⟨i, hi, rfl⟩ := List.mem_iff_getElem.1 hx
    have h8 := sgF_zero (h7 i hi)
    rw [getD_of (List.getElem?_eq_getElem hi)] at h8
    exact ⟨h8.1, h8.2.1⟩
  · obtain ⟨i, hi, rfl⟩ := List.mem_iff_getElem.1 hx
    have h3' : l.length = s.length := by simpa using h3
    have h8 := sgF_zero (h7 i (by omega))
    rw [getD_of (l := l) (List.getElem?_eq_getElem hi)] at h8
    exact ⟨h8.2.2.1, h8.2.2.2⟩

theorem noScale_any (n : Int) (w : World) : Calls Try.prog 57 #[.int .i64 n] w fun e w' => e = .returned (.bool (outB n 1 1000000000)) ∧ w = w' := by
  go_enter Try.func57, Try.ntmps57
  go_wp2_with (go_at_call 20; refine (out_any _ _ _ _).mono ?_; rintro e w' ⟨rfl, rfl⟩)
  go_ret
  exact ⟨rfl, rfl⟩

set_option maxRecDepth 100000 in
set_option maxHeartbeats 2000000 in
theorem segmentsFault_any (w : World) (s l : List Int) (u v : Value) (c : Int) (hs : Sl w 1 encI u s) (hl : Sl w 1 encI v l) :
    Calls Try.prog 46 #[u, v, .int .i64 c] w fun e w' => e = .returned (.int .i64 (segF s l c)) ∧ w = w' := by
  obtain ⟨ao, cap, rfl, hcap, hmax, hnil, hel⟩ := hs
  obtain ⟨bo, cbp, rfl, hcbp, hmbx, hnbl, hem⟩ := hl
  unfold maxLen at hmax hmbx
  have hF : Hid (segF s l c = if s.length = 0 then 9 else if 500 < s.length then 2 else if l.length ≠ s.length then 3 else if FF (sgF s l) s.length ≠ 0 then FF (sgF s l) s.length else if outB c 1 1000000000 = true then 1 else 0) := Lib.hid rfl
  generalize segF s l c = F at hF ⊢
  by_cases h0 : s.length = 0
  · have hv : Hid (9 = F) := Lib.hid (by rw [hF.out, if_pos h0])
    have e0 : ((s.length : Int) == 0) = true := by simp [h0]
    clear hel hem h0
    go_enter Try.func46, Try.ntmps46
    go_wp2
    go_ret
    exact ⟨ret_int hv.out, rfl⟩
  have e0 : ((s.length : Int) == 0) = false := by rw [beq_eq_false_iff_ne]; omega
  by_cases h1 : 500 < s.length
  · have hv : Hid (2 = F) := Lib.hid (by rw [hF.out, if_neg h0, if_pos h1])
    clear hel hem h0
    go_enter Try.func46, Try.ntmps46
    go_wp2
    go_ret
    exact ⟨ret_int hv.out, rfl⟩
  by_cases h2 : l.length = s.length
  case neg =>
    have hv : Hid (3 = F) := Lib.hid (by rw [hF.out, if_neg h0, if_neg h1, if_pos h2])
    have e1 : (l.length != s.length) = true := by simpa using h2
    have e2 : ((l.length : Int) != (s.length : Int)) = true := by rw [bne_iff_ne]; omega
    clear hel hem h0 h2
    go_enter Try.func46, Try.ntmps46
    go_wp2
    go_ret
    exact ⟨ret_int hv.out, rfl⟩
  have hF2 : Hid (F = if FF (sgF s l) s.length ≠ 0 then FF (sgF s l) s.length else if outB c 1 1000000000 = true then 1 else 0) := Lib.hid (by rw [hF.out, if_neg h0, if_neg h1, if_neg (by simp [h2])])
  have e1 : (l.length != s.length) = false := by simp [h2]
  have e2 : ((l.length : Int) != (s.length : Int)) = false := by simp [h2]
  have hll : (s.length : Int) ≤ (l.length : Int) := by omega
  have HLL := Lib.hid h2
  have HEM := Lib.hid hem
  clear h2 h0 hF hem
  go_enter Try.func46, Try.ntmps46
  go_wp2
  go_loop [7, 24] (fun _ s24 => ∃ kk : Nat, kk ≤ s.length ∧ s24 = .int .i64 kk ∧ Aside (∀ j, j < kk → sgF s l j = 0)) (fun _ i => s.length - (intOf i).toNat)
  case atStart => exact ⟨0, Nat.zero_le _, rfl, fun j hj => absurd hj (Nat.not_lt_zero _)⟩
  case round =>
    obtain ⟨kk, hkk, rfl, A⟩ := hrel
    by_cases hlt : kk < s.length
    · have hltz : (kk : Int) < (s.length : Int) := by omega
      have hltz2 : (kk : Int) < (l.length : Int) := by omega
      obtain ⟨x, hx⟩ : ∃ x, s[kk]? = some x := ⟨s[kk], by simp [hlt]⟩
      obtain ⟨y, hy⟩ : ∃ x, l[kk]? = some x := ⟨l[kk]'(by omega), by simp⟩
      obtain ⟨b, off, rfl, hc⟩ := hel kk x hx
      obtain ⟨b2, off2, hao2, hd⟩ := HEM.out kk y hy
      subst hao2
      have c0 : w.cell? ⟨b, off + kk, none⟩ = some (.int .i64 x) := by simpa using hc 0 _ rfl
      have d0 : w.cell? ⟨b2, off2 + kk, none⟩ = some (.int .i64 y) := by simpa using hd 0 _ rfl
      have hS : Hid (sgF s l kk = if (outB x 0 1000000000 || outB y 1 1000000000) = true then 1 else 0) := Lib.hid (by rw [sgF, getD_of hx, getD_of hy])
      clear hx hy hc hd hel
      cases o1 : outB x 0 1000000000
      case true =>
        have hf : Hid (FF (sgF s l) s.length = 1) := Lib.hid (by rw [FF_hit hlt A.out (by rw [hS.out, o1]; simp), hS.out, o1]; rfl)
        have hv : Hid (1 = F) := Lib.hid (by rw [hF2.out, hf.out]; rfl)
        go_wp2_with (go_at_call 20; refine (out_any _ _ _ _).mono ?_; rintro e w' ⟨rfl, rfl⟩)
        go_ret
        exact ⟨ret_int hv.out, rfl⟩
      cases o2 : outB y 1 1000000000
      case true =>
        have hf : Hid (FF (sgF s l) s.length = 1) := Lib.hid (by rw [FF_hit hlt A.out (by rw [hS.out, o1, o2]; decide), hS.out, o1, o2]; rfl)
        have hv : Hid (1 = F) := Lib.hid (by rw [hF2.out, hf.out]; rfl)
        go_wp2_with (go_at_call 20; refine (out_any _ _ _ _).mono ?_; rintro e w' ⟨rfl, rfl⟩)
        go_ret
        exact ⟨ret_int hv.out, rfl⟩
      case false =>
        have hz : Hid (sgF s l kk = 0) := Lib.hid (by rw [hS.out, o1, o2]; rfl)
        go_wp2_with (go_at_call 20; refine (out_any _ _ _ _).mono ?_; rintro e w' ⟨rfl, rfl⟩)
        go_round
        case rel =>
          refine ⟨kk + 1, by omega, by go_num, (show Aside _ from fun j hj => ?_)⟩
          by_cases e : j = kk
          · rw [e, hz.out]
          · exact A.out j (by omega)
        case measure => simp [intOf]; omega
    · obtain rfl : kk = s.length := by omega
      have hf : Hid (F = if outB c 1 1000000000 = true then 1 else 0) := Lib.hid (by rw [hF2.out, FF_zero A.out]; rfl)
      clear hel
      cases o3 : outB c 1 1000000000
      case true =>
        have hv : Hid (1 = F) := Lib.hid (by rw [hf.out, o3]; rfl)
        go_wp2_with (go_at_call 57; refine (noScale_any _ _).mono ?_; rintro e w' ⟨rfl, rfl⟩)
        go_ret
        exact ⟨ret_int hv.out, rfl⟩
      case false =>
        have hv : Hid (0 = F) := Lib.hid (by rw [hf.out, o3]; rfl)
        go_wp2_with (go_at_call 57; refine (noScale_any _ _).mono ?_; rintro e w' ⟨rfl, rfl⟩)
        go_ret
        exact ⟨ret_int hv.out, rfl⟩
end Go.Proofs.Ytfkmdojnkdoffaa

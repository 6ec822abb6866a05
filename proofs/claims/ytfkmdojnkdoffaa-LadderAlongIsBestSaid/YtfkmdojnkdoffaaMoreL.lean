/- Fewer renditions are worth no more: plain. -/
import Derived.Test.YtfkmdojnkdoffaaWthP
import Derived.Test.YtfkmdojnkdoffaaRenL
namespace Go.Proofs.Ytfkmdojnkdoffaa
open Go.RowKit

def fitsV (v : Vw) (x : Rng) : Prop := x.ra ≤ v.ra ∧ x.he ≤ v.he
theorem tkA_inv (l : List Rng) (v : Vw) : ∀ k, k ≤ l.length → (tkA l v k < 0 → ∀ j x, j < k → l[j]? = some x → ¬ fitsV v x) ∧
    (0 ≤ tkA l v k → ∃ y, l[(tkA l v k).toNat]? = some y ∧ fitsV v y ∧ ∀ j x, j < k → l[j]? = some x → fitsV v x → x.qu ≤ y.qu)
  | 0, _ => ⟨fun _ j x hj => absurd hj (Nat.not_lt_zero _), fun h => by simp [tkA] at h⟩
  | k + 1, hk => by
    have ih := tkA_inv l v k (by omega)
    obtain ⟨z, hz⟩ : ∃ z, l[k]? = some z := ⟨l[k]'(by omega), by simp [show k < l.length by omega]⟩
    have hbd := tkA_bd l v k
    unfold tkA
    rw [getD_of hz]
    generalize tkA l v k = a at ih hbd
    split
    · rename_i ht
      simp only [tkB, Bool.and_eq_true, Bool.or_eq_true, decide_eq_true_eq] at ht
      refine ⟨fun h => by omega, fun _ => ⟨z, by simpa using hz, ⟨ht.1.1, ht.1.2⟩, fun j x hj hx hf => ?_⟩⟩
      by_cases e : j = k
      · subst e
        have := hz.symm.trans hx
        simp only [Option.some.injEq] at this
        subst this
        exact Int.le_refl _
      · by_cases h0 : a < 0
        · exact absurd hf (ih.1 h0 j x (by omega) hx)
        · obtain ⟨y, hy, _, hm⟩ := ih.2 (by omega)
          have := hm j x (by omega) hx hf
          rcases ht.2 with h | h
          · omega
          · rw [getD_of hy] at h; omega
    · rename_i ht
      simp only [tkB, Bool.and_eq_true, Bool.or_eq_true, decide_eq_true_eq, not_and, not_or] at ht
      refine ⟨fun h0 j x hj hx hf => ?_, fun h0 => ?_⟩
      · by_cases e : j = k
        · subst e
          have := hz.symm.trans hx
          simp only [Option.some.injEq] at this
          subst this
          exact (ht hf).1 h0
        · exact ih.1 h0 j x (by omega) hx hf
      · obtain ⟨y, hy, hfy, hm⟩ := ih.2 h0
        refine ⟨y, hy, hfy, fun j x hj hx hf => ?_⟩
        by_cases e : j = k
        · subst e
          have := hz.symm.trans hx
          simp only [Option.some.injEq] at this
          subst this
          have := (ht hf).2
          rw [getD_of hy] at this
          omega
        · exact hm j x (by omega) hx hf

theorem wt1_mono {l l' : List Rng} {v : Vw} (hs : ∀ x, x ∈ l' → x ∈ l) (hq : ∀ x, x ∈ l → 0 ≤ x.qu) (hv : 0 ≤ v.we) : wt1 l' v ≤ wt1 l v := by
  have h1 := tkA_inv l' v l'.length (Nat.le_refl _)
  have h2 := tkA_inv l v l.length (Nat.le_refl _)
  unfold wt1 takesR
  split
  · rename_i h0
    obtain ⟨y, hy, hf, _⟩ := h1.2 h0
    obtain ⟨i, hi, he⟩ := List.mem_iff_getElem.1 (hs y (List.mem_of_getElem? hy))
    have hi' : l[i]? = some y := by rw [List.getElem?_eq_getElem hi, he]
    split
    · rename_i h3
      obtain ⟨z, hz, _, hm⟩ := h2.2 h3
      rw [getD_of hy, getD_of hz]
      exact Int.mul_le_mul_of_nonneg_left (hm i y hi hi' hf) hv
    · rename_i h3
      exact absurd hf (h2.1 (by omega) i y hi hi')
  · split
    · rename_i h3
      obtain ⟨z, hz, _, _⟩ := h2.2 h3
      rw [getD_of hz]
      exact Int.mul_nonneg hv (hq z (List.mem_of_getElem? hz))
    · exact Int.le_refl _

theorem wtA_mono {l l' : List Rng} {c : List Vw} (hs : ∀ x, x ∈ l' → x ∈ l) (hq : ∀ x, x ∈ l → 0 ≤ x.qu) (hv : ∀ v, v ∈ c → 0 ≤ v.we) : ∀ k, k ≤ c.length → wtA l' c k ≤ wtA l c k
  | 0, _ => Int.le_refl _
  | k + 1, hk => by
    have ih := wtA_mono hs hq hv k (by omega)
    have h1 := wt1_mono (v := c.getD k default) hs hq (by rw [getD_of (List.getElem?_eq_getElem (by omega : k < c.length))]; exact hv _ (List.getElem_mem _))
    unfold wtA
    omega

theorem worthF_erase {l : List Rng} {c : List Vw} (k : Nat) (h : checkRV l c = 0) : checkRV (l.eraseIdx k) c = 0 ∧ worthF (l.eraseIdx k) c ≤ worthF l c := by
  obtain ⟨h1, h2⟩ := checkRV_zero h
  have h3 := checkR_sub (List.eraseIdx_sublist l k) h1
  have h4 : checkRV (l.eraseIdx k) c = 0 := by unfold checkRV; rw [if_neg (by omega)]; exact h2
  refine ⟨h4, ?_⟩
  unfold worthF
  rw [if_pos h, if_pos h4]
  exact wtA_mono (fun x hx => (List.eraseIdx_sublist l k).subset hx) (fun x hx => ((checkR_zero h1).2.2 x hx).2.2.2.1) (fun v hv => by have := ((checkV_zero h2).2 v hv).2.2.1; omega) c.length (Nat.le_refl _)
end Go.Proofs.Ytfkmdojnkdoffaa

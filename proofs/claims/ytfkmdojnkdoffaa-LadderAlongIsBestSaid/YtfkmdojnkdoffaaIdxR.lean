/- slices.IndexFunc and its like, at one type. -/
import Derived.Test.YtfkmdojnkdoffaaRenD
namespace Go.Proofs.Ytfkmdojnkdoffaa
open Go.RowKit

/-- The first place at which p holds, or -1. -/
def fidxR (p : Rng → Bool) (l : List Rng) : Int := if l.findIdx p = l.length then -1 else (l.findIdx p : Nat)
theorem fidxR_hit {p : Rng → Bool} {l : List Rng} {k : Nat} {x : Rng} (hx : l[k]? = some x) (h : p x = true) (hn : ∀ (j : Nat) y, l[j]? = some y → j < k → p y = false) : fidxR p l = k ∧ l.findIdx p = k := by
  obtain ⟨hk, rfl⟩ := List.getElem?_eq_some_iff.1 hx
  have e : l.findIdx p = k := by
    rw [List.findIdx_eq hk]
    exact ⟨h, fun j hj => hn j _ (List.getElem?_eq_getElem (by omega)) hj⟩
  exact ⟨by rw [fidxR, e, if_neg (by omega)], e⟩
theorem fidxR_none {p : Rng → Bool} {l : List Rng} (hn : ∀ (j : Nat) y, l[j]? = some y → p y = false) : fidxR p l = -1 ∧ l.findIdx p = l.length := by
  have e : l.findIdx p = l.length := by
    rw [List.findIdx_eq_length]
    intro x hx
    obtain ⟨j, hj, rfl⟩ := List.mem_iff_getElem.1 hx
    exact hn j _ (List.getElem?_eq_getElem hj)
  exact ⟨by rw [fidxR, if_pos e], e⟩
theorem fidxR_any (p : Rng → Bool) (l : List Rng) : decide (0 ≤ fidxR p l) = l.any p := by
  unfold fidxR
  by_cases h : l.findIdx p = l.length
  · rw [if_pos h]
    rw [List.findIdx_eq_length] at h
    have : l.any p = false := by rw [List.any_eq_false]; intro x hx; simp [h x hx]
    simp [this]
  · rw [if_neg h]
    have hlt : l.findIdx p < l.length := by have := List.findIdx_le_length (p := p) (xs := l); omega
    have : l.any p = true := List.any_eq_true.2 ⟨_, List.getElem_mem hlt, List.findIdx_getElem⟩
    simp [this]

/-- slices.IndexFunc, of whatever predicate that leaves what was there as it was. -/
theorem idxR (g : Nat) (lb : Array Value) (p : Rng → Bool) (w : World) (l : List Rng) (v : Value) (hl : Sl w 4 encR v l)
    (eg : ∀ args w, (callFunc g args).run Try.prog w = .ok (.enter g args) w)
    (hp : ∀ W x, x ∈ l → Below w.heap.size w W → Calls Try.prog g (#[.agg #[.string x.na, .int .i64 x.ra, .int .i64 x.he, .int .i64 x.qu]] ++ lb) W fun e w' => e = .returned (.bool (p x)) ∧ Below W.heap.size W w') :
    Calls Try.prog 54 #[v, .func (.func g) #[] lb] w fun e w' => e = .returned (.int .i64 (fidxR p l)) ∧ Below w.heap.size w w' := by
  obtain ⟨ao, cap, rfl, hcap, hmax, hnil, hel⟩ := hl
  unfold maxLen at hmax
  go_enter Try.func54, Try.ntmps54
  go_wp2
  go_loopg [5, 8] l.length (fun gg _ s8 wr => ∃ kk : Nat, kk ≤ l.length ∧ l.length - kk ≤ gg ∧ s8 = .int .i64 kk ∧ Aside (Below w.heap.size w wr) ∧ Aside (∀ j x, l[j]? = some x → j < kk → p x = false))
  case atStart => exact ⟨0, Nat.zero_le _, by omega, rfl, Below.refl _ w, fun j x _ hj => absurd hj (Nat.not_lt_zero _)⟩
  case round =>
    obtain ⟨kk, hkk, hg, rfl, BW, A⟩ := hrel
    by_cases hlt : kk < l.length
    · have hltz : (kk : Int) < (l.length : Int) := by omega
      obtain ⟨x, hx⟩ : ∃ x, l[kk]? = some x := ⟨l[kk], by simp [hlt]⟩
      obtain ⟨b, off, rfl, hc⟩ := hel kk x hx
      have hlt0 := World.block_lt_of_cell? w _ (hc 0 _ rfl)
      have c0 : wr.cell? ⟨b, off + kk * 4, none⟩ = some (.string x.na) := by have h := (BW.out.cell (p := ⟨b, off + kk * 4 + 0, none⟩) hlt0).trans (hc 0 _ rfl); simpa using h
      have c1 := (BW.out.cell (p := ⟨b, off + kk * 4 + 1, none⟩) hlt0).trans (hc 1 _ rfl)
      have c2 := (BW.out.cell (p := ⟨b, off + kk * 4 + 2, none⟩) hlt0).trans (hc 2 _ rfl)
      have c3 := (BW.out.cell (p := ⟨b, off + kk * 4 + 3, none⟩) hlt0).trans (hc 3 _ rfl)
      have hcall := hp wr x (List.mem_of_getElem? hx) BW.out
      have HX : Hid (l[kk]? = some x) := hx
      clear hx hc hel hp
      cases hq : p x with
      | true =>
        rw [hq] at hcall
        have hv := Lib.hid (fidxR_hit HX.out hq A.out).1
        go_wp2_with (go_at_fn g; refine hcall.mono ?_; rintro e w' ⟨rfl, hb'⟩)
        go_ret
        exact ⟨ret_int hv.out.symm, BW.out.thru hb'⟩
      | false =>
        rw [hq] at hcall
        go_wp2_with (go_at_fn g; refine hcall.mono ?_; rintro e w' ⟨rfl, hb'⟩)
        go_roundg (l.length - (kk + 1))
        case measure => omega
        case rel =>
          refine ⟨kk + 1, by omega, by omega, by go_num, BW.out.thru hb', (show Aside _ from fun j y hy hj => ?_)⟩
          by_cases e : j = kk
          · subst e
            have := HX.out.symm.trans hy
            simp at this; subst this; exact hq
          · exact A.out j y hy (by omega)
    · have hltz : ¬ (kk : Int) < (l.length : Int) := by omega
      have hv := Lib.hid (fidxR_none (p := p) (l := l) fun j y hy => A.out j y hy (by have := (List.getElem?_eq_some_iff.1 hy).1; omega)).1
      clear hel
      go_wp2
      go_ret
      exact ⟨ret_int hv.out.symm, BW.out⟩

theorem anyR (g : Nat) (lb : Array Value) (p : Rng → Bool) (w : World) (l : List Rng) (v : Value) (hl : Sl w 4 encR v l)
    (eg : ∀ args w, (callFunc g args).run Try.prog w = .ok (.enter g args) w)
    (hp : ∀ W x, x ∈ l → Below w.heap.size w W → Calls Try.prog g (#[.agg #[.string x.na, .int .i64 x.ra, .int .i64 x.he, .int .i64 x.qu]] ++ lb) W fun e w' => e = .returned (.bool (p x)) ∧ Below W.heap.size W w') :
    Calls Try.prog 39 #[v, .func (.func g) #[] lb] w fun e w' => e = .returned (.bool (l.any p)) ∧ Below w.heap.size w w' := by
  have hc := idxR g lb p w l v hl eg hp
  have ha := Lib.hid (fidxR_any p l)
  clear hp hl
  go_enter Try.func39, Try.ntmps39
  go_wp2_with (go_at_call 54; refine hc.mono ?_; rintro e w' ⟨rfl, hb'⟩)
  go_ret
  exact ⟨ret_bool ha.out, hb'⟩
end Go.Proofs.Ytfkmdojnkdoffaa

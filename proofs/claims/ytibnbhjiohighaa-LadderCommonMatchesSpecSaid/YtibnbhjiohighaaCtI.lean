/- slices.Contains at []int. -/
import Derived.Test.YtibnbhjiohighaaLib
namespace Go.Proofs.Ytibnbhjiohighaa
open Go.RowKit

set_option maxHeartbeats 1000000 in
/-- slices.Index of a number that is there. -/
theorem indexI_any (w : World) (l : List Int) (v : Value) (x : Int) (hl : Sl w 1 encI v l) :
    Calls Try.prog 48 #[v, .int .i64 x] w fun e w' => e = .returned (.int .i64 (if x ∈ l then ((l.idxOf x : Nat) : Int) else -1)) ∧ Below w.heap.size w w' := by
  obtain ⟨ao, cap, rfl, hcap, hmax, hnil, hel⟩ := hl
  unfold maxLen at hmax
  have HEL := Lib.hid hel
  obtain ⟨R, hR⟩ : ∃ R, R = if x ∈ l then ((l.idxOf x : Nat) : Int) else -1 := ⟨_, rfl⟩
  have HR := Lib.hid hR
  rw [← hR]
  clear hel hR
  go_enter Try.func48, Try.ntmps48
  go_wp2
  go_loopg [8] l.length (fun gg s8 wr => ∃ k : Nat, k ≤ l.length ∧ l.length - k ≤ gg ∧ s8 = .int .i64 k ∧ Aside (Below w.heap.size w wr) ∧ Aside (∀ j y, l[j]? = some y → j < k → y ≠ x))
  case atStart => exact ⟨0, Nat.zero_le _, by omega, rfl, Below.refl _ w, (show Aside _ from fun j y _ hj => absurd hj (Nat.not_lt_zero _))⟩
  obtain ⟨k, hk, hg, rfl, BW, A⟩ := hrel
  by_cases hlt : k < l.length
  · have hltz : (k : Int) < (l.length : Int) := by omega
    obtain ⟨y, hy⟩ : ∃ x, l[k]? = some x := ⟨l[k], by simp [hlt]⟩
    obtain ⟨b, off, hao, hd⟩ := HEL.out k y hy
    subst hao
    have e1 : w.cell? ⟨b, off + k, none⟩ = some (.int .i64 y) := by simpa using hd 0 _ rfl
    have c1 := (BW.out.cell (p := ⟨b, off + k, none⟩) (World.block_lt_of_cell? w _ e1)).trans e1
    have HY := Lib.hid hy
    have HBW := Lib.hid BW.out
    clear hy hd e1
    cases hq : (x == y)
    case true =>
      have hxy : x = y := by simpa using hq
      have hv : Hid ((k : Int) = if x ∈ l then ((l.idxOf x : Nat) : Int) else -1) := Lib.hid (by
        have hm : x ∈ l := by rw [hxy]; exact List.mem_of_getElem? HY.out
        rw [if_pos hm]
        congr 1
        have : l.idxOf x = k := by
          unfold List.idxOf
          rw [List.findIdx_eq hlt]
          have e : l[k] = y := by have := HY.out; rw [List.getElem?_eq_getElem hlt] at this; simpa using this
          refine ⟨by rw [e, hxy]; simp, fun j hj => ?_⟩
          have := A.out j _ (List.getElem?_eq_getElem (by omega)) hj
          simpa using this
        exact this.symm)
      rw [← HR.out] at hv
      clear hxy A
      go_wp2
      go_ret
      exact ⟨ret_int hv.out, HBW.out⟩
    case false =>
      have hne : y ≠ x := fun h => by rw [h] at hq; simp at hq
      have HNE := Lib.hid hne
      clear hne
      go_wp2
      go_roundg (l.length - (k + 1))
      case measure => omega
      case rel =>
        refine ⟨k + 1, by omega, by omega, by go_num, HBW.out, (show Aside (∀ j y, l[j]? = some y → j < k + 1 → y ≠ x) from fun j z hz hjk => ?_)⟩
        by_cases e : j = k
        · subst e
          have := HY.out.symm.trans hz
          simp only [Option.some.injEq] at this
          subst this
          exact HNE.out
        · exact A.out j z hz (by omega)
  · obtain rfl : k = l.length := by omega
    have hv : Hid (-1 = if x ∈ l then ((l.idxOf x : Nat) : Int) else -1) := Lib.hid (by
      rw [if_neg]
      intro hm
      obtain ⟨j, hj, he⟩ := List.mem_iff_getElem.1 hm
      exact A.out j x (by rw [List.getElem?_eq_getElem hj, he]) hj rfl)
    have HBW := Lib.hid BW.out
    rw [← HR.out] at hv
    clear A BW
    go_wp2
    go_ret
    exact ⟨ret_int hv.out, HBW.out⟩

theorem containsI_yes (w : World) (l : List Int) (v : Value) (x : Int) (hl : Sl w 1 encI v l) (hx : x ∈ l) :
    Calls Try.prog 29 #[v, .int .i64 x] w fun e w' => e = .returned (.bool true) ∧ Below w.heap.size w w' := by
  have H := Lib.hid (indexI_any w l v x hl)
  rw [if_pos hx] at H
  generalize l.idxOf x = n at H
  clear hl hx
  go_enter Try.func29, Try.ntmps29
  go_wp2_with fail
  refine H.out.mono ?_
  rintro e w1 ⟨rfl, hb⟩
  go_wp2
  go_ret
  exact ⟨rfl, hb⟩
end Go.Proofs.Ytibnbhjiohighaa

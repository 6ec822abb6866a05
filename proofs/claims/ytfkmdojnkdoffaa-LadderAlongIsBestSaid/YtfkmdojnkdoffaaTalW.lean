/- Tall and IsChoice of the reference. -/
import Derived.Test.YtfkmdojnkdoffaaAlgE
import Derived.Test.YtfkmdojnkdoffaaCloV
import Derived.Test.YtfkmdojnkdoffaaOwnP
namespace Go.Proofs.Ytfkmdojnkdoffaa
open Go.RowKit

def tlM (c : List Vw) (i : Nat) : List Vw := mixL (fun j => tallV (c.getD j default)) (fun j => c.getD j default) i c.length
theorem map_getD {α : Type} [Inhabited α] (c : List α) : (List.range c.length).map (fun j => c.getD j default) = c := by
  apply List.ext_getElem
  · simp
  · intro i h1 h2
    simp only [List.getElem_map, List.getElem_range]
    exact getD_of (by simp [h2])
theorem tlM_zero (c : List Vw) : tlM c 0 = c := by unfold tlM; rw [mixL_zero, map_getD]
theorem tlM_all (c : List Vw) : tlM c c.length = tallC c := by
  unfold tlM tallC
  rw [mixL_all]
  have h := congrArg (List.map tallV) (map_getD c)
  rw [List.map_map] at h
  exact h
set_option maxHeartbeats 1000000 in
theorem tall_any (w : World) (c : List Vw) (v : Value) (hc : Sl w 3 encV v c) (hb : c.length * 24 ≤ 140737488355328) :
    Calls Try.prog 12 #[v] w (OwnRet w 63 3 encV (tallC c)) := by
  have H1 := Lib.hid (cloneV_any w c v hc hb)
  have hlen : c.length ≤ 140737488355328 := by omega
  unfold OwnRet at H1
  obtain ⟨co, ccap, rfl, hccap, hcmax, _, _⟩ := hc
  unfold maxLen at hcmax
  go_enter Try.func12, Try.ntmps12
  go_wp2_with fail
  refine H1.out.mono ?_
  rintro e w1 ⟨v1, rfl, ho1, hb1⟩
  have HO1 : Hid (Own w1 w.heap.size 63 3 encV v1 (tlM c 0)) := Lib.hid (by rw [tlM_zero]; exact ho1)
  have HB1 := Lib.hid hb1
  obtain ⟨oa, ocap, P, rfl, hoc1, hoc2, _, hoel⟩ := own_parts encV_len ho1
  unfold maxLen at hoc2
  have HPP : Hid (∀ i, i < c.length → oa = some ⟨P, 0, none⟩ ∧ w.heap.size ≤ P) := Lib.hid (fun i hi => ⟨(hoel i c[i] (by simp [hi])).1, by
    have h := (hoel i c[i] (by simp [hi])).1
    subst h
    exact (World.ownsRow.lt ho1 P rfl).1⟩)
  clear ho1 hb1 H1 hoel
  go_wp2
  go_loopg [9] c.length (fun gg s9 wr => ∃ i : Nat, i ≤ c.length ∧ c.length - i ≤ gg ∧ s9 = .int .i64 i ∧ Aside (Own wr w.heap.size 63 3 encV (.slice oa c.length ocap) (tlM c i)) ∧ Aside (Below w.heap.size w wr))
  case atStart => exact ⟨0, by omega, by omega, rfl, (show Own _ _ _ _ _ _ _ from HO1.out), (show Aside _ from HB1.out)⟩
  case round =>
    obtain ⟨i, hi, hgi, rfl, OW, BW⟩ := hrel
    by_cases hil : i < c.length
    · have hiz : (i : Int) < (c.length : Int) := by omega
      obtain ⟨rfl, hPw⟩ := HPP.out i hil
      have hmx : (tlM c i)[i]? = some (c.getD i default) := by unfold tlM; rw [mixL_get hil, if_neg (Nat.lt_irrefl _)]
      obtain ⟨gA, cA, heq, _, hAl, _, _, hcA, hfA⟩ := Own.getk encV_len OW.out (by intro e; rw [e] at hmx; simp at hmx)
      simp only [Value.slice.injEq, Option.some.injEq, Addr.mk.injEq, and_true] at heq
      obtain ⟨rfl, hea, heb⟩ := heq
      have a1 := hcA i _ 1 _ hmx rfl
      have z1 := hfA (i * 3 + 1)
      have HNX : Hid (Own (wr.setCell ⟨P, i * 3 + 1, none⟩ (.int .i64 10000)) w.heap.size 63 3 encV (.slice (some ⟨P, 0, none⟩) c.length ocap) (tlM c (i + 1))) := Lib.hid (by
        have h2 := Own.store (i := i) (j := 1) (x := c.getD i default) (y := tallV (c.getD i default)) (u := .int .i64 10000) encV_len OW.out (by unfold tlM; rw [mixL_len]) hmx (by decide) rfl
        have e2 : (tlM c i).set i (tallV (c.getD i default)) = tlM c (i + 1) := by
          unfold tlM
          exact mixL_set (fun j => tallV (c.getD j default)) (fun j => c.getD j default) i c.length
        rw [e2] at h2
        exact h2)
      have HNB : Hid (Below w.heap.size w (wr.setCell ⟨P, i * 3 + 1, none⟩ (.int .i64 10000))) := Lib.hid (BW.out.setCell hPw _)
      clear hcA hfA hmx hea heb OW BW
      go_wp2
      go_roundg (c.length - (i + 1))
      case measure => omega
      case rel => exact ⟨i + 1, by omega, by omega, by go_num, (show Own _ _ _ _ _ _ _ from HNX.out), (show Aside _ from HNB.out)⟩
    · obtain rfl : i = c.length := by omega
      rw [tlM_all] at OW
      go_wp2
      go_ret
      exact OwnRet.mk OW.out BW.out
theorem isChoice_any (w : World) (n : Nat) (L : List Int) (v : Value) (hL : Sl w 1 encI v L) (hr : ∀ k, k ∈ L → 0 ≤ k ∧ k < (n : Int)) (hp : L.Pairwise (· < ·)) :
    Calls Try.prog 13 #[v, .int .i64 n] w fun e w' => e = .returned (.bool true) ∧ Below w.heap.size w w' := by
  obtain ⟨ao, cap, rfl, hcap, hmax, _, hel⟩ := hL
  unfold maxLen at hmax
  have HEL := Lib.hid hel
  have HR := Lib.hid hr
  have HP := Lib.hid (List.pairwise_iff_getElem.1 hp)
  clear hel hr hp
  go_enter Try.func13, Try.ntmps13
  go_wp2
  go_loopg [9] L.length (fun gg s9 wr => ∃ i : Nat, i ≤ L.length ∧ L.length - i ≤ gg ∧ s9 = .int .i64 i ∧ ∃ nn, wr = w.drewN nn)
  case atStart => exact ⟨0, by omega, by omega, rfl, 0, rfl⟩
  case round =>
    obtain ⟨i, hi, hgi, rfl, nn, rfl⟩ := hrel
    by_cases hil : i < L.length
    · have hiz : (i : Int) < (L.length : Int) := by omega
      obtain ⟨b, off, rfl, hc⟩ := HEL.out i L[i] (by simp [hil])
      have c0 : w.cell? ⟨b, off + i, none⟩ = some (.int .i64 L[i]) := by have h := hc 0 _ rfl; simpa using h
      obtain ⟨r0, r1⟩ := HR.out L[i] (List.getElem_mem hil)
      obtain ⟨x, hx⟩ : ∃ x, x = L[i] := ⟨_, rfl⟩
      have HLT : Hid (0 < i → ∃ y, w.cell? ⟨b, off + (i - 1), none⟩ = some (.int .i64 y) ∧ y < x) := Lib.hid (fun h0 => by
        obtain ⟨b2, off2, hbo, hc2⟩ := HEL.out (i - 1) L[i - 1] (by simp [show i - 1 < L.length by omega])
        simp only [Option.some.injEq, Addr.mk.injEq, and_true] at hbo
        obtain ⟨rfl, rfl⟩ := hbo
        refine ⟨L[i - 1], by have h := hc2 0 _ rfl; simpa using h, ?_⟩
        rw [hx]
        exact HP.out (i - 1) i (by omega) hil (by omega))
      rw [← hx] at c0 r0 r1
      have hr0 : ¬ x < 0 := by omega
      have hr1 : ¬ (n : Int) ≤ x := by omega
      clear hx hc
      cases i with
      | zero =>
        have c0' : w.cell? ⟨b, off, none⟩ = some (.int .i64 x) := c0
        go_wp2
        go_roundg (L.length - 1)
        case measure => omega
        case rel => exact ⟨1, by omega, by omega, by go_num, _, rfl⟩
      | succ j =>
        obtain ⟨y, hy, hyx⟩ := HLT.out (by omega)
        rw [show j + 1 - 1 = j by omega] at hy
        have hj0 : decide (0 < j + 1) = true := by simp
        have hjz : (0 : Int) < ((j + 1 : Nat) : Int) := by omega
        have hw1 : IntKind.i64.wrap (((j + 1 : Nat) : Int) - 1) = (j : Int) := by rw [IntWalk.i64_in _ (by omega)]; omega
        have hjl : (j : Int) < (L.length : Int) := by omega
        have hyx' : ¬ x ≤ y := by omega
        go_wp2
        go_roundg (L.length - (j + 1 + 1))
        case measure => omega
        case rel => exact ⟨j + 1 + 1, by omega, by omega, by go_num, _, rfl⟩
    · obtain rfl : i = L.length := by omega
      go_wp2
      go_ret
      exact ⟨rfl, below_drewN (Below.refl _ w) _⟩
end Go.Proofs.Ytfkmdojnkdoffaa

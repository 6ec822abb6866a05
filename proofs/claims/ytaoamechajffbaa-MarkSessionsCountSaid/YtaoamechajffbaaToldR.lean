/- told, concerns and within of the reference. -/
import Derived.Test.YtaoamechajffbaaCntL
namespace Go.Proofs.Ytaoamechajffbaa
open Go.RowKit

theorem within7_any (n lo hi : Int) (w : World) :
    Calls Try.prog 23 #[.int .i64 n, .int .i64 lo, .int .i64 hi] w fun e w' => e = .returned (.bool (!outB n lo hi)) ∧ w = w' := by
  by_cases h : lo ≤ n
  · go_enter Try.func23, Try.ntmps23
    go_wp2
    go_ret
    exact ⟨ret_bool (by rw [Bool.eq_iff_iff]; simp [outB]; omega), rfl⟩
  · have h' : decide (lo ≤ n) = false := decide_eq_false h
    go_enter Try.func23, Try.ntmps23
    go_wp2
    go_ret
    exact ⟨ret_bool (by rw [Bool.eq_iff_iff]; simp [outB]; omega), rfl⟩

set_option maxRecDepth 100000 in
theorem told_any (w : World) (G : List Ev) (v : Value) (s : ByteArray) (p k : Int) (hl : Sl w 4 encE v G) :
    Calls Try.prog 25 #[v, .string s, .int .i64 p, .int .i64 k] w fun e w' => e = .returned (.bool (toldL G s p k)) ∧ Below w.heap.size w w' := by
  obtain ⟨ao, cap, rfl, hcap, hmax, hnil, hel⟩ := hl
  unfold maxLen at hmax
  go_enter Try.func25, Try.ntmps25
  go_wp2
  go_loopg [9] G.length (fun gg s9 wr => ∃ kk : Nat, kk ≤ G.length ∧ G.length - kk ≤ gg ∧ s9 = .int .i64 kk ∧ Aside (Below w.heap.size w wr) ∧ Aside (∀ j x, G[j]? = some x → j < kk → isE s p k x = false))
  case atStart => exact ⟨0, Nat.zero_le _, by omega, rfl, Below.refl _ w, fun j x _ hj => absurd hj (Nat.not_lt_zero _)⟩
  case round =>
    obtain ⟨kk, hkk, hg, rfl, BW, A⟩ := hrel
    by_cases hlt : kk < G.length
    · have hltz : (kk : Int) < (G.length : Int) := by omega
      obtain ⟨x, hx⟩ : ∃ x, G[kk]? = some x := ⟨G[kk], by simp [hlt]⟩
      obtain ⟨b, off, rfl, hc⟩ := hel kk x hx
      have hlt0 := World.block_lt_of_cell? w _ (hc 0 _ rfl)
      have c0 : wr.cell? ⟨b, off + kk * 4, none⟩ = some (.string x.se) := by have h := (BW.out.cell (p := ⟨b, off + kk * 4 + 0, none⟩) hlt0).trans (hc 0 _ rfl); simpa using h
      have c1 := (BW.out.cell (p := ⟨b, off + kk * 4 + 1, none⟩) hlt0).trans (hc 1 _ rfl)
      have c2 := (BW.out.cell (p := ⟨b, off + kk * 4 + 2, none⟩) hlt0).trans (hc 2 _ rfl)
      have c3 := (BW.out.cell (p := ⟨b, off + kk * 4 + 3, none⟩) hlt0).trans (hc 3 _ rfl)
      have HX := Lib.hid hx
      have hszw := BW.out.size
      have HB := Lib.hid (BW.out.alloc hszw (.cells #[.string x.se, .int .i64 x.pl, .string x.ad, .int .i64 x.ki] 37))
      have HE : Hid (isE s p k x = ((x.se.toList == s.toList && (x.pl == p)) && (x.ki == k))) := Lib.hid rfl
      clear hx hc hel
      go_upto_region 5 with (fail)
      go_cut [36] (fun s36 w2 => s36 = .bool ((x.se.toList == s.toList && (x.pl == p)) && (x.ki == k)) ∧ w2 = wr.alloc (.cells #[.string x.se, .int .i64 x.pl, .string x.ad, .int .i64 x.ki] 37))
      case first =>
        cases h1 : x.se.toList == s.toList
        case false =>
          go_wp2
          go_meet
          exact ⟨by simp [*], rfl⟩
        cases h2 : x.pl == p
        case false =>
          go_wp2
          go_meet
          exact ⟨by simp [*], rfl⟩
        go_wp2
        go_meet
        exact ⟨by simp [*], rfl⟩
      obtain ⟨rfl, rfl⟩ := hcut
      generalize hO : ((x.se.toList == s.toList && (x.pl == p)) && (x.ki == k)) = O at HE ⊢
      clear hO
      cases O
      case true =>
        have hv : Hid (true = toldL G s p k) := Lib.hid (by
          unfold toldL
          exact (List.any_eq_true.2 ⟨x, List.mem_of_getElem? HX.out, HE.out⟩).symm)
        go_wp2
        go_ret
        exact ⟨ret_bool hv.out, HB.out⟩
      go_wp2
      go_roundg (G.length - (kk + 1))
      case measure => omega
      case rel =>
        refine ⟨kk + 1, by omega, by omega, by go_num, HB.out, (show Aside _ from fun j y hy hj => ?_)⟩
        by_cases e : j = kk
        · subst e
          have := HX.out.symm.trans hy
          simp at this; subst this; exact HE.out
        · exact A.out j y hy (by omega)
    · have hltz : ¬ (kk : Int) < (G.length : Int) := by omega
      have hv : Hid (false = toldL G s p k) := Lib.hid (by
        unfold toldL
        refine (List.any_eq_false.2 fun x hx => ?_).symm
        obtain ⟨j, hj⟩ := List.getElem?_of_mem hx
        rw [A.out j x hj (by have := (List.getElem?_eq_some_iff.1 hj).1; omega)]
        simp)
      clear hel
      go_wp2
      go_ret
      exact ⟨ret_bool hv.out, BW.out⟩
end Go.Proofs.Ytaoamechajffbaa

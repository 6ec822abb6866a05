/- next of the reference. -/
import Derived.Test.YtfkmdojnkdoffaaBstF
import Derived.Test.YtfkmdojnkdoffaaOnl
namespace Go.Proofs.Ytfkmdojnkdoffaa
open Go.RowKit

def NextP (w : World) (base g : Nat) (v : Value) (n : Nat) (C : List Int) : Ending → World → Prop := fun e w' =>
  ∃ b : Bool, e = .returned (.bool b) ∧ Onl g w w' ∧ (b = false → (∀ (j : Nat) (c : Int), C[j]? = some c → c = (n : Int) - C.length + j)) ∧ (b = true → ∃ C', Nxt n C C' ∧ Own w' base 3 1 encI v C')

set_option maxRecDepth 100000 in
set_option maxHeartbeats 4000000 in
theorem nextR_any (n : Nat) (C : List Int) (w : World) (base g cap : Nat) (ho : Own w base 3 1 encI (.slice (some ⟨g, 0, none⟩) C.length cap) C) (hne : C ≠ []) (hn : n ≤ 1000) (hp : C.Pairwise (· < ·)) (hr : ∀ k, k ∈ C → 0 ≤ k ∧ k < (n : Int)) :
    Calls Try.prog 27 #[.slice (some ⟨g, 0, none⟩) C.length cap, .int .i64 n] w (NextP w base g (.slice (some ⟨g, 0, none⟩) C.length cap) n C) := by
  have HHI := Lib.hid (fun j x h => inc_hi (n := (n : Int)) hp (fun k hk => (hr k hk).2) j x h)
  have HRG := Lib.hid hr
  have HO := Lib.hid ho
  obtain ⟨gX, capX, he, hgb, hgl, hgc, hgm, hgcell, hgf⟩ := Own.getk encI_len ho hne
  simp only [Value.slice.injEq, Option.some.injEq, Addr.mk.injEq, and_true, true_and] at he
  obtain ⟨rfl, rfl⟩ := he
  unfold maxLen at hgm
  have HCELL := Lib.hid hgcell
  have HFZ := Lib.hid hgf
  have hkn : C.length ≤ n := by
    have := inc_len C 0 n hp (fun k hk => hr k hk) (by omega)
    omega
  clear ho hp hr hgcell hgf
  go_enter Try.func27, Try.ntmps27
  go_wp2
  go_loopg [5] C.length (fun gg s5 wr => ∃ (r : Nat) (z : Int), r ≤ C.length ∧ r ≤ gg ∧ s5 = .int .i64 z ∧ -1 ≤ z ∧ z ≤ 1000 ∧ Aside (z = (r : Int) - 1) ∧ Aside (∀ (j : Nat) (c : Int), r ≤ j → C[j]? = some c → c = (n : Int) - C.length + j) ∧ w = wr)
  case atStart => exact ⟨C.length, (C.length : Int) - 1, Nat.le_refl _, by omega, by go_num, by omega, by omega, (show _ = _ from rfl), (show ∀ (j : Nat) (c : Int), _ from fun j c h1 h2 => by have := (List.getElem?_eq_some_iff.1 h2).1; omega), rfl⟩
  obtain ⟨r, z, hrC, hg, rfl, hz1, hz2, HZ, HLA, rfl⟩ := hrel
  have hz := HZ.out
  have HLA := Lib.hid HLA.out
  clear HZ
  cases r with
  | zero =>
    obtain rfl : z = -1 := by omega
    clear hz
    go_wp2
    go_ret
    exact ⟨false, rfl, Onl.refl _ _, fun _ j c h => HLA.out j c (Nat.zero_le _) h, fun h => by cases h⟩
  | succ q =>
    obtain rfl : z = (q : Int) := by omega
    have hqC : q < C.length := by omega
    have hqz : (q : Int) < (C.length : Int) := by omega
    obtain ⟨c, hc⟩ : ∃ c, C[q]? = some c := ⟨C[q], by simp [hqC]⟩
    have hcr := HRG.out c (List.mem_of_getElem? hc)
    have hch := HHI.out q c hc
    have c0 : w.cell? ⟨g, q, none⟩ = some (.int .i64 c) := by have := HCELL.out q c 0 _ hc rfl; simpa using this
    have f0 := HFZ.out q
    have HC := Lib.hid hc
    clear hz hc
    by_cases hlt : c < (n : Int) - (C.length : Int) + (q : Int)
    · have HO1 : Hid (Own (w.setCell ⟨g, q, none⟩ (.int .i64 (c + 1))) base 3 1 encI (.slice (some ⟨g, 0, none⟩) C.length cap) (C.set q (c + 1))) := Lib.hid (by
        have hs := Own.store (i := q) (j := 0) (x := c) (y := c + 1) (u := .int .i64 (c + 1)) encI_len HO.out rfl HC.out (by omega) rfl
        have e1 : q * 1 + 0 = q := by omega
        rw [e1] at hs
        exact hs)
      have HN1 := Lib.hid (NP.start HC.out)
      have HX1 := Lib.hid (Onl.set g w q (.int .i64 (c + 1)))
      have HLA2 : Hid (∀ (j : Nat) (x : Int), q < j → C[j]? = some x → x = (n : Int) - C.length + j) := Lib.hid (fun j x h1 h2 => HLA.out j x h1 h2)
      clear HLA HCELL HFZ
      obtain ⟨w1, hw1⟩ : ∃ w1, w1 = w.setCell ⟨g, q, none⟩ (.int .i64 (c + 1)) := ⟨_, rfl⟩
      rw [← hw1] at HO1 HX1
      have HW1 := Lib.hid hw1
      clear hw1
      go_upto_region 6 with (fail)
      rw [← HW1.out]
      clear c0 f0
      go_wp2
      go_loopg [6] C.length (fun gg s6 wq => ∃ (m : Nat) (M : List Int), q < m ∧ m ≤ C.length ∧ C.length - m ≤ gg ∧ s6 = .int .i64 m ∧ Aside (NP C q m M) ∧ Aside (Own wq base 3 1 encI (.slice (some ⟨g, 0, none⟩) C.length cap) M) ∧ Aside (Onl g w wq))
      case atStart => exact ⟨q + 1, _, by omega, by omega, by omega, by go_num, HN1.out, HO1.out, HX1.out⟩
      obtain ⟨m, M, hqm, hmC, hgm2, rfl, HNP, HOM, HXM⟩ := hrel
      have HNP := Lib.hid HNP.out
      have HOM := Lib.hid HOM.out
      have HXM := Lib.hid HXM.out
      have hML := HNP.out.1
      by_cases hmlt : m < C.length
      · have hmz : (m : Int) < (C.length : Int) := by omega
        obtain ⟨e1, e2⟩ := HNP.out.next HC.out hqm hmlt
        have hMne : M ≠ [] := fun e => by rw [e] at hML; simp at hML; omega
        obtain ⟨g2, cap2, he2, _, hg2l, _, _, hcell2, hf2⟩ := Own.getk encI_len HOM.out hMne
        simp only [Value.slice.injEq, Option.some.injEq, Addr.mk.injEq, and_true] at he2
        obtain ⟨rfl, _, rfl⟩ := he2
        obtain ⟨d, hd⟩ : ∃ d, d = c + 1 + ((m : Int) - 1 - q) := ⟨_, rfl⟩
        rw [← hd] at e1
        have d0 : wr.cell? ⟨g, m - 1, none⟩ = some (.int .i64 d) := by have := hcell2 (m - 1) d 0 _ e1 rfl; simpa using this
        have f1 := hf2 m
        obtain ⟨x, hx⟩ : ∃ x, M[m]? = some x := ⟨M[m]'(by omega), by simp⟩
        have d1 : wr.cell? ⟨g, m, none⟩ = some (.int .i64 x) := by have := hcell2 m x 0 _ hx rfl; simpa using this
        have hm1 : ((m : Int) - 1).toNat = m - 1 := by omega
        have hm2 : (0 : Int) ≤ (m : Int) - 1 := by omega
        have hm3 : (m : Int) - 1 < (C.length : Int) := by omega
        have hm4 : (1 : Int) ≤ (m : Int) := by omega
        have hdb : 0 ≤ d ∧ d ≤ 5000 := by omega
        have HO2 : Hid (Own (wr.setCell ⟨g, m, none⟩ (.int .i64 (d + 1))) base 3 1 encI (.slice (some ⟨g, 0, none⟩) C.length cap) (M.set m (d + 1))) := Lib.hid (by
          have hs := Own.store (i := m) (j := 0) (x := x) (y := d + 1) (u := .int .i64 (d + 1)) encI_len HOM.out hML.symm hx (by omega) rfl
          have e1 : m * 1 + 0 = m := by omega
          rw [e1] at hs
          exact hs)
        have HN2 : Hid (NP C q (m + 1) (M.set m (d + 1))) := Lib.hid (by
          have e : d + 1 = c + 1 + ((m : Int) - q) := by omega
          rw [e]
          exact e2)
        have HX2 := Lib.hid (HXM.out.trans (Onl.set g wr m (.int .i64 (d + 1))))
        clear e1 e2 hcell2 hf2 hd hx hML hMne
        go_wp2
        go_roundg (C.length - (m + 1))
        case measure => omega
        case rel => exact ⟨m + 1, _, by omega, by omega, by omega, by go_num, HN2.out, HO2.out, HX2.out⟩
      · obtain rfl : m = C.length := by omega
        have hmz : ¬ (C.length : Int) < (C.length : Int) := by omega
        go_wp2
        go_ret
        exact ⟨true, rfl, HXM.out, (fun h => by cases h), fun _ => ⟨M, ⟨q, c, HC.out, hlt, HLA2.out, HNP.out⟩, HOM.out⟩⟩
    · have HLN : Hid (∀ (j : Nat) (x : Int), q ≤ j → C[j]? = some x → x = (n : Int) - C.length + j) := Lib.hid (fun j x h1 h2 => by
        rcases Nat.lt_or_ge q j with h | h
        · exact HLA.out j x h h2
        · obtain rfl : j = q := by omega
          rw [HC.out] at h2
          simp only [Option.some.injEq] at h2
          omega)
      go_wp2
      go_roundg q
      case measure => omega
      case rel => exact ⟨q, (q : Int) - 1, by omega, by omega, by go_num, by omega, by omega, (show _ = _ from rfl), HLN.out, rfl⟩
end Go.Proofs.Ytfkmdojnkdoffaa

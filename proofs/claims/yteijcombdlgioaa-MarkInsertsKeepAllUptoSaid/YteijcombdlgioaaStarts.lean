/- starts and begins: where parts begin. -/
import Derived.Test.YteijcombdlgioaaCp
import Derived.Test.YteijcombdlgioaaStep
namespace Go.Proofs.Yteijcombdlgioaa
open Go.RowKit

def encI (n : Int) : List Value := [.int .i64 n]
theorem encI_len (n : Int) : (encI n).length = 1 := rfl
theorem infoI : (Try.prog.info? 3).map (fun i => (i.zero, i.size, i.bytes)) = some (some (.int .i64 0), 1, 8) := by kernel_rfl
theorem slI : SlT Try.prog 38 3 1 8 := by
  obtain ⟨i0, hi, hz0, hz1, hz2⟩ := info_parts infoI
  exact ⟨i0, _, Try.underlying38, hi, hz0, hz1, hz2, rfl, by decide, by decide⟩

/-- Where the parts begin, and the end. -/
def startsL (l : List Prt) : Nat → List Int
  | 0 => [0]
  | k + 1 => startsL l k ++ [sumL (l.take (k + 1))]
theorem startsL_len (l : List Prt) : ∀ k, (startsL l k).length = k + 1
  | 0 => rfl
  | k + 1 => by simp [startsL, startsL_len l k]
theorem startsL_get (l : List Prt) : ∀ k i, i ≤ k → (startsL l k)[i]? = some (sumL (l.take i))
  | 0, i, h => by
    obtain rfl : i = 0 := by omega
    simp [startsL, sumL]
  | k + 1, i, h => by
    unfold startsL
    by_cases e : i = k + 1
    · subst e
      rw [List.getElem?_append_right (by rw [startsL_len]; exact Nat.le_refl _), startsL_len]
      simp
    · rw [List.getElem?_append_left (by rw [startsL_len]; omega)]
      exact startsL_get l k i (by omega)

theorem sumL_bd {l : List Prt} (h : ∀ p, p ∈ l → 1 ≤ p.ln ∧ p.ln ≤ 1000000000000000) : (0 ≤ sumL l ∧ sumL l ≤ l.length * 1000000000000000) := by
  induction l with
  | nil => simp [sumL]
  | cons p r ih =>
    have h1 := h p (by simp)
    have h2 := ih (fun q hq => h q (by simp [hq]))
    simp only [sumL, List.length_cons]
    omega

theorem Own.get {α : Type} {w : World} {base : Nat} {E : TypeId} {enc : α → List Value} {v : Value} {l : List α} (hk : ∀ x, (enc x).length = 1) (h : Own w base E 1 enc v l) (hne : l ≠ []) :
    ∃ g cap, v = .slice (some ⟨g, 0, none⟩) l.length cap ∧ base ≤ g ∧ g < w.heap.size ∧ l.length ≤ cap ∧ ∀ i x u, l[i]? = some x → enc x = [u] → w.cell? ⟨g, i, none⟩ = some u := by
  have h0 := h
  obtain ⟨h1, h2⟩ := h
  rcases h2 with ⟨_, h2⟩ | ⟨g, cap, cur, rfl, hg, hh, hn, hm, hs, ht⟩
  · exact absurd (List.length_eq_zero_iff.1 h2) hne
  · refine ⟨g, cap, rfl, hg, (World.ownsRow.lt h0 g rfl).2, hn, fun i x u hx hu => ?_⟩
    have hi : i < l.length := (List.getElem?_eq_some_iff.1 hx).1
    have h3 := World.ownsRow.cellAt h0 i (by omega)
    rw [h3]
    have := flatMap_get hk l i 0 x hx (by omega)
    simp only [Nat.mul_one, Nat.add_zero] at this
    rw [this, hu]
    rfl

set_option maxRecDepth 100000 in
set_option maxHeartbeats 1000000 in
theorem starts_any (w : World) (l : List Prt) (v : Value) (hl : Sl w 3 encP v l) (hlen : l.length ≤ 1000) (hbd : ∀ p, p ∈ l → 1 ≤ p.ln ∧ p.ln ≤ 1000000000000000) :
    Calls Try.prog 33 #[v] w (OwnRet w 3 1 encI (startsL l l.length)) := by
  obtain ⟨ao, cap, rfl, hcap, hmax, hnil, hel⟩ := hl
  unfold maxLen at hmax
  have hst : Own (w.alloc (.cells #[.int .i64 0] 3)) w.heap.size 3 1 encI (.slice (some ⟨w.heap.size, 0, none⟩) 1 1) (startsL l 0) := World.ownsRow_lit w #[.int .i64 0] 1 (Nat.le_refl _) (by simp [maxLen]) rfl
  have HST := Lib.hid hst
  clear hst
  go_enter Try.func33, Try.ntmps33
  go_wp2
  go_loopg [3, 9] l.length (fun gg s3 s9 wr => ∃ kk : Nat, kk ≤ l.length ∧ l.length - kk ≤ gg ∧ s9 = .int .i64 kk ∧ Aside (Below w.heap.size w wr) ∧ Aside (Own wr w.heap.size 3 1 encI s3 (startsL l kk)))
  case atStart => exact ⟨0, Nat.zero_le _, by omega, rfl, (Below.refl _ _).alloc (Nat.le_refl _) _, HST.out⟩
  case round =>
    clear HST
    obtain ⟨kk, hkk, hg, rfl, BW, OW⟩ := hrel
    by_cases hlt : kk < l.length
    · have hltz : (kk : Int) < (l.length : Int) := by omega
      obtain ⟨p, hx⟩ : ∃ x, l[kk]? = some x := ⟨l[kk], by simp [hlt]⟩
      obtain ⟨b, off, rfl, hc⟩ := hel kk p hx
      have hlt0 := World.block_lt_of_cell? w _ (hc 0 _ rfl)
      have c0 := (BW.out.cell (p := ⟨b, off + kk * 3, none⟩) hlt0).trans (hc 0 _ rfl)
      have c1 := (BW.out.cell (p := ⟨b, off + kk * 3 + 1, none⟩) hlt0).trans (hc 1 _ rfl)
      have c2 := (BW.out.cell (p := ⟨b, off + kk * 3 + 2, none⟩) hlt0).trans (hc 2 _ rfl)
      obtain ⟨g, cg, rfl, hg1, hg2, hg3, hgc⟩ := Own.get encI_len OW.out (by intro e; have := startsL_len l kk; rw [e] at this; simp at this)
      have g0 := hgc kk _ _ (startsL_get l kk kk (Nat.le_refl _)) rfl
      have hp := hbd p (List.mem_of_getElem? hx)
      have hs := sumL_bd (l := l.take kk) (fun q hq => hbd q (List.mem_of_mem_take hq))
      have hs' : ((l.take kk).length : Int) ≤ 1000 := by simp; omega
      have hln : Hid (sumL (l.take (kk + 1)) = sumL (l.take kk) + p.ln) := Lib.hid (sumL_take hx)
      obtain ⟨S, hS⟩ : ∃ S, S = sumL (l.take kk) := ⟨_, rfl⟩
      rw [← hS] at g0 hs hln
      have HS := Lib.hid hS
      obtain ⟨hp0, hp1⟩ := hp
      obtain ⟨hs0, hs1⟩ := hs
      have hs2 : S ≤ 1000000000000000000 := by omega
      have hlenk := startsL_len l kk
      have OW2 := OW.out
      rw [hlenk] at OW2 ⊢
      have HOW := Lib.hid OW2
      have HL := Lib.hid hlenk
      clear OW2 OW
      have hki : (kk : Int) < (kk : Int) + 1 := by omega
      have hszw := BW.out.size
      have hne : Hid (startsL l (kk + 1) = startsL l kk ++ [S + p.ln]) := Lib.hid (by rw [startsL, hln.out])
      clear hS hx hc hel hgc hs1 hs' hlenk
      go_upto_region 5 with (fail)
      have hwrap : IntKind.i64.wrap (S + p.ln) = S + p.ln := IntWalk.i64_in _ (by omega)
      go_region_law (refine step_push rfl _ _ 38 rfl slI rfl rfl (S + p.ln) rfl rfl rfl (HOW.out.al _) (by simp) (by rw [HL.out]; omega) (by simp; omega) ?_; intro v1 w1 ho1 hb1; rw [← hne.out] at ho1; have HO := Lib.hid ho1; have HB := Lib.hid ((BW.out.alloc hszw _).trans hb1); clear ho1 hb1)
      all_goals
        clear hwrap
        go_wp2
        go_roundg (l.length - (kk + 1))
        case measure => omega
        case rel => exact ⟨kk + 1, by omega, by omega, by go_num, HB.out, HO.out⟩
    · obtain rfl : kk = l.length := by omega
      clear hel
      go_wp2
      go_ret
      exact OwnRet.mk OW.out BW.out
end Go.Proofs.Yteijcombdlgioaa

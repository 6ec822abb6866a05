/- checkAd of the reference. -/
import Derived.Test.YtaajjngfmaiicaaAdsD
import Derived.Test.YtaajjngfmaiicaaWin7
namespace Go.Proofs.Ytaajjngfmaiicaa
open Go.RowKit

set_option maxRecDepth 100000 in
set_option maxHeartbeats 4000000 in
theorem checkAd_any (w : World) (l : List Adv) (v : Value) (k : Nat) (hk : k < l.length) (hl : Sl w 4 encA v l) (hw : ∀ x, x ∈ l → WfA x) :
    Calls Try.prog 13 #[v, .int .i64 k] w fun e w' => e = .returned (.int .i64 (afAt l k)) ∧ Below w.heap.size w w' := by
  obtain ⟨ao, cap, rfl, hcap, hmax, hnil, hel⟩ := hl
  unfold maxLen at hmax
  have hkz : (k : Int) < (l.length : Int) := by omega
  obtain ⟨x, hx⟩ : ∃ x, l[k]? = some x := ⟨l[k], by simp [hk]⟩
  obtain ⟨b, off, hao, hc⟩ := hel k x hx
  subst hao
  have hlt0 := World.block_lt_of_cell? w ⟨b, off + k * 4 + 0, none⟩ (hc 0 _ rfl)
  have c0 : w.cell? ⟨b, off + k * 4, none⟩ = some (.string x.na) := hc 0 _ rfl
  have c1 : w.cell? ⟨b, off + k * 4 + 1, none⟩ = _ := hc 1 _ rfl
  have c2 : w.cell? ⟨b, off + k * 4 + 2, none⟩ = _ := hc 2 _ rfl
  have c3 : w.cell? ⟨b, off + k * 4 + 3, none⟩ = _ := hc 3 _ rfl
  have hsz : x.na.size ≤ 9223372036854775807 := (hw x (List.mem_of_getElem? hx)).1
  have hsz2 : x.ri.size ≤ 9223372036854775807 := (hw x (List.mem_of_getElem? hx)).2
  obtain ⟨tw, htw⟩ : ∃ tw, tw = (l.take k).any fun o => sameA o x := ⟨_, rfl⟩
  have hat : Hid (afAt l k = afOf x tw) := Lib.hid (by rw [afAt, getD_of hx, htw])
  have hC : Hid (afOf x tw = if nmA x = false then 5 else if tw = true then 7 else if outA x = true then 1 else 0) := Lib.hid rfl
  have hN : Hid (nmA x = (nameB x.na && (x.ri.toList.isEmpty || nameB x.ri))) := Lib.hid rfl
  have hO : Hid (outA x = (outB x.ln 1 1000000000000000 || outB x.va 0 1000000000)) := Lib.hid rfl
  have HTW := Lib.hid htw
  have HEL := Lib.hid hel
  generalize afAt l k = F at hat ⊢
  have HX0 := Lib.hid (block_new w (.cells #[.string x.na, .int .i64 x.ln, .int .i64 x.va, .string x.ri] 29))
  have HB0 := Lib.hid ((Below.refl w.heap.size w).alloc (Nat.le_refl _) (.cells #[.string x.na, .int .i64 x.ln, .int .i64 x.va, .string x.ri] 29))
  clear hx hc hel hw htw
  go_enter Try.func13, Try.ntmps13
  go_upto_region 2 with (fail)
  go_cut [25] (fun s25 w4 => s25 = .bool (!nmA x) ∧ w4 = w.alloc (.cells #[.string x.na, .int .i64 x.ln, .int .i64 x.va, .string x.ri] 29))
  case first =>
    cases e1 : nameB x.na
    case false =>
      have hv : Hid (nmA x = false) := Lib.hid (by rw [hN.out, e1]; rfl)
      go_wp2_with (go_at_call 24; refine (isNameR_any _ _ (by assumption)).mono ?_; rintro e w' ⟨rfl, rfl⟩)
      go_meet
      exact ⟨by rw [hv.out]; rfl, rfl⟩
    cases e2 : x.ri.toList.isEmpty
    case true =>
      have hv : Hid (nmA x = true) := Lib.hid (by rw [hN.out, e1, e2]; rfl)
      have e2' : x.ri.toList = [] := by simpa using e2
      go_wp2_with (go_at_call 24; refine (isNameR_any _ _ (by assumption)).mono ?_; rintro e w' ⟨rfl, rfl⟩)
      go_meet
      exact ⟨by rw [hv.out]; rfl, rfl⟩
    have e2' : ¬ x.ri.toList = [] := by simpa using e2
    cases e3 : nameB x.ri
    all_goals
      have hv := Lib.hid (hN.out.trans (by rw [e1, e2, e3]; rfl : _ = nameB x.ri))
      go_wp2_with (go_at_call 24; refine (isNameR_any _ _ (by assumption)).mono ?_; rintro e w' ⟨rfl, rfl⟩)
      go_meet
      exact ⟨by rw [hv.out, e3]; rfl, rfl⟩
  obtain ⟨rfl, hW4⟩ := hcut
  generalize nmA x = nm at hC
  clear hN
  cases nm
  case false =>
    have hv : Hid (5 = F) := Lib.hid (by rw [hat.out, hC.out]; rfl)
    have hb : Hid (Below w.heap.size w wc) := Lib.hid (by rw [hW4]; exact HB0.out)
    clear hW4
    go_wp2
    go_ret
    exact ⟨ret_int hv.out, hb.out⟩
  have hC2 : Hid (afOf x tw = if tw = true then 7 else if outA x = true then 1 else 0) := Lib.hid (by rw [hC.out]; rfl)
  clear hC
  have HK4 : Hid (wc.heap[w.heap.size]? = some (.cells #[.string x.na, .int .i64 x.ln, .int .i64 x.va, .string x.ri] 29)) := Lib.hid (by rw [hW4]; exact HX0.out)
  have HB4 : Hid (Below w.heap.size w wc) := Lib.hid (by rw [hW4]; exact HB0.out)
  have x0 := (cell_of_block (i := 0) HK4.out).trans rfl
  have x1 := (cell_of_block (i := 1) HK4.out).trans rfl
  have x2 := (cell_of_block (i := 2) HK4.out).trans rfl
  have hlx : w.heap.size < wc.heap.size := by rw [hW4]; simp
  have hlb : b < wc.heap.size := by have : b < w.heap.size := hlt0; omega
  clear hW4 c0 c1 c2 c3
  go_wp2
  go_loopg [6] k (fun gg s6 wr => ∃ m : Nat, m ≤ k ∧ k - m ≤ gg ∧ s6 = .int .i64 m ∧ (∃ n, wr = wc.drewN n) ∧ Aside (∀ j y, l[j]? = some y → j < m → sameA y x = false))
  case atStart => exact ⟨0, by omega, by omega, rfl, ⟨0, rfl⟩, fun j y _ hj => absurd hj (Nat.not_lt_zero _)⟩
  case round =>
    obtain ⟨m, hm, hgm, rfl, ⟨nn, rfl⟩, NI⟩ := hrel
    by_cases hmk : m < k
    · have hmz : (m : Int) < (k : Int) := by omega
      have hmz2 : (m : Int) < (l.length : Int) := by omega
      obtain ⟨y, hy⟩ : ∃ z, l[m]? = some z := ⟨l[m]'(by omega), by simp⟩
      obtain ⟨b', off', hao', hc'⟩ := HEL.out m y hy
      simp only [Option.some.injEq, Addr.mk.injEq, and_true] at hao'
      obtain ⟨rfl, rfl⟩ := hao'
      have c0 : wc.cell? ⟨b, off + m * 4, none⟩ = some (.string y.na) := (HB4.out.cell (p := ⟨b, off + m * 4 + 0, none⟩) hlt0).trans (hc' 0 _ rfl)
      have HY := Lib.hid hy
      have hsy : Hid (sameA y x = (y.na.toList == x.na.toList)) := Lib.hid rfl
      clear hy hc'
      cases e5 : (y.na.toList == x.na.toList)
      case true =>
        have htt : Hid (tw = true) := Lib.hid (by
          rw [HTW.out]
          exact List.any_eq_true.2 ⟨y, List.mem_of_getElem? (by rw [List.getElem?_take, if_pos hmk]; exact HY.out), by rw [hsy.out, e5]⟩)
        have hv : Hid (7 = F) := Lib.hid (by rw [hat.out, hC2.out, if_pos htt.out])
        go_wp2
        go_quiet (fail)
        go_wp2
        go_ret
        exact ⟨ret_int hv.out, below_drewN (below_drewN HB4.out _) _⟩
      case false =>
        go_wp2
        go_quiet (fail)
        go_wp2
        go_roundg (k - (m + 1))
        case measure => omega
        case rel =>
          refine ⟨m + 1, by omega, by omega, by go_num, ⟨_, rfl⟩, (show Aside (∀ j y, l[j]? = some y → j < m + 1 → sameA y x = false) from fun j z hz hj => ?_)⟩
          by_cases e : j = m
          · subst e
            have := HY.out.symm.trans hz
            simp only [Option.some.injEq] at this
            subst this
            rw [hsy.out, e5]
          · exact NI.out j z hz (by omega)
    · have hmz : ¬ (m : Int) < (k : Int) := by omega
      have hft : Hid (tw = false) := Lib.hid (by
        rw [HTW.out, List.any_eq_false]
        intro y hy
        obtain ⟨j, hj, rfl⟩ := List.mem_iff_getElem.1 hy
        rw [List.length_take] at hj
        rw [NI.out j _ (by rw [List.getElem_take]; exact List.getElem?_eq_getElem (by omega)) (by omega)]
        simp)
      have hC3 : Hid (afOf x tw = if outA x = true then 1 else 0) := Lib.hid (by rw [hC2.out, if_neg (by rw [hft.out]; simp)])
      cases o1 : outB x.ln 1 1000000000000000
      case true =>
        have hv : Hid (1 = F) := Lib.hid (by rw [hat.out, hC3.out, hO.out, o1]; rfl)
        go_wp2_with (go_at_call 14; refine (within_any _ _ _ _).mono ?_; rintro e w' ⟨rfl, rfl⟩)
        go_ret
        exact ⟨ret_int hv.out, below_drewN HB4.out _⟩
      cases o2 : outB x.va 0 1000000000
      case true =>
        have hv : Hid (1 = F) := Lib.hid (by rw [hat.out, hC3.out, hO.out, o1, o2]; rfl)
        go_wp2_with (go_at_call 14; refine (within_any _ _ _ _).mono ?_; rintro e w' ⟨rfl, rfl⟩)
        go_ret
        exact ⟨ret_int hv.out, below_drewN HB4.out _⟩
      case false =>
        have hv : Hid (0 = F) := Lib.hid (by rw [hat.out, hC3.out, hO.out, o1, o2]; rfl)
        go_wp2_with (go_at_call 14; refine (within_any _ _ _ _).mono ?_; rintro e w' ⟨rfl, rfl⟩)
        go_ret
        exact ⟨ret_int hv.out, below_drewN HB4.out _⟩
end Go.Proofs.Ytaajjngfmaiicaa

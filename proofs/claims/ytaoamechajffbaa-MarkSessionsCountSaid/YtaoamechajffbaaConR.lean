/- concerns of the reference. -/
import Derived.Test.YtaoamechajffbaaToldR
import Derived.Deep.QuietTactic
namespace Go.Proofs.Ytaoamechajffbaa
open Go.RowKit

set_option maxRecDepth 100000 in
theorem conc_any (w : World) (l : List Prt) (v : Value) (e : Ev) (hl : Sl w 3 encP v l) :
    Calls Try.prog 24 #[v, .agg #[.string e.se, .int .i64 e.pl, .string e.ad, .int .i64 e.ki]] w fun r w' => r = .returned (.bool (conc l e)) ∧ Below w.heap.size w w' := by
  obtain ⟨ao, cap, rfl, hcap, hmax, hnil, hel⟩ := hl
  unfold maxLen at hmax
  have BB := Lib.hid ((Below.refl w.heap.size w).alloc (Nat.le_refl _) (.cells #[.string e.se, .int .i64 e.pl, .string e.ad, .int .i64 e.ki] 37))
  have HC : Hid (conc l e = (((decide (0 ≤ e.pl) && decide (e.pl < (l.length : Int))) && !noAd (ptAt l e.pl)) && ((ptAt l e.pl).ad.toList == e.ad.toList))) := Lib.hid rfl
  have hund : undef = Value.tuple #[] := rfl
  cases h1 : decide (0 ≤ e.pl)
  case false =>
    have h1' : ¬ (0 : Int) ≤ e.pl := of_decide_eq_false h1
    have hv : Hid (false = conc l e) := Lib.hid (by rw [HC.out, h1]; rfl)
    clear hel
    go_enter Try.func24, Try.ntmps24
    go_upto_region 1 with (fail)
    go_quiet (fail)
    go_wp2
    go_ret
    exact ⟨ret_bool hv.out, below_drewN BB.out _⟩
  have h1' : (0 : Int) ≤ e.pl := of_decide_eq_true h1
  cases h2 : decide (e.pl < (l.length : Int))
  case false =>
    have h2' : ¬ e.pl < (l.length : Int) := of_decide_eq_false h2
    have hv : Hid (false = conc l e) := Lib.hid (by rw [HC.out, h1, h2]; rfl)
    clear hel
    go_enter Try.func24, Try.ntmps24
    go_upto_region 1 with (fail)
    go_quiet (fail)
    go_wp2
    go_ret
    exact ⟨ret_bool hv.out, below_drewN BB.out _⟩
  have h2' : e.pl < (l.length : Int) := of_decide_eq_true h2
  obtain ⟨m, hm⟩ : ∃ m : Nat, e.pl = m := ⟨e.pl.toNat, by omega⟩
  obtain ⟨p, hx⟩ : ∃ x, l[m]? = some x := ⟨l[m]'(by omega), by simp⟩
  obtain ⟨b, off, rfl, hc⟩ := hel m p hx
  have hlt0 := World.block_lt_of_cell? w _ (hc 0 _ rfl)
  have c0 : (w.alloc (.cells #[.string e.se, .int .i64 e.pl, .string e.ad, .int .i64 e.ki] 37)).cell? ⟨b, off + m * 3, none⟩ = some (.string p.ad) := by
    have h := (BB.out.cell (p := ⟨b, off + m * 3 + 0, none⟩) hlt0).trans (hc 0 _ rfl)
    simpa using h
  have hpt : ptAt l e.pl = p := by
    unfold ptAt
    rw [hm, List.getD_eq_getElem?_getD]
    simp [hx]
  have HC2 : Hid (conc l e = (!p.ad.toList.isEmpty && (p.ad.toList == e.ad.toList))) := Lib.hid (by rw [HC.out, h1, h2, hpt]; rfl)
  have hml : m < l.length := by omega
  have hmt : e.pl.toNat = m := by omega
  clear hc hel hpt HC h1 h2 hx
  obtain ⟨es, ep, ea, ek⟩ := e
  simp only at *
  subst hm
  cases h3 : p.ad.toList.isEmpty
  all_goals
    cases h4 : p.ad.toList == ea.toList
    all_goals
      have hv := Lib.hid HC2.out.symm
      go_enter Try.func24, Try.ntmps24
      go_upto_region 1 with (fail)
      go_quiet (fail)
      go_wp2
      go_ret
      exact ⟨ret_bool (by rw [← hv.out]; simp [*]), below_drewN BB.out _⟩
end Go.Proofs.Ytaoamechajffbaa

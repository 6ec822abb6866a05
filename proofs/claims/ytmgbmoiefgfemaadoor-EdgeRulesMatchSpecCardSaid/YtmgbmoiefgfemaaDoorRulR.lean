/- ruleOf of the reference. -/
import Derived.Test.YtmgbmoiefgfemaaDoorRulE
namespace Go.Proofs.YtmgbmoiefgfemaaDoor
open Go.RowKit

/-- A number of an element; -1: none. -/
def numO : Option Nat → Int
  | none => -1
  | some j => j

set_option maxRecDepth 100000 in
set_option maxHeartbeats 4000000 in
theorem ruleOfR_any (w : World) (l : List Crl) (v : Value) (k : ByteArray) (hl : Sl w 4 encU v l) :
    Calls Tryd.prog 39 #[v, .string k] w fun e w' => e = .returned (.int .i64 (numO (ruI l k l.length))) ∧ Below w.heap.size w w' := by
  obtain ⟨ao, cap, rfl, hcap, hmax, hnil, hel⟩ := hl
  unfold maxLen at hmax
  have HEL := Lib.hid hel
  clear hel
  obtain ⟨Y, hY⟩ : ∃ Y, Y = numO (ruI l k l.length) := ⟨_, rfl⟩
  rw [← hY]
  have HY := Lib.hid hY
  clear hY
  go_enter Tryd.func39, Tryd.ntmps39
  go_wp2
  go_loopg [5, 6, 7, 10] l.length (fun gg s5 _ _ s10 wr => ∃ kk : Nat, kk ≤ l.length ∧ l.length - kk ≤ gg ∧ s10 = .int .i64 kk ∧ s5 = .int .i64 (numO (ruI l k kk)) ∧ Aside (Below w.heap.size w wr))
  case atStart => exact ⟨0, Nat.zero_le _, by omega, by go_num, rfl, Below.refl _ _⟩
  case round =>
    obtain ⟨kk, hkk, hg, rfl, rfl, BW⟩ := hrel
    have BW := Lib.hid BW.out
    by_cases hlt : kk < l.length
    · have hltz : (kk : Int) < (l.length : Int) := by omega
      obtain ⟨x, hx⟩ : ∃ x, l[kk]? = some x := ⟨l[kk], by simp [hlt]⟩
      obtain ⟨b, off, rfl, hc⟩ := HEL.out kk x hx
      have hlt0 := World.block_lt_of_cell? w ⟨b, off + kk * 4 + 0, none⟩ (hc 0 _ rfl)
      have BL := BW.out
      have hszw := BL.size
      have hbw : b < wr.heap.size := Nat.lt_of_lt_of_le hlt0 hszw
      have c0 : wr.cell? ⟨b, off + kk * 4, none⟩ = some (.string x.pr) := (BL.cell (p := ⟨b, off + kk * 4 + 0, none⟩) hlt0).trans (hc 0 _ rfl)
      have c1 : wr.cell? ⟨b, off + kk * 4 + 1, none⟩ = some (.int .i64 x.li) := (BL.cell (p := ⟨b, off + kk * 4 + 1, none⟩) hlt0).trans (hc 1 _ rfl)
      have c2 : wr.cell? ⟨b, off + kk * 4 + 2, none⟩ = some (.int .i64 x.st) := (BL.cell (p := ⟨b, off + kk * 4 + 2, none⟩) hlt0).trans (hc 2 _ rfl)
      have c3 : wr.cell? ⟨b, off + kk * 4 + 3, none⟩ = some (.int .i64 x.go) := (BL.cell (p := ⟨b, off + kk * 4 + 3, none⟩) hlt0).trans (hc 3 _ rfl)
      have HNI := Lib.hid (ruI_next (k := k) hx)
      have HT1 := Lib.hid (fun h => @ruT_hp l k kk x h)
      have HT2 := Lib.hid (fun h ho => @ruT_none l k kk x h ho)
      have HT3 := Lib.hid (fun j h ho => @ruT_some l k kk j x h ho)
      have HLT := Lib.hid (fun j ho => @ruI_lt l k j kk ho)
      have HHP := Lib.hid (fun (W : World) => Tryd.strings_HasPrefix k x.pr W)
      obtain ⟨h, hh⟩ : ∃ h, h = hpB k x.pr := ⟨_, rfl⟩
      have HH := Lib.hid hh
      obtain ⟨o, ho⟩ : ∃ o, o = ruI l k kk := ⟨_, rfl⟩
      rw [← ho] at HNI HT2 HT3 HLT ⊢
      have HOI := Lib.hid ho
      have HB0 := Lib.hid (BL.alloc hszw (.cells #[.string x.pr, .int .i64 x.li, .int .i64 x.st, .int .i64 x.go] 25))
      clear hx hc BL hh ho
      have HHP2 : Hid (∀ W : World, Calls Tryd.prog 82 #[.string k, .string x.pr] W fun e w' => e = .returned (.bool h) ∧ w' = W) := Lib.hid (fun W => by rw [HH.out]; exact HHP.out W)
      cases h
      case false =>
        have HN : Hid (ruI l k (kk + 1) = o) := Lib.hid (by rw [HNI.out, HT1.out HH.out.symm]; rfl)
        go_upto_region 5 with (fail)
        go_quiet ((go_at_call 82; exact Calls.quiet_of_same (HHP2.out _)))
        go_wp2
        go_roundg (l.length - (kk + 1))
        case measure => omega
        case rel => exact ⟨kk + 1, by omega, by omega, by go_num, by rw [HN.out], below_drewN HB0.out _⟩
      case true =>
        cases o
        case none =>
          have HN : Hid (ruI l k (kk + 1) = some kk) := Lib.hid (by rw [HNI.out, HT2.out HH.out.symm rfl]; rfl)
          have hno : numO none = -1 := rfl
          rw [hno]
          go_upto_region 5 with (fail)
          go_quiet ((go_at_call 82; exact Calls.quiet_of_same (HHP2.out _)))
          go_wp2
          go_roundg (l.length - (kk + 1))
          case measure => omega
          case rel => exact ⟨kk + 1, by omega, by omega, by go_num, by rw [HN.out]; rfl, below_drewN HB0.out _⟩
        case some j =>
          have hj := HLT.out j rfl
          obtain ⟨y, hy⟩ : ∃ y, l[j]? = some y := ⟨l[j]'(by omega), by simp [show j < l.length by omega]⟩
          obtain ⟨b', off', hao', hc'⟩ := HEL.out j y hy
          simp only [Option.some.injEq, Addr.mk.injEq, and_true] at hao'
          obtain ⟨rfl, rfl⟩ := hao'
          have p0 : wr.cell? ⟨b, off + j * 4, none⟩ = some (.string y.pr) := (BW.out.cell (p := ⟨b, off + j * 4 + 0, none⟩) hlt0).trans (hc' 0 _ rfl)
          have HT4 := Lib.hid (HT3.out j HH.out.symm rfl)
          have e4 : outU l (some j) = y := by show l.getD j default = y; exact getD_of hy
          rw [e4] at HT4
          have hno : numO (some j) = j := rfl
          rw [hno]
          have hjl : j < l.length := by omega
          clear hy hc' e4 hno
          by_cases hs : y.pr.size < x.pr.size
          · have HN : Hid (ruI l k (kk + 1) = some kk) := Lib.hid (by rw [HNI.out, HT4.out, decide_eq_true hs]; rfl)
            have hsz : (y.pr.size : Int) < (x.pr.size : Int) := by omega
            go_upto_region 5 with (fail)
            go_quiet ((go_at_call 82; exact Calls.quiet_of_same (HHP2.out _)))
            go_wp2
            go_roundg (l.length - (kk + 1))
            case measure => omega
            case rel => exact ⟨kk + 1, by omega, by omega, by go_num, by rw [HN.out]; rfl, below_drewN HB0.out _⟩
          · have HN : Hid (ruI l k (kk + 1) = some j) := Lib.hid (by rw [HNI.out, HT4.out, decide_eq_false hs]; rfl)
            have hsz : ¬ (y.pr.size : Int) < (x.pr.size : Int) := by omega
            go_upto_region 5 with (fail)
            go_quiet ((go_at_call 82; exact Calls.quiet_of_same (HHP2.out _)))
            go_wp2
            go_roundg (l.length - (kk + 1))
            case measure => omega
            case rel => exact ⟨kk + 1, by omega, by omega, by go_num, by rw [HN.out]; rfl, below_drewN HB0.out _⟩
    · obtain rfl : kk = l.length := by omega
      have hltz : ¬ (l.length : Int) < (l.length : Int) := by omega
      rw [← HY.out]
      go_wp2
      go_ret
      exact ⟨rfl, BW.out⟩
end Go.Proofs.YtmgbmoiefgfemaaDoor

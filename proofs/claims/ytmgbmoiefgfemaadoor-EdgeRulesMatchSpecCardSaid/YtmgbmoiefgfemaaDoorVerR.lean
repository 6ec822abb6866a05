/- versionAt of the reference. -/
import Derived.Test.YtmgbmoiefgfemaaDoorVerE
import Derived.Test.YtmgbmoiefgfemaaDoorRulR
namespace Go.Proofs.YtmgbmoiefgfemaaDoor
open Go.RowKit

set_option maxRecDepth 100000 in
set_option maxHeartbeats 4000000 in
theorem versionAtR_any (w : World) (l : List Rel) (v : Value) (k : ByteArray) (t : Int) (hl : Sl w 4 encL v l) :
    Calls Tryd.prog 43 #[v, .string k, .int .i64 t] w fun e w' => e = .returned (.int .i64 (numO (veO l k t))) ∧ Below w.heap.size w w' := by
  obtain ⟨ao, cap, rfl, hcap, hmax, hnil, hel⟩ := hl
  unfold maxLen at hmax
  have HEL := Lib.hid hel
  clear hel
  have HVO : Hid (veO l k t = if (outL l (veI l k t l.length)).go = true then none else veI l k t l.length) := Lib.hid rfl
  obtain ⟨V, hV⟩ : ∃ V, V = veO l k t := ⟨_, rfl⟩
  rw [← hV] at HVO ⊢
  clear hV
  obtain ⟨Y, hY⟩ : ∃ Y, Y = numO V := ⟨_, rfl⟩
  rw [← hY]
  have HY := Lib.hid hY
  clear hY
  go_enter Tryd.func43, Tryd.ntmps43
  go_wp2
  go_loopg [7, 8, 9, 12] l.length (fun gg s7 _ _ s12 wr => ∃ kk : Nat, kk ≤ l.length ∧ l.length - kk ≤ gg ∧ s12 = .int .i64 kk ∧ s7 = .int .i64 (numO (veI l k t kk)) ∧ Aside (Below w.heap.size w wr))
  case atStart => exact ⟨0, Nat.zero_le _, by omega, by go_num, rfl, Below.refl _ _⟩
  case round =>
    obtain ⟨kk, hkk, hg, rfl, rfl, BW⟩ := hrel
    have BW := Lib.hid BW.out
    by_cases hlt : kk < l.length
    · have hltz : (kk : Int) < (l.length : Int) := by omega
      obtain ⟨x, hx⟩ : ∃ x, l[kk]? = some x := ⟨l[kk], by simp [hlt]⟩
      obtain ⟨b, off, rfl, hc⟩ := HEL.out kk x hx
      have hlt0 := World.block_lt_of_cell? w ⟨b, off + kk * 4 + 0, none⟩ (hc 0 _ rfl)
      have BL := BW.out
      have hszw := BL.size
      have hbw : b < wr.heap.size := Nat.lt_of_lt_of_le hlt0 hszw
      have c0 : wr.cell? ⟨b, off + kk * 4, none⟩ = some (.string x.ke) := (BL.cell (p := ⟨b, off + kk * 4 + 0, none⟩) hlt0).trans (hc 0 _ rfl)
      have c1 : wr.cell? ⟨b, off + kk * 4 + 1, none⟩ = some (.int .i64 x.ti) := (BL.cell (p := ⟨b, off + kk * 4 + 1, none⟩) hlt0).trans (hc 1 _ rfl)
      have c2 : wr.cell? ⟨b, off + kk * 4 + 2, none⟩ = some (.int .i64 x.si) := (BL.cell (p := ⟨b, off + kk * 4 + 2, none⟩) hlt0).trans (hc 2 _ rfl)
      have c3 : wr.cell? ⟨b, off + kk * 4 + 3, none⟩ = some (.bool x.go) := (BL.cell (p := ⟨b, off + kk * 4 + 3, none⟩) hlt0).trans (hc 3 _ rfl)
      have HNI := Lib.hid (veI_next (k := k) (t := t) hx)
      obtain ⟨o, ho⟩ : ∃ o, o = veI l k t kk := ⟨_, rfl⟩
      rw [← ho] at HNI ⊢
      obtain ⟨no, hno⟩ : ∃ no, no = numO o := ⟨_, rfl⟩
      rw [← hno]
      have HNO := Lib.hid hno
      have HB0 := Lib.hid (BL.alloc hszw (.cells #[.string x.ke, .int .i64 x.ti, .int .i64 x.si, .bool x.go] 32))
      clear hx hc BL ho hno
      cases hq : (x.ke.toList == k.toList)
      case false =>
        have HN : Hid (veI l k t (kk + 1) = o) := Lib.hid (by rw [HNI.out, hq]; rfl)
        go_wp2
        go_roundg (l.length - (kk + 1))
        case measure => omega
        case rel => exact ⟨kk + 1, by omega, by omega, by go_num, by rw [HN.out, HNO.out], HB0.out⟩
      case true =>
        by_cases hs : x.ti ≤ t
        · have HN : Hid (veI l k t (kk + 1) = some kk) := Lib.hid (by rw [HNI.out, hq, decide_eq_true hs]; rfl)
          go_wp2
          go_roundg (l.length - (kk + 1))
          case measure => omega
          case rel => exact ⟨kk + 1, by omega, by omega, by go_num, by rw [HN.out]; rfl, HB0.out⟩
        · have HN : Hid (veI l k t (kk + 1) = o) := Lib.hid (by rw [HNI.out, hq, decide_eq_false hs]; rfl)
          go_wp2
          go_roundg (l.length - (kk + 1))
          case measure => omega
          case rel => exact ⟨kk + 1, by omega, by omega, by go_num, by rw [HN.out, HNO.out], HB0.out⟩
    · obtain rfl : kk = l.length := by omega
      have hltz : ¬ (l.length : Int) < (l.length : Int) := by omega
      have HLT := Lib.hid (fun j ho => @veI_lt l k t j l.length ho)
      obtain ⟨o, ho⟩ : ∃ o, o = veI l k t l.length := ⟨_, rfl⟩
      rw [← ho] at HVO HLT ⊢
      clear ho
      cases o
      case none =>
        have hV : Hid (-1 = Y) := Lib.hid (by rw [HY.out, HVO.out]; split <;> rfl)
        have hno : numO none = -1 := rfl
        rw [hno]
        clear hno
        go_wp2
        go_ret
        exact ⟨ret_int hV.out, BW.out⟩
      case some j =>
        have hj := HLT.out j rfl
        obtain ⟨y, hy⟩ : ∃ y, l[j]? = some y := ⟨l[j]'(by omega), by simp [show j < l.length by omega]⟩
        obtain ⟨b, off, rfl, hc'⟩ := HEL.out j y hy
        have hlt0 := World.block_lt_of_cell? w ⟨b, off + j * 4 + 0, none⟩ (hc' 0 _ rfl)
        have p3 : wr.cell? ⟨b, off + j * 4 + 3, none⟩ = some (.bool y.go) := (BW.out.cell (p := ⟨b, off + j * 4 + 3, none⟩) hlt0).trans (hc' 3 _ rfl)
        have e4 : outL l (some j) = y := by show l.getD j default = y; exact getD_of hy
        rw [e4] at HVO
        have hno : numO (some j) = j := rfl
        rw [hno]
        clear hy hc' e4 hno
        cases hgo : y.go
        case true =>
          have hV : Hid (-1 = Y) := Lib.hid (by rw [HY.out, HVO.out, hgo]; rfl)
          rw [hgo] at p3
          go_wp2
          go_ret
          exact ⟨ret_int hV.out, BW.out⟩
        case false =>
          have hV : Hid ((j : Int) = Y) := Lib.hid (by rw [HY.out, HVO.out, hgo]; rfl)
          rw [hgo] at p3
          go_wp2
          go_ret
          exact ⟨ret_int hV.out, BW.out⟩
end Go.Proofs.YtmgbmoiefgfemaaDoor

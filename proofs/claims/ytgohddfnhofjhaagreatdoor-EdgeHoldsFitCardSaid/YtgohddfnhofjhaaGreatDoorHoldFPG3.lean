/- versionAt of the reference. -/
import Derived.Test.YtgohddfnhofjhaaGreatDoorB14
import Derived.Test.YtgohddfnhofjhaaGreatDoorHoldFPG2
import Derived.Test.YtgohddfnhofjhaaGreatDoorB26
import Derived.Test.YtgohddfnhofjhaaGreatDoorB02
namespace Go.Proofs.YtgohddfnhofjhaaGreatDoor
open Go.RowKit

set_option maxRecDepth 100000 in
set_option maxHeartbeats 4000000 in
theorem versionAtR_any (w : World) (l : List Rel) (v : Value) (k : ByteArray) (t : Int) (hl : Sl w 4 encL v l) :
    Calls Tryz.prog 33 #[v, .string k, .int .i64 t] w fun e w' => e = .returned (.int .i64 (numO (veO l k t))) ∧ Below w.heap.size w w' := by
  obtain ⟨ao, cap, rfl, hcap, hmax, hnil, hel⟩ := hl
  unfold maxLen at hmax
  have HEL := Lib.hid hel
  clear hel
  have HVO : Hid (veO l k t = if (outL l (veI l k t l.length)).go = true then none else veI l k t l.length) := Lib.hid rfl
  obtain ⟨V, hV⟩ : ∃ V, V = veO l k t := ⟨_, rfl⟩
  rw [← hV] at HVO ⊢
  clear hV
  obtain ⟨Y, hY⟩ : ∃ Y, Y = numO V := ⟨_, rfl⟩
  rw [← hY]
  have HY := Lib.hid hY
  clear hY
  go_enter Tryz.func33, Tryz.ntmps33
  go_wp2
  go_loopg [7, 8, 9, 12] l.length (fun gg s7 _ _ s12 wr => ∃ kk : Nat, kk ≤ l.length ∧ l.length - kk ≤ gg ∧ s12 = .int .i64 kk ∧ s7 = .int .i64 (numO (veI l k t kk)) ∧ Aside (Below w.heap.size w wr))
  case atStart => exact ⟨0, Nat.zero_le _, by omega, by go_num, rfl, Below.refl _ _⟩
  case round =>
    obtain ⟨kk, hkk, hg, rfl, rfl, BW⟩ := hrel
    have BW := Lib.hid BW.out
    by_cases hlt : kk < l.length
    · have hltz : (kk : Int) < (l.length : Int) := by omega
      obtain ⟨x, hx⟩ : ∃ x, l[kk]? = some x := ⟨l[kk], by simp [hlt]⟩
      obtain ⟨b, off, rfl, hc⟩ := HEL.out kk x hx
      have hlt0 := World.block_lt_of_cell? w ⟨b, off + kk * 4 + 0, none⟩ (hc 0 _ rfl)
      have BL := BW.out
      have hszw := BL.size
      have hbw : b < wr.heap.size := Nat.lt_of_lt_of_le hlt0 hszw
      have c0 : wr.cell? ⟨b, off + kk * 4, none⟩ = some (.string x.ke) := (BL.cell (p := ⟨b, off + kk * 4 + 0, none⟩) hlt0).trans (hc 0 _ rfl)
      have c1 : wr.cell? ⟨b, off + kk * 4 + 1, none⟩ = some (.int .i64 x.ti) := (BL.cell (p := ⟨b, off + kk * 4 + 1, none⟩) hlt0).trans (hc 1 _ rfl)
      have c2 : wr.cell? ⟨b, off + kk * 4 + 2, none⟩ = some (.int .i64 x.si) := (BL.cell (p := ⟨b, off + kk * 4 + 2, none⟩) hlt0).trans (hc 2 _ rfl)
      have c3 : wr.cell? ⟨b, off + kk * 4 + 3, none⟩ = some (.bool x.go) := (BL.cell (p := ⟨b, off + kk * 4 + 3, none⟩) hlt0).trans (hc 3 _ rfl)
      have HNI := Lib.hid (veI_next (k := k) (t := t) hx)
      obtain ⟨o, ho⟩ : ∃ o, o = veI l k t kk := ⟨_, rfl⟩
      rw [← ho] at HNI ⊢
      obtain ⟨no, hno⟩ : ∃ no, no = numO o := ⟨_, rfl⟩
      rw [← hno]
      have HNO := Lib.hid hno
      have HB0 := Lib.hid (BL.alloc hszw (.cells #[.string x.ke, .int .i64 x.ti, .int .i64 x.si, .bool x.go] 77))
      clear hx hc BL ho hno
      cases hq : (x.ke.toList == k.toList)
      case false =>
        have HN : Hid (veI l k t (kk + 1) = o) := Lib.hid (by rw [HNI.out, hq]; rfl)
        go_wp2
        go_roundg (l.length - (kk + 1))
        case measure => omega
        case rel => exact ⟨kk + 1, by omega, by omega, by go_num, by rw [HN.out, HNO.out], HB0.out⟩
      case true =>
        by_cases hs : x.ti ≤ t
        · have HN : Hid (veI l k t (kk + 1) = some kk) := Lib.hid (by rw [HNI.out, hq, decide_eq_true hs]; rfl)
          go_wp2
          go_roundg (l.length - (kk + 1))
          case measure => omega
          case rel => exact ⟨kk + 1, by omega, by omega, by go_num, by rw [HN.out]; rfl, HB0.out⟩
        · have HN : Hid (veI l k t (kk + 1) = o) := Lib.hid (by rw [HNI.out, hq, decide_eq_false hs]; rfl)
          go_wp2
          go_roundg (l.length - (kk + 1))
          case measure => omega
          case rel => exact ⟨kk + 1, by omega, by omega, by go_num, by rw [HN.out, HNO.out], HB0.out⟩
    · obtain rfl : kk = l.length := by omega
      have hltz : ¬ (l.length : Int) < (l.length : Int) := by omega
      have HLT := Lib.hid (fun j ho => @veI_lt l k t j l.length ho)
      obtain ⟨o, ho⟩ : ∃ o, o = veI l k t l.length := ⟨_, rfl⟩
      rw [← ho] at HVO HLT ⊢
      clear ho
      cases o
      case none =>
        have hV : Hid (-1 = Y) := Lib.hid (by rw [HY.out, HVO.out]; split <;> rfl)
        have hno : numO none = -1 := rfl
        rw [hno]
        clear hno
        go_wp2
        go_ret
        exact ⟨ret_int hV.out, BW.out⟩
      case some j =>
        have hj := HLT.out j rfl
        obtain ⟨y, hy⟩ : ∃ y, l[j]? = some y := ⟨l[j]'(by omega), by simp [show j < l.length by omega]⟩
        obtain ⟨b, off, rfl, hc'⟩ := HEL.out j y hy
        have hlt0 := World.block_lt_of_cell? w ⟨b, off + j * 4 + 0, none⟩ (hc' 0 _ rfl)
        have p3 : wr.cell? ⟨b, off + j * 4 + 3, none⟩ = some (.bool y.go) := (BW.out.cell (p := ⟨b, off + j * 4 + 3, none⟩) hlt0).trans (hc' 3 _ rfl)
        have e4 : outL l (some j) = y := by show l.getD j default = y; exact getD_of hy
        rw [e4] at HVO
        have hno : numO (some j) = j := rfl
        rw [hno]
        clear hy hc' e4 hno
        cases hgo : y.go
        case true =>
          have hV : Hid (-1 = Y) := Lib.hid (by rw [HY.out, HVO.out, hgo]; rfl)
          rw [hgo] at p3
          go_wp2
          go_ret
          exact ⟨ret_int hV.out, BW.out⟩
        case false =>
          have hV : Hid ((j : Int) = Y) := Lib.hid (by rw [HY.out, HVO.out, hgo]; rfl)
          rw [hgo] at p3
          go_wp2
          go_ret
          exact ⟨ret_int hV.out, BW.out⟩
end Go.Proofs.YtgohddfnhofjhaaGreatDoor

/- Odds of the reference: what the statements about gets ask of it. -/
namespace Go.Proofs.YtgohddfnhofjhaaGreatDoor
open Go.RowKit

/-- The last purge of a key among the first n. -/
def pbI (P : List Pur) (k : ByteArray) (t : Int) : Nat → Int
  | 0 => -1
  | n + 1 => if (((P.getD n default).ke.toList == k.toList) && decide ((P.getD n default).ti ≤ t)) = true then (P.getD n default).ti else pbI P k t n
theorem pbI_next {P : List Pur} {k : ByteArray} {t : Int} {n : Nat} {x : Pur} (hx : P[n]? = some x) : pbI P k t (n + 1) = if ((x.ke.toList == k.toList) && decide (x.ti ≤ t)) = true then x.ti else pbI P k t n := by
  rw [pbI, getD_at hx]
theorem pbI_pur {P : List Pur} (hs : ∀ (i j : Nat) (x y : Pur), i ≤ j → P[i]? = some x → P[j]? = some y → x.ti ≤ y.ti) (h0 : ∀ x, x ∈ P → 0 ≤ x.ti) (k : ByteArray) (t : Int) : ∀ {n : Nat}, n ≤ P.length → pbI P k t n = purI P k t n
  | 0, _ => rfl
  | n + 1, hn => by
    have hx := List.getElem?_eq_getElem (by omega : n < P.length)
    rw [pbI_next hx, purI_next hx, pbI_pur hs h0 k t (n := n) (by omega)]
    split
    · have h1 : purI P k t n ≤ P[n].ti := by
        refine purI_lt (by have := h0 _ (List.getElem_mem (by omega : n < P.length)); omega) (fun q y hq hy _ _ => hs q n y _ (by omega) hy hx) (by omega)
      omega
    · rfl
where
  purI_lt {P : List Pur} {k : ByteArray} {t v : Int} {m : Nat} (hv : -1 ≤ v) (h : ∀ (q : Nat) (x : Pur), q < m → P[q]? = some x → x.ke = k → x.ti ≤ t → x.ti ≤ v) (hm : m ≤ P.length) : purI P k t m ≤ v := by
    induction m with
    | zero => exact hv
    | succ m ih =>
      have h1 := ih (fun q x hq => h q x (by omega)) (by omega)
      have hx := List.getElem?_eq_getElem (by omega : m < P.length)
      rw [purI_next hx]
      split
      · rename_i hc
        simp only [Bool.and_eq_true, beq_iff_eq, decide_eq_true_eq] at hc
        have := h m _ (by omega) hx (ba_list hc.1) hc.2
        omega
      · exact h1
set_option maxRecDepth 100000 in
set_option maxHeartbeats 4000000 in
theorem purgedBy_any (w : World) (vc vr ve vp : Value) (P : List Pur) (k : ByteArray) (t : Int) (hp : Sl w 2 encG vp P) :
    Calls Tryz.prog 12 #[.agg #[vc, vr, ve, vp], .string k, .int .i64 t] w fun e w' => e = .returned (.int .i64 (pbI P k t P.length)) ∧ Below w.heap.size w w' := by
  obtain ⟨w2, hw2⟩ : ∃ w2, w2 = w.alloc (.cells #[vc, vr, ve, vp] 27) := ⟨_, rfl⟩
  have hb2 : Below w.heap.size w w2 := by rw [hw2]; exact (Below.refl _ w).alloc (Nat.le_refl _) _
  have hnb : w2.heap[w.heap.size]? = some (.cells #[vc, vr, ve, vp] 27 (0, 0)) := by rw [hw2]; exact block_new w _
  have hp2 := hp.below hb2 (Nat.le_refl _)
  obtain ⟨ao, cap, rfl, hcap, hmax, hnil, hel⟩ := hp2
  have q3 : w2.cell? ⟨w.heap.size, 3, none⟩ = some (.slice ao P.length cap) := cellF hnb 3 rfl
  unfold maxLen at hmax
  have HEL := Lib.hid hel
  have HW2 := Lib.hid hw2
  have HB2 := Lib.hid hb2
  clear hel hw2 hb2 hnb hp hnil
  go_enter Tryz.func12, Tryz.ntmps12
  go_upto_region 1 with (fail)
  rw [← HW2.out]
  go_wp2_with fail
  go_loopg [7, 9, 13] P.length (fun gg s7 s9 s13 wr => ∃ kk : Nat, kk ≤ P.length ∧ P.length - kk ≤ gg ∧ s13 = .int .i64 kk ∧ s7 = .int .i64 (pbI P k t kk) ∧ Aside (Below w2.heap.size w2 wr))
  case atStart => exact ⟨0, Nat.zero_le _, by omega, rfl, rfl, Below.refl _ _⟩
  case round =>
    obtain ⟨kk, hkk, hg, rfl, rfl, BW⟩ := hrel
    by_cases hlt : kk < P.length
    · have hltz : (kk : Int) < (P.length : Int) := by omega
      obtain ⟨x, hx⟩ : ∃ x, P[kk]? = some x := ⟨_, List.getElem?_eq_getElem hlt⟩
      obtain ⟨b, off, rfl, hc⟩ := HEL.out kk x hx
      have hl2 := World.block_lt_of_cell? w2 _ (hc 0 _ rfl)
      have c0 : wr.cell? ⟨b, off + kk * 2, none⟩ = some (.int .i64 x.ti) := by have h := (BW.out.cell (p := ⟨b, off + kk * 2 + 0, none⟩) hl2).trans (hc 0 _ rfl); simpa using h
      have c1 : wr.cell? ⟨b, off + kk * 2 + 1, none⟩ = some (.string x.ke) := (BW.out.cell (p := ⟨b, off + kk * 2 + 1, none⟩) hl2).trans (hc 1 _ rfl)
      have HNX := Lib.hid (pbI_next (k := k) (t := t) hx)
      obtain ⟨m1, hm1⟩ : ∃ m1, m1 = pbI P k t (kk + 1) := ⟨_, rfl⟩
      rw [← hm1] at HNX
      have HM1 := Lib.hid hm1
      clear hm1
      generalize pbI P k t kk = m0 at HNX ⊢
      have hsz := BW.out.size
      have HB := Lib.hid (BW.out.alloc hsz (.cells #[.int .i64 x.ti, .string x.ke] 74))
      clear hc hx
      cases h1 : (x.ke.toList == k.toList)
      · have hv : Hid (m1 = m0) := Lib.hid (by rw [HNX.out, h1]; rfl)
        go_wp2_with fail
        go_roundg (P.length - (kk + 1))
        case measure => omega
        case rel => exact ⟨kk + 1, by omega, by omega, by go_num, by rw [← HM1.out, hv.out], HB.out⟩
      · by_cases h2 : x.ti ≤ t
        · have hv : Hid (m1 = x.ti) := Lib.hid (by rw [HNX.out, h1, decide_eq_true h2]; rfl)
          go_wp2_with fail
          go_roundg (P.length - (kk + 1))
          case measure => omega
          case rel => exact ⟨kk + 1, by omega, by omega, by go_num, by rw [← HM1.out, hv.out], HB.out⟩
        · have hv : Hid (m1 = m0) := Lib.hid (by rw [HNX.out, h1, decide_eq_false h2]; rfl)
          go_wp2_with fail
          go_roundg (P.length - (kk + 1))
          case measure => omega
          case rel => exact ⟨kk + 1, by omega, by omega, by go_num, by rw [← HM1.out, hv.out], HB.out⟩
    · obtain rfl : kk = P.length := by omega
      have hltz : ¬ (P.length : Int) < (P.length : Int) := by omega
      go_wp2_with fail
      go_ret
      exact ⟨rfl, HB2.out.thru BW.out⟩
set_option maxRecDepth 100000 in
set_option maxHeartbeats 4000000 in
theorem versionOf_any (w : World) (vc vr ve vp : Value) (E : List Rel) (k : ByteArray) (t : Int) (he : Sl w 4 encL ve E) :
    Calls Tryz.prog 13 #[.agg #[vc, vr, ve, vp], .string k, .int .i64 t] w fun e w' => e = .returned (.int .i64 (oriM E k t).ve) ∧ Below w.heap.size w w' := by
  obtain ⟨w2, hw2⟩ : ∃ w2, w2 = w.alloc (.cells #[vc, vr, ve, vp] 27) := ⟨_, rfl⟩
  have hb2 : Below w.heap.size w w2 := by rw [hw2]; exact (Below.refl _ w).alloc (Nat.le_refl _) _
  have hnb : w2.heap[w.heap.size]? = some (.cells #[vc, vr, ve, vp] 27 (0, 0)) := by rw [hw2]; exact block_new w _
  have hlt : w.heap.size < w2.heap.size := (Array.getElem?_eq_some_iff.1 hnb).1
  have he2 := he.below hb2 (Nat.le_refl _)
  have HV := Lib.hid (versionAtR_any w2 E ve k t he2)
  obtain ⟨ao, cap, rfl, hcap, hmax, hnil, hel⟩ := he2
  have q2 : w2.cell? ⟨w.heap.size, 2, none⟩ = some (.slice ao E.length cap) := cellF hnb 2 rfl
  unfold maxLen at hmax
  have HEL := Lib.hid hel
  have HW2 := Lib.hid hw2
  have HB2 := Lib.hid hb2
  have HO : Hid ((oriM E k t).ve = if (veO E k t).isSome = true then (outL E (veO E k t)).ti else -1) := Lib.hid (by unfold oriM; split <;> rfl)
  have HM := Lib.hid (fun (o : Nat) (h : veO E k t = some o) => veO_mem h)
  clear hel hw2 hb2 hnb he hnil
  generalize (oriM E k t).ve = m at HO ⊢
  generalize veO E k t = V at HV HO HM
  cases V with
  | none =>
    have hv : Hid (m = -1) := Lib.hid (by rw [HO.out]; rfl)
    have hn : numO none = -1 := rfl
    go_enter Tryz.func13, Tryz.ntmps13
    go_upto_region 1 with (fail)
    rw [← HW2.out]
    go_wp2_with (go_at_call 33; (with_reducible refine HV.out.mono ?_); rintro e w3 ⟨rfl, hb3⟩; have HB3 := Lib.hid hb3; clear hb3)
    go_ret
    exact ⟨by rw [hv.out]; rfl, HB2.out.thru HB3.out⟩
  | some o =>
    obtain ⟨x, hx, hxo, hxg⟩ := HM.out o (by trivial)
    have hol := (List.getElem?_eq_some_iff.1 hx).1
    have holz : (o : Int) < (E.length : Int) := by omega
    obtain ⟨b, off, rfl, hc⟩ := HEL.out o x hx
    have hv : Hid (m = x.ti) := Lib.hid (by rw [HO.out, hxo]; rfl)
    have hn : numO (some o) = (o : Int) := rfl
    have c1 := hc 1 _ rfl
    have hl2 := World.block_lt_of_cell? w2 _ c1
    rw [hn] at HV
    clear hc hx hxo hxg HM
    go_enter Tryz.func13, Tryz.ntmps13
    go_upto_region 1 with (fail)
    rw [← HW2.out]
    go_wp2_with (go_at_call 33; (with_reducible refine HV.out.mono ?_); rintro e w3 ⟨rfl, hb3⟩; have HB3 := Lib.hid hb3; have d1 := (hb3.cell (p := ⟨b, off + o * 4 + 1, none⟩) hl2).trans c1; have r2 := (hb3.cell (p := ⟨w.heap.size, 2, none⟩) hlt).trans q2; clear hb3 c1 q2)
    go_wp2_with fail
    go_ret
    exact ⟨by rw [hv.out]; rfl, HB2.out.thru HB3.out⟩
abbrev aggN (x : Gtn) : Value := .agg #[.int .i64 x.ti, .int .i64 x.ve, .int .i64 x.bo, .string x.fr, .int .i64 x.ho]
/-- Up to when an answer is fresh, or usable; 0: there is no rule. -/
def lifB (R : List Crl) (k : ByteArray) (x : Gtn) (b : Bool) : Int := if (ruI R k R.length).isSome = true then untM (rulO R k) ⟨x.ve, x.bo, 0, decide (x.ve < 0), ⟨#[]⟩⟩ b else 0
set_option maxRecDepth 100000 in
set_option maxHeartbeats 4000000 in
theorem ends_any (w : World) (vc vr ve vp : Value) (R : List Crl) (k : ByteArray) (x : Gtn) (hr : Sl w 4 encU vr R) (hb : 0 ≤ x.bo ∧ x.bo ≤ 10000000000000) (hR : ∀ y, y ∈ R → (0 ≤ y.li ∧ y.li ≤ 1000000000) ∧ (0 ≤ y.st ∧ y.st ≤ 1000000000) ∧ (0 ≤ y.go ∧ y.go ≤ 1000000000)) :
    Calls Tryz.prog 34 #[.agg #[vc, vr, ve, vp], .string k, aggN x] w fun e w' => e = .returned (.tuple #[.int .i64 (lifB R k x false), .int .i64 (lifB R k x true)]) ∧ Below w.heap.size w w' := by
  obtain ⟨w2, hw2⟩ : ∃ w2, w2 = (w.alloc (.cells #[vc, vr, ve, vp] 27)).alloc (.cells #[.int .i64 x.ti, .int .i64 x.ve, .int .i64 x.bo, .string x.fr, .int .i64 x.ho] 35) := ⟨_, rfl⟩
  have hb2 : Below w.heap.size w w2 := by rw [hw2]; exact ((Below.refl _ w).alloc (Nat.le_refl _) _).alloc (by simp) _
  have hnb : w2.heap[w.heap.size]? = some (.cells #[vc, vr, ve, vp] 27 (0, 0)) := by
    rw [hw2, Below.heap_alloc _ _ _ (by simp)]; exact block_new w _
  have hnx : w2.heap[w.heap.size + 1]? = some (.cells #[.int .i64 x.ti, .int .i64 x.ve, .int .i64 x.bo, .string x.fr, .int .i64 x.ho] 35 (0, 0)) := by
    rw [hw2]
    have h := block_new (w.alloc (.cells #[vc, vr, ve, vp] 27)) (.cells #[.int .i64 x.ti, .int .i64 x.ve, .int .i64 x.bo, .string x.fr, .int .i64 x.ho] 35)
    simpa using h
  have hlt : w.heap.size + 1 < w2.heap.size := (Array.getElem?_eq_some_iff.1 hnx).1
  have hr2 := hr.below hb2 (Nat.le_refl _)
  have HV := Lib.hid (ruleOfR_any w2 R vr k hr2)
  obtain ⟨ao, cap, rfl, hcap, hmax, hnil, hel⟩ := hr2
  have q1 : w2.cell? ⟨w.heap.size, 1, none⟩ = some (.slice ao R.length cap) := cellF hnb 1 rfl
  unfold maxLen at hmax
  have HEL := Lib.hid hel
  have HW2 := Lib.hid hw2
  have HB2 := Lib.hid hb2
  obtain ⟨B1, B2⟩ := hb
  have HO : Hid (∀ b, lifB R k x b = if (ruI R k R.length).isSome = true then untM (outU R (ruI R k R.length)) ⟨x.ve, x.bo, 0, decide (x.ve < 0), ⟨#[]⟩⟩ b else 0) := Lib.hid fun b => rfl
  have HM : Hid (∀ o, ruI R k R.length = some o → o < R.length) := Lib.hid (fun _ h => ruI_lt h)
  have HRB := Lib.hid hR
  clear hel hw2 hb2 hr hnil hR
  generalize lifB R k x = m at HO ⊢
  generalize ruI R k R.length = V at HV HO HM
  cases V with
  | none =>
    have hv : Hid (∀ b, m b = 0) := Lib.hid (fun b => by rw [HO.out]; rfl)
    rw [show numO none = -1 from rfl] at HV
    clear HO hnb hnx
    go_enter Tryz.func34, Tryz.ntmps34
    go_upto_region 1 with (fail)
    rw [← HW2.out]
    go_wp2_with (go_at_call 61; (with_reducible refine HV.out.mono ?_); rintro e w3 ⟨rfl, hb3⟩; have HB3 := Lib.hid hb3; clear hb3)
    go_ret2
    exact ⟨by rw [hv.out, hv.out]; rfl, HB2.out.thru HB3.out⟩
  | some o =>
    have hol := HM.out o (by trivial)
    have holz : (o : Int) < (R.length : Int) := by omega
    obtain ⟨r, hr⟩ : ∃ r, R[o]? = some r := ⟨_, List.getElem?_eq_getElem hol⟩
    obtain ⟨b, off, rfl, hc⟩ := HEL.out o r hr
    have hv : Hid (∀ b, m b = untM r ⟨x.ve, x.bo, 0, decide (x.ve < 0), ⟨#[]⟩⟩ b) := Lib.hid (fun b => by rw [HO.out, show outU R (some o) = r from getD_at hr]; rfl)
    obtain ⟨⟨b1, b2⟩, ⟨b3, b4⟩, b5, b6⟩ := HRB.out r (List.mem_of_getElem? hr)
    have c0 : w2.cell? ⟨b, off + o * 4, none⟩ = some (.string r.pr) := by have h := hc 0 _ rfl; simpa using h
    have c1 := hc 1 _ rfl
    have c2 := hc 2 _ rfl
    have c3 := hc 3 _ rfl
    have hl2 := World.block_lt_of_cell? w2 _ c1
    have hw1 : IntKind.i64.wrap (x.bo + r.go) = x.bo + r.go := IntWalk.i64_in _ (by omega)
    have hw2 : IntKind.i64.wrap (x.bo + r.li) = x.bo + r.li := IntWalk.i64_in _ (by omega)
    have hw3 : IntKind.i64.wrap (x.bo + r.li + r.st) = x.bo + r.li + r.st := IntWalk.i64_in _ (by omega)
    have ho0 : decide ((o : Int) < 0) = false := decide_eq_false (by omega)
    rw [show numO (some o) = (o : Int) from rfl] at HV
    have HF : Hid (∀ W, Below w2.heap.size w2 W → W.cell? ⟨w.heap.size, 1, none⟩ = some (.slice (some ⟨b, off, none⟩) R.length cap) ∧ W.cell? ⟨w.heap.size + 1, 1, none⟩ = some (.int .i64 x.ve) ∧ W.cell? ⟨w.heap.size + 1, 2, none⟩ = some (.int .i64 x.bo) ∧ W.cell? ⟨b, off + o * 4, none⟩ = some (.string r.pr) ∧ W.cell? ⟨b, off + o * 4 + 1, none⟩ = some (.int .i64 r.li) ∧ W.cell? ⟨b, off + o * 4 + 2, none⟩ = some (.int .i64 r.st) ∧ W.cell? ⟨b, off + o * 4 + 3, none⟩ = some (.int .i64 r.go)) := Lib.hid fun W hb => by
      have h1 := (hb.block _ hlt).trans hnx
      exact ⟨(hb.cell (p := ⟨w.heap.size, 1, none⟩) (by show w.heap.size < _; omega)).trans q1, cellF h1 1 rfl, cellF h1 2 rfl, (hb.cell (p := ⟨b, off + o * 4, none⟩) hl2).trans c0, (hb.cell (p := ⟨b, off + o * 4 + 1, none⟩) hl2).trans c1, (hb.cell (p := ⟨b, off + o * 4 + 2, none⟩) hl2).trans c2, (hb.cell (p := ⟨b, off + o * 4 + 3, none⟩) hl2).trans c3⟩
    have HLT := Lib.hid hlt
    have HL2 := Lib.hid hl2
    clear HO hnb hnx hc hr c0 c1 c2 c3
    go_enter Tryz.func34, Tryz.ntmps34
    go_upto_region 1 with (fail)
    rw [← HW2.out]
    go_wp2_with (go_at_call 61; (with_reducible refine HV.out.mono ?_); rintro e w3 ⟨rfl, hb3⟩; have HB3 := Lib.hid hb3; obtain ⟨f1, f2, f3, f4, f5, f6, f7⟩ := HF.out w3 hb3; have g1 : w.heap.size + 1 < w3.heap.size := Nat.lt_of_lt_of_le HLT.out hb3.size; have g2 : b < w3.heap.size := Nat.lt_of_lt_of_le HL2.out hb3.size; have g3 : w.heap.size < w3.heap.size := Nat.lt_of_succ_lt g1; have HB4 := Lib.hid ((HB2.out.thru hb3).alloc (by omega) (.cells #[.string r.pr, .int .i64 r.li, .int .i64 r.st, .int .i64 r.go] 126)); clear hb3 q1; by_cases hve : x.ve < 0)
    · have h1 : Hid (m false = x.bo + r.go ∧ m true = x.bo + r.go) := Lib.hid (by rw [hv.out, hv.out]; unfold untM; rw [if_pos (decide_eq_true hve), if_pos (decide_eq_true hve)]; exact ⟨rfl, rfl⟩)
      go_wp2_with fail
      all_goals go_quiet (fail)
      go_wp2_with fail
      go_ret2
      exact ⟨by rw [h1.out.1, h1.out.2]; rfl, below_drewN HB4.out _⟩
    · have hd0 : decide (x.ve < 0) = false := decide_eq_false (by omega)
      have h1 : Hid (m false = x.bo + r.li ∧ m true = x.bo + r.li + r.st) := Lib.hid (by rw [hv.out, hv.out]; unfold untM; rw [if_neg (by rw [hd0]; simp), if_neg (by simp), if_neg (by rw [hd0]; simp), if_pos rfl]; exact ⟨rfl, rfl⟩)
      go_wp2_with fail
      all_goals go_quiet (fail)
      go_wp2_with fail
      go_ret2
      exact ⟨by rw [h1.out.1, h1.out.2]; rfl, below_drewN HB4.out _⟩
set_option maxRecDepth 100000 in
theorem isFresh_any (w : World) (vc vr ve vp : Value) (R : List Crl) (k : ByteArray) (x : Gtn) (hr : Sl w 4 encU vr R) (hb : 0 ≤ x.bo ∧ x.bo ≤ 10000000000000) (hR : ∀ y, y ∈ R → (0 ≤ y.li ∧ y.li ≤ 1000000000) ∧ (0 ≤ y.st ∧ y.st ≤ 1000000000) ∧ (0 ≤ y.go ∧ y.go ≤ 1000000000)) (hfa : x.ti < lifB R k x false) :
    Calls Tryz.prog 14 #[.agg #[vc, vr, ve, vp], .string k, aggN x] w fun e w' => e = .returned (.bool true) ∧ Below w.heap.size w w' := by
  obtain ⟨w2, hw2⟩ : ∃ w2, w2 = (w.alloc (.cells #[vc, vr, ve, vp] 27)).alloc (.cells #[.int .i64 x.ti, .int .i64 x.ve, .int .i64 x.bo, .string x.fr, .int .i64 x.ho] 35) := ⟨_, rfl⟩
  have hb2 : Below w.heap.size w w2 := by rw [hw2]; exact ((Below.refl _ w).alloc (Nat.le_refl _) _).alloc (by simp) _
  have hnb : w2.heap[w.heap.size]? = some (.cells #[vc, vr, ve, vp] 27 (0, 0)) := by
    rw [hw2, Below.heap_alloc _ _ _ (by simp)]; exact block_new w _
  have hnx : w2.heap[w.heap.size + 1]? = some (.cells #[.int .i64 x.ti, .int .i64 x.ve, .int .i64 x.bo, .string x.fr, .int .i64 x.ho] 35 (0, 0)) := by
    rw [hw2]
    have h := block_new (w.alloc (.cells #[vc, vr, ve, vp] 27)) (.cells #[.int .i64 x.ti, .int .i64 x.ve, .int .i64 x.bo, .string x.fr, .int .i64 x.ho] 35)
    simpa using h
  have hlt : w.heap.size + 1 < w2.heap.size := (Array.getElem?_eq_some_iff.1 hnx).1
  have HV := Lib.hid (ends_any w2 vc vr ve vp R k x (hr.below hb2 (Nat.le_refl _)) hb hR)
  have a0 : w2.cell? ⟨w.heap.size, 0, none⟩ = some vc := cellF hnb 0 rfl
  have a1 : w2.cell? ⟨w.heap.size, 1, none⟩ = some vr := cellF hnb 1 rfl
  have a2 : w2.cell? ⟨w.heap.size, 2, none⟩ = some ve := cellF hnb 2 rfl
  have a3 : w2.cell? ⟨w.heap.size, 3, none⟩ = some vp := cellF hnb 3 rfl
  have b0 : w2.cell? ⟨w.heap.size + 1, 0, none⟩ = some (.int .i64 x.ti) := cellF hnx 0 rfl
  have b1 : w2.cell? ⟨w.heap.size + 1, 1, none⟩ = some (.int .i64 x.ve) := cellF hnx 1 rfl
  have b2 : w2.cell? ⟨w.heap.size + 1, 2, none⟩ = some (.int .i64 x.bo) := cellF hnx 2 rfl
  have b3 : w2.cell? ⟨w.heap.size + 1, 3, none⟩ = some (.string x.fr) := cellF hnx 3 rfl
  have b4 : w2.cell? ⟨w.heap.size + 1, 4, none⟩ = some (.int .i64 x.ho) := cellF hnx 4 rfl
  have HF : Hid (∀ W, Below w2.heap.size w2 W → W.cell? ⟨w.heap.size + 1, 0, none⟩ = some (.int .i64 x.ti)) := Lib.hid fun W hb => cellF ((hb.block _ hlt).trans hnx) 0 rfl
  have HW2 := Lib.hid hw2
  have HB2 := Lib.hid hb2
  clear hw2 hb2 hnb hnx hr hR
  generalize lifB R k x false = fa at HV hfa
  go_enter Tryz.func14, Tryz.ntmps14
  go_upto_region 1 with (fail)
  rw [← HW2.out]
  go_wp2_with (go_at_call 34; (with_reducible refine HV.out.mono ?_); rintro e w3 ⟨rfl, hb3⟩; have HB3 := Lib.hid (HB2.out.thru hb3); have f0 := HF.out w3 hb3; clear hb3 a0 a1 a2 a3 b0 b1 b2 b3 b4)
  go_wp2_with fail
  go_ret
  exact ⟨rfl, HB3.out⟩
set_option maxRecDepth 100000 in
theorem isUsable_any (w : World) (vc vr ve vp : Value) (R : List Crl) (k : ByteArray) (x : Gtn) (hr : Sl w 4 encU vr R) (hb : 0 ≤ x.bo ∧ x.bo ≤ 10000000000000) (hR : ∀ y, y ∈ R → (0 ≤ y.li ∧ y.li ≤ 1000000000) ∧ (0 ≤ y.st ∧ y.st ≤ 1000000000) ∧ (0 ≤ y.go ∧ y.go ≤ 1000000000)) (hfa : lifB R k x false ≤ x.ti) (htr : x.ti < lifB R k x true) :
    Calls Tryz.prog 15 #[.agg #[vc, vr, ve, vp], .string k, aggN x] w fun e w' => e = .returned (.bool true) ∧ Below w.heap.size w w' := by
  obtain ⟨w2, hw2⟩ : ∃ w2, w2 = (w.alloc (.cells #[vc, vr, ve, vp] 27)).alloc (.cells #[.int .i64 x.ti, .int .i64 x.ve, .int .i64 x.bo, .string x.fr, .int .i64 x.ho] 35) := ⟨_, rfl⟩
  have hb2 : Below w.heap.size w w2 := by rw [hw2]; exact ((Below.refl _ w).alloc (Nat.le_refl _) _).alloc (by simp) _
  have hnb : w2.heap[w.heap.size]? = some (.cells #[vc, vr, ve, vp] 27 (0, 0)) := by
    rw [hw2, Below.heap_alloc _ _ _ (by simp)]; exact block_new w _
  have hnx : w2.heap[w.heap.size + 1]? = some (.cells #[.int .i64 x.ti, .int .i64 x.ve, .int .i64 x.bo, .string x.fr, .int .i64 x.ho] 35 (0, 0)) := by
    rw [hw2]
    have h := block_new (w.alloc (.cells #[vc, vr, ve, vp] 27)) (.cells #[.int .i64 x.ti, .int .i64 x.ve, .int .i64 x.bo, .string x.fr, .int .i64 x.ho] 35)
    simpa using h
  have hlt : w.heap.size + 1 < w2.heap.size := (Array.getElem?_eq_some_iff.1 hnx).1
  have HV := Lib.hid (ends_any w2 vc vr ve vp R k x (hr.below hb2 (Nat.le_refl _)) hb hR)
  have a0 : w2.cell? ⟨w.heap.size, 0, none⟩ = some vc := cellF hnb 0 rfl
  have a1 : w2.cell? ⟨w.heap.size, 1, none⟩ = some vr := cellF hnb 1 rfl
  have a2 : w2.cell? ⟨w.heap.size, 2, none⟩ = some ve := cellF hnb 2 rfl
  have a3 : w2.cell? ⟨w.heap.size, 3, none⟩ = some vp := cellF hnb 3 rfl
  have b0 : w2.cell? ⟨w.heap.size + 1, 0, none⟩ = some (.int .i64 x.ti) := cellF hnx 0 rfl
  have b1 : w2.cell? ⟨w.heap.size + 1, 1, none⟩ = some (.int .i64 x.ve) := cellF hnx 1 rfl
  have b2 : w2.cell? ⟨w.heap.size + 1, 2, none⟩ = some (.int .i64 x.bo) := cellF hnx 2 rfl
  have b3 : w2.cell? ⟨w.heap.size + 1, 3, none⟩ = some (.string x.fr) := cellF hnx 3 rfl
  have b4 : w2.cell? ⟨w.heap.size + 1, 4, none⟩ = some (.int .i64 x.ho) := cellF hnx 4 rfl
  have HF : Hid (∀ W, Below w2.heap.size w2 W → W.cell? ⟨w.heap.size + 1, 0, none⟩ = some (.int .i64 x.ti)) := Lib.hid fun W hb => cellF ((hb.block _ hlt).trans hnx) 0 rfl
  have HW2 := Lib.hid hw2
  have HB2 := Lib.hid hb2
  clear hw2 hb2 hnb hnx hr hR
  generalize lifB R k x false = fa at HV hfa
  generalize lifB R k x true = tr at HV htr
  go_enter Tryz.func15, Tryz.ntmps15
  go_upto_region 1 with (fail)
  rw [← HW2.out]
  go_wp2_with (go_at_call 34; (with_reducible refine HV.out.mono ?_); rintro e w3 ⟨rfl, hb3⟩; have HB3 := Lib.hid (HB2.out.thru hb3); have f0 := HF.out w3 hb3; clear hb3 a0 a1 a2 a3 b0 b1 b2 b3 b4)
  go_wp2_with fail
  go_ret
  exact ⟨rfl, HB3.out⟩
end Go.Proofs.YtgohddfnhofjhaaGreatDoor

/- The reference's within, of chapter 5. -/
namespace Go.Proofs.YtgohddfnhofjhaaGreatDoor
open Go.RowKit

theorem withinE_any (n lo hi : Int) (w : World) :
    Calls Tryz.prog 44 #[.int .i64 n, .int .i64 lo, .int .i64 hi] w fun e w' => e = .returned (.bool (!outB n lo hi)) ∧ w = w' := by
  by_cases h : lo ≤ n
  · go_enter Tryz.func44, Tryz.ntmps44
    go_wp2
    go_ret
    exact ⟨ret_bool (by rw [Bool.eq_iff_iff]; simp [outB]; omega), rfl⟩
  · have h' : decide (lo ≤ n) = false := decide_eq_false h
    go_enter Tryz.func44, Tryz.ntmps44
    go_wp2
    go_ret
    exact ⟨ret_bool (by rw [Bool.eq_iff_iff]; simp [outB]; omega), rfl⟩
end Go.Proofs.YtgohddfnhofjhaaGreatDoor

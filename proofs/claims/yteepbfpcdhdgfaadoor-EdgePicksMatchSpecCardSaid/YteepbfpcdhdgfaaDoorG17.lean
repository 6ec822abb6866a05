/- slices.Equal of strings. -/
import Derived.Test.YteepbfpcdhdgfaaDoorG03
import Derived.Test.YteepbfpcdhdgfaaDoorG12
import Derived.Test.YteepbfpcdhdgfaaDoorG15
import Derived.Test.YteepbfpcdhdgfaaDoorG16
namespace Go.Proofs.YteepbfpcdhdgfaaDoor
open Go.RowKit

/-- Two lists of strings are one. -/
def eqS (l m : List ByteArray) : Bool := decide (l.map ByteArray.toList = m.map ByteArray.toList)
abbrev encQ (s : ByteArray) : List Value := [.string s]
theorem eqS_len {l m : List ByteArray} (h : l.length ≠ m.length) : eqS l m = false := by
  unfold eqS
  rw [decide_eq_false_iff_not]
  intro e
  have := congrArg List.length e
  simp at this
  exact h this
theorem eqS_at {l m : List ByteArray} {i : Nat} {x y : ByteArray} (hx : l[i]? = some x) (hy : m[i]? = some y) (h : (x.toList == y.toList) = false) : eqS l m = false := by
  unfold eqS
  rw [decide_eq_false_iff_not]
  intro e
  have h1 : (l.map ByteArray.toList)[i]? = (m.map ByteArray.toList)[i]? := by rw [e]
  rw [List.getElem?_map, List.getElem?_map, hx, hy] at h1
  simp at h1
  simp [h1] at h
theorem eqS_all {l m : List ByteArray} (hl : l.length = m.length) (h : ∀ (i : Nat) (x y : ByteArray), l[i]? = some x → m[i]? = some y → (x.toList == y.toList) = true) : eqS l m = true := by
  unfold eqS
  rw [decide_eq_true_iff]
  apply List.ext_getElem?
  intro i
  rw [List.getElem?_map, List.getElem?_map]
  by_cases hi : i < l.length
  · have h1 := h i l[i] (m[i]'(by omega)) (by simp [hi]) (by simp)
    rw [List.getElem?_eq_getElem hi, List.getElem?_eq_getElem (by omega)]
    simpa using h1
  · rw [List.getElem?_eq_none (by omega), List.getElem?_eq_none (by omega)]
set_option maxHeartbeats 1000000 in
theorem equalS_any (w : World) (l m : List ByteArray) (v u : Value) (hl : Sl w 1 encQ v l) (hm : Sl w 1 encQ u m) :
    Calls Tryd.prog 13 #[v, u] w fun e w' => e = .returned (.bool (eqS l m)) ∧ Below w.heap.size w w' := by
  obtain ⟨ao, cap, rfl, hcap, hmax, hnil, hel⟩ := hl
  obtain ⟨bo, bap, rfl, hbap, hbax, hbil, hem⟩ := hm
  unfold maxLen at hmax hbax
  by_cases hlm : l.length = m.length
  · have e0 : ((l.length : Int) != (m.length : Int)) = false := by simp [hlm]
    have HA := Lib.hid (fun h => eqS_all hlm h)
    have HAT := Lib.hid (fun (i : Nat) (x y : ByteArray) (hx : l[i]? = some x) (hy : m[i]? = some y) h => eqS_at hx hy h)
    have HLM := Lib.hid hlm
    clear hlm
    go_enter Tryd.func13, Tryd.ntmps13
    go_wp2
    go_loopg [5, 13] l.length (fun gg _ s13 wr => ∃ kk : Nat, kk ≤ l.length ∧ l.length - kk ≤ gg ∧ s13 = .int .i64 kk ∧ (∃ n, wr = w.drewN n) ∧ Aside (∀ (i : Nat) (x y : ByteArray), i < kk → l[i]? = some x → m[i]? = some y → (x.toList == y.toList) = true))
    case atStart => exact ⟨0, Nat.zero_le _, by omega, rfl, ⟨0, rfl⟩, (show Aside _ from fun i x y h => absurd h (Nat.not_lt_zero _))⟩
    case round =>
      obtain ⟨kk, hkk, hg, rfl, ⟨n, rfl⟩, HS⟩ := hrel
      by_cases hlt : kk < l.length
      · have hltz : (kk : Int) < (l.length : Int) := by omega
        have hltm : (kk : Int) < (m.length : Int) := by have := HLM.out; omega
        obtain ⟨x, hx⟩ : ∃ x, l[kk]? = some x := ⟨l[kk], by simp [hlt]⟩
        obtain ⟨y, hy⟩ : ∃ y, m[kk]? = some y := ⟨m[kk]'(by have := HLM.out; omega), by simp⟩
        obtain ⟨b, off, rfl, hc⟩ := hel kk x hx
        obtain ⟨b', off', rfl, hd⟩ := hem kk y hy
        have c0 : w.cell? ⟨b, off + kk, none⟩ = some (.string x) := by simpa using hc 0 _ rfl
        have d0 : w.cell? ⟨b', off' + kk, none⟩ = some (.string y) := by simpa using hd 0 _ rfl
        cases e1 : x.toList == y.toList
        · have hv : Hid (eqS l m = false) := Lib.hid (HAT.out kk x y hx hy e1)
          clear hx hy hc hd hel hem
          go_upto_region 6 with (fail)
          go_quiet (fail)
          go_wp2
          go_ret
          exact ⟨by rw [hv.out]; rfl, below_drewN (below_drewN (Below.refl _ _) _) _⟩
        · have HN : Hid (∀ (i : Nat) (x y : ByteArray), i < kk + 1 → l[i]? = some x → m[i]? = some y → (x.toList == y.toList) = true) := Lib.hid (fun i x' y' hi hx' hy' => by
            by_cases e : i = kk
            · subst e
              rw [hx] at hx'
              rw [hy] at hy'
              cases hx'
              cases hy'
              exact e1
            · exact HS.out i x' y' (by omega) hx' hy')
          clear hx hy hc hd hel hem
          go_upto_region 6 with (fail)
          go_quiet (fail)
          go_wp2
          go_roundg (l.length - (kk + 1))
          case measure => omega
          case rel => exact ⟨kk + 1, by omega, by omega, by go_num, ⟨_, rfl⟩, HN.out⟩
      · have hltz : ¬ (kk : Int) < (l.length : Int) := by omega
        have hv : Hid (eqS l m = true) := Lib.hid (HA.out fun i x y hx hy => HS.out i x y (by have := (List.getElem?_eq_some_iff.1 hx).1; omega) hx hy)
        clear hel hem
        go_wp2
        go_ret
        exact ⟨by rw [hv.out]; rfl, below_drewN (Below.refl _ _) _⟩
  · have e0 : ((l.length : Int) != (m.length : Int)) = true := by simp; omega
    have hv : Hid (eqS l m = false) := Lib.hid (eqS_len hlm)
    clear hlm
    go_enter Tryd.func13, Tryd.ntmps13
    go_wp2
    go_ret
    exact ⟨by rw [hv.out]; rfl, Below.refl _ _⟩
end Go.Proofs.YteepbfpcdhdgfaaDoor

/- pick of the reference: the walk. -/
namespace Go.Proofs.YteepbfpcdhdgfaaDoor
open Go.RowKit

/-- A string from a literal is put in. -/
theorem insS_litI (w : World) (base i : Nat) (l : List ByteArray) (x : ByteArray) (v : Value) (hown : Own w base 9 1 encN v l) (hbase : base ≤ w.heap.size) (hlen : l.length ≤ 1000000) (hi : i ≤ l.length) :
    Calls Tryd.prog 43 #[v, .int .i64 i, .slice (some ⟨w.heap.size, 0, none⟩) 1 1] (w.alloc (.cells #[.string x] 9)) (InsPS base (w.alloc (.cells #[.string x] 9)) (l.take i ++ x :: l.drop i)) :=
  insS_any (w.alloc (.cells #[.string x] 9)) base w.heap.size i l x v (hown.al _) (by simp; omega) hlen hi (block_new w _) (fun a n c hv hb => by
    rcases hown.2 with ⟨h, _⟩ | ⟨g, cap', cur, h, _, hh, _⟩
    · rw [h] at hv; simp at hv
    · rw [h] at hv
      simp only [Value.slice.injEq, Option.some.injEq] at hv
      obtain ⟨rfl, _⟩ := hv
      have := (Array.getElem?_eq_some_iff.1 hh).1
      simp at hb
      omega)
theorem pickR_len (k : ByteArray) (L : List ByteArray) : (pickR k L).length = L.length := by
  unfold pickR
  have : ∀ (L out : List ByteArray), (L.foldl (fun out s => insW k s out) out).length = out.length + L.length := by
    intro L
    induction L with
    | nil => intro out; rfl
    | cons s r ih =>
      intro out
      rw [List.foldl_cons, ih, (insW_perm k s out).length_eq, List.length_cons, List.length_cons]
      omega
  simpa using this L []
theorem pickR_mem {k : ByteArray} {L : List ByteArray} {x : ByteArray} (h : x ∈ pickR k L) : x ∈ L := by
  have : ∀ (L out : List ByteArray), x ∈ L.foldl (fun out s => insW k s out) out → x ∈ out ∨ x ∈ L := by
    intro L
    induction L with
    | nil => intro out h; exact .inl h
    | cons s r ih =>
      intro out h
      rcases ih _ h with h | h
      · rcases List.mem_cons.1 ((insW_perm k s out).subset h) with h | h
        · exact .inr (by rw [h]; exact List.mem_cons_self ..)
        · exact .inl h
      · exact .inr (List.mem_cons_of_mem _ h)
  rcases this L [] h with h | h
  · cases h
  · exact h
set_option maxRecDepth 100000 in
set_option maxHeartbeats 4000000 in
theorem pickR_any (w : World) (L : List ByteArray) (v : Value) (k : ByteArray) (m : Int) (hl : Sl w 1 encN v L) (hn : L.length ≤ 30) (hL : ∀ a, a ∈ L → a.size ≤ 40) (hk : k.size ≤ 300) (hm : 0 ≤ m ∧ m ≤ 30) :
    Calls Tryd.prog 27 #[v, .string k, .int .i64 m] w (SlRet w 1 encN ((pickR k L).take m.toNat)) := by
  obtain ⟨ao, cap, rfl, hcap, hmax, hnil, hel⟩ := hl
  unfold maxLen at hmax
  have HEL := Lib.hid hel
  have HWL := Lib.hid hL
  have HWG := Lib.hid (fun (a : ByteArray) (ha : a.size ≤ 40) W => weightR_any W a k ha hk)
  have HPL := Lib.hid (pickR_len k)
  clear hel hL
  go_enter Tryd.func27, Tryd.ntmps27
  go_wp2_with fail
  go_loopg [7, 9, 10, 13] L.length (fun gg s7 s9 s10 s13 wr => ∃ i : Nat, i ≤ L.length ∧ L.length - i ≤ gg ∧ s13 = .int .i64 i ∧ Aside (Below w.heap.size w wr) ∧ Aside (Own wr w.heap.size 9 1 encN s7 (pickR k (L.take i))))
  case atStart => exact ⟨0, by omega, by omega, rfl, (show Aside _ from Below.refl _ _), (show Aside _ from Own.nil)⟩
  case round =>
    obtain ⟨w1, rfl⟩ : ∃ w1 : World, w1 = wr := ⟨_, rfl⟩
    obtain ⟨i, hi, hgi, rfl, BW, OW⟩ := hrel
    by_cases hil : i < L.length
    · have hiz : (i : Int) < (L.length : Int) := by omega
      obtain ⟨s, hs⟩ : ∃ s, L[i]? = some s := ⟨L[i], by simp [hil]⟩
      obtain ⟨b, off, rfl, hc⟩ := HEL.out i s hs
      have hc0 : w.cell? ⟨b, off + i, none⟩ = some (.string s) := by simpa using hc 0 _ rfl
      have c0 := (BW.out.cell (p := ⟨b, off + i, none⟩) (World.block_lt_of_cell? w _ hc0)).trans hc0
      obtain ⟨O, hO⟩ : ∃ O, O = pickR k (L.take i) := ⟨_, rfl⟩
      have hOL : O.length = i := by rw [hO, HPL.out, List.length_take]; omega
      have HNX : Hid (pickR k (L.take (i + 1)) = insW k s O) := Lib.hid (by rw [take_next hs, pickR_snoc, hO])
      have HOS : Hid (∀ a, a ∈ O → a.size ≤ 40) := Lib.hid (fun a ha => HWL.out a (List.mem_of_mem_take (pickR_mem (by rw [hO] at ha; exact ha))))
      have HSS := Lib.hid (HWL.out s (List.mem_of_getElem? hs))
      have HCUT := Lib.hid (insW_cut k s O)
      rw [← hO] at OW
      have HOL := Lib.hid hOL
      have HOB := Lib.hid OW.out
      have HBW := Lib.hid BW.out
      obtain ⟨xa, xc, P, rfl, hx1, hx2, hx3, hx4⟩ := own_parts encN_len OW.out
      rw [hOL] at hx1 ⊢
      unfold maxLen at hx2
      have HX4 := Lib.hid hx4
      clear hs hc hc0 hO hOL BW OW hx4
      go_wp2_with fail
      go_loopg [10] i (fun gg s10 wr => ∃ j : Nat, j ≤ i ∧ i - j ≤ gg ∧ s10 = .int .i64 j ∧ Aside (Below w1.heap.size w1 wr) ∧ Aside (∀ x, x ∈ O.take j → pkB k s x = true))
      case atStart => exact ⟨0, by omega, by omega, rfl, (show Aside _ from Below.refl _ _), (show Aside _ from fun x hx => by simp at hx)⟩
      case round =>
        obtain ⟨w2, rfl⟩ : ∃ w2 : World, w2 = wr := ⟨_, rfl⟩
        obtain ⟨j, hj, hgj, rfl, B2, AL⟩ := hrel
        have hins := Lib.hid (fun (W : World) (ho : Own W w.heap.size 9 1 encN (.slice xa O.length xc) O) (hb : w.heap.size ≤ W.heap.size) => insS_litI W w.heap.size j O s (.slice xa O.length xc) ho hb (by have := HOL.out; omega) (by have := HOL.out; omega))
        unfold InsPS at hins
        rw [HOL.out] at hins HOB
        by_cases hjl : j < i
        · have hjz : (j : Int) < (i : Int) := by omega
          obtain ⟨x, hx⟩ : ∃ x, O[j]? = some x := ⟨O[j]'(by have := HOL.out; omega), by simp⟩
          obtain ⟨rfl, hP, hcx⟩ := HX4.out j x hx
          have d0 : w1.cell? ⟨P, j, none⟩ = some (.string x) := by simpa using hcx 0 _ rfl
          have d2 := (B2.out.cell (p := ⟨P, j, none⟩) hP).trans d0
          have HW1 := Lib.hid (HWG.out x (HOS.out x (List.mem_of_getElem? hx)))
          have HW2 := Lib.hid (HWG.out s HSS.out)
          have HB2 := Lib.hid B2.out
          have HAL := Lib.hid AL.out
          have hpb : pkB k s x = decide (wgtK s k ≤ wgtK x k) := rfl
          generalize wgtK x k = X1 at HW1 hpb
          generalize wgtK s k = X2 at HW2 hpb
          have HPB := Lib.hid hpb
          have HX := Lib.hid hx
          clear hx hcx B2 AL hpb
          go_wp2_with fail
          refine (HW1.out _).mono ?_
          rintro e w3 ⟨rfl, hb3⟩
          have HB3 := Lib.hid (HB2.out.thru hb3)
          clear hb3
          go_wp2_with fail
          refine (HW2.out _).mono ?_
          rintro e w4 ⟨rfl, hb4⟩
          have HB4 := Lib.hid (HB3.out.thru hb4)
          clear hb4
          by_cases hge : X2 ≤ X1
          · have hgez : (X2 : Int) ≤ (X1 : Int) := by omega
            have HNA : Hid (∀ y, y ∈ O.take (j + 1) → pkB k s y = true) := Lib.hid (fun y hy => by
              rw [take_next HX.out, List.mem_append] at hy
              rcases hy with hy | hy
              · exact HAL.out y hy
              · rw [List.mem_singleton] at hy
                rw [hy, HPB.out]
                exact decide_eq_true hge)
            clear hge
            go_wp2_with fail
            go_roundg (i - (j + 1))
            case measure => omega
            case rel => exact ⟨j + 1, by omega, by omega, by go_num, HB4.out, HNA.out⟩
          · have hgez : ¬ (X2 : Int) ≤ (X1 : Int) := by omega
            have hcut := HCUT.out j (by have := HOL.out; omega) HAL.out (fun y hy => by
              have h1 := HX.out
              rw [hy] at h1
              cases h1
              rw [HPB.out]
              exact decide_eq_false hge)
            have HO4 := Lib.hid (HOB.out.below HB4.out (Nat.le_refl _))
            have HB5 := Lib.hid (HBW.out.thru HB4.out)
            have HI := Lib.hid (hins.out w4 HO4.out HB5.out.size)
            rw [← hcut, ← HNX.out] at HI
            clear hge hcut
            go_wp2_with fail
            refine HI.out.mono ?_
            rintro e w6 ⟨v6, rfl, ho6, hb6⟩
            have HO6 := Lib.hid ho6
            have HB6 := Lib.hid ((HB5.out.alloc HB5.out.size _).trans hb6)
            obtain ⟨ya, yc, rfl, -, -⟩ := Own.slvL encN_len ho6
            clear ho6 hb6
            go_wp2_with fail
            go_roundg (L.length - (i + 1))
            case measure => omega
            case rel => exact ⟨i + 1, by omega, by omega, by go_num, HB6.out, HO6.out⟩
        · obtain rfl : j = i := by omega
          have hcut := HCUT.out j (by have := HOL.out; omega) AL.out (fun y hy => by
            have := (List.getElem?_eq_some_iff.1 hy).1
            have := HOL.out
            omega)
          have HO4 := Lib.hid (HOB.out.below B2.out (Nat.le_refl _))
          have HB5 := Lib.hid (HBW.out.thru B2.out)
          have HI := Lib.hid (hins.out w2 HO4.out HB5.out.size)
          rw [← hcut, ← HNX.out] at HI
          clear hcut B2 AL
          go_wp2_with fail
          refine HI.out.mono ?_
          rintro e w6 ⟨v6, rfl, ho6, hb6⟩
          have HO6 := Lib.hid ho6
          have HB6 := Lib.hid ((HB5.out.alloc HB5.out.size _).trans hb6)
          obtain ⟨ya, yc, rfl, -, -⟩ := Own.slvL encN_len ho6
          clear ho6 hb6
          go_wp2_with fail
          go_roundg (L.length - (j + 1))
          case measure => omega
          case rel => exact ⟨j + 1, by omega, by omega, by go_num, HB6.out, HO6.out⟩
    · obtain rfl : i = L.length := by omega
      rw [List.take_length] at OW
      obtain ⟨xa, xc, rfl, hx1, hx2⟩ := Own.slvL encN_len OW.out
      have HS := Lib.hid (OW.out.sl encN_len)
      have HB := Lib.hid BW.out
      rw [HPL.out] at hx1 ⊢
      clear OW BW
      have HPLL := Lib.hid (HPL.out L)
      obtain ⟨m0, m30⟩ := hm
      go_wp2_with fail
      go_ret
      refine ⟨_, rfl, ?_, HB.out⟩
      have h1 := HS.out.take rfl (min m (L.length : Int)).toNat (by rw [HPLL.out]; omega)
      have h2 : (pickR k L).take m.toNat = (pickR k L).take (min m (L.length : Int)).toNat := by
        have := HPLL.out
        by_cases hml : m ≤ (L.length : Int)
        · rw [show (min m (L.length : Int)).toNat = m.toNat by omega]
        · rw [List.take_of_length_le (by omega), List.take_of_length_le (by omega)]
      rw [h2]
      exact h1
end Go.Proofs.YteepbfpcdhdgfaaDoor

/- The reference's within, of chapter 5. -/
namespace Go.Proofs.YteepbfpcdhdgfaaDoor
open Go.RowKit

theorem withinE_any (n lo hi : Int) (w : World) :
    Calls Tryd.prog 26 #[.int .i64 n, .int .i64 lo, .int .i64 hi] w fun e w' => e = .returned (.bool (!outB n lo hi)) ∧ w = w' := by
  by_cases h : lo ≤ n
  · go_enter Tryd.func26, Tryd.ntmps26
    go_wp2
    go_ret
    exact ⟨ret_bool (by rw [Bool.eq_iff_iff]; simp [outB]; omega), rfl⟩
  · have h' : decide (lo ≤ n) = false := decide_eq_false h
    go_enter Tryd.func26, Tryd.ntmps26
    go_wp2
    go_ret
    exact ⟨ret_bool (by rw [Bool.eq_iff_iff]; simp [outB]; omega), rfl⟩
end Go.Proofs.YteepbfpcdhdgfaaDoor

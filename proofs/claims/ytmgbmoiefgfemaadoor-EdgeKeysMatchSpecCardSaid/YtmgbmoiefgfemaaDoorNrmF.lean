/- pathOf of the reference: the walk. -/
import Derived.Test.YtmgbmoiefgfemaaDoorNrmE
import Derived.Test.YtmgbmoiefgfemaaDoorNrmW
import Derived.Test.YtmgbmoiefgfemaaDoorLibN
import Derived.Test.YtmgbmoiefgfemaaDoorOwnP
namespace Go.Proofs.YtmgbmoiefgfemaaDoor
open Go.RowKit Go.Lib

def ClnP (w : World) (K : List ByteArray) : Ending → World → Prop := fun e w' => ∃ v', e = .returned v' ∧ Own w' w.heap.size 9 1 encS v' K ∧ Below w.heap.size w w'
theorem flatNS (L : List ByteArray) : L.flatMap encS = L.map Value.string := by
  induction L with
  | nil => rfl
  | cons x r ih => rw [List.flatMap_cons, ih]; rfl
theorem ClnP.mk {w w' : World} {K : List ByteArray} {v' : Value} (h1 : w'.ownsRow w.heap.size 9 1 v' K.length (K.map Value.string)) (h2 : Below w.heap.size w w') : ClnP w K (.returned v') w' := ⟨v', rfl, by unfold Own; rw [flatNS]; exact h1, h2⟩
theorem cloneS_any (w : World) (K : List ByteArray) (v : Value) (hl : Sl w 1 encS v K) (hn : K.length * 16 ≤ 140737488355328) :
    Calls Tryd.prog 79 #[v] w (ClnP w K) := by
  obtain ⟨ao, cap, rfl, hcap, hmax, hnil, hel⟩ := hl
  cases ao with
  | none =>
    have h0 : K = [] := List.eq_nil_of_length_eq_zero (by have := hnil rfl; omega)
    subst h0
    refine (Any.slices_Clone_string_nil Tryd.laysClnS 0 cap w).mono ?_
    rintro e w' ⟨rfl, rfl⟩
    exact ClnP.mk ⟨rfl, Or.inl ⟨rfl, rfl⟩⟩ (Below.refl _ _)
  | some a =>
    by_cases h0 : K = []
    · subst h0
      refine (Any.slices_Clone_string_zero Tryd.laysClnS a cap w).mono ?_
      rintro e w' ⟨v', rfl, h1, _, h2⟩
      exact ClnP.mk h1 h2
    · have hp : 0 < K.length := List.length_pos_iff.2 h0
      obtain ⟨b, off, hb, _⟩ := hel 0 K[0] (by simp)
      cases hb
      refine (Any.slices_Clone_string Tryd.laysClnS b off K.length cap K w (Nat.le_refl _) (by omega) (fun j hj => ?_)).mono ?_
      · obtain ⟨b', off', e, hc⟩ := hel j K[j] (by simp [hj])
        cases e
        have := hc 0 _ rfl
        rw [List.getD_eq_getElem?_getD, List.getElem?_eq_getElem hj]
        simpa using this
      · rintro e w' ⟨v', rfl, h1, _, h2⟩
        rw [List.take_length] at h1
        exact ClnP.mk h1 h2
set_option maxRecDepth 100000 in
set_option maxHeartbeats 4000000 in
theorem pathOf_any (s : ByteArray) (w : World) (m : Int) (hs : s.size ≤ 1000) (hm : w.cell? ⟨0, 0, none⟩ = some (.int .i64 m)) (hW2 : 2 ≤ (wordsB s ⟨#[47]⟩).length) (hW : (wordsB s ⟨#[47]⟩).length ≤ 1000) (hw : ∀ x, x ∈ wordsB s ⟨#[47]⟩ → x.size ≤ 1000) :
    Calls Tryd.prog 62 #[.string s] w fun e w' => e = .returned (.string (tidyB ((wordsB s ⟨#[47]⟩).drop 1))) ∧ Below w.heap.size w w' := by
  have HSP := Lib.hid (split_any s ⟨#[47]⟩ m w (by omega) hm (by decide))
  have HM := Lib.hid hm
  obtain ⟨W, hWe⟩ : ∃ W, W = wordsB s ⟨#[47]⟩ := ⟨_, rfl⟩
  rw [← hWe] at hW hW2 hw HSP ⊢
  obtain ⟨U, hU⟩ : ∃ U, U = W := ⟨_, rfl⟩
  have hUL : U.length = (W.drop 1).length + 1 := by rw [hU, List.length_drop]; omega
  have HEL0 : Hid (∀ (k : Nat) (x : ByteArray), (W.drop 1)[k]? = some x → (w.alloc (.cells (U.map Value.string).toArray 9)).cell? ⟨w.heap.size, 1 + k, none⟩ = some (.string x)) := Lib.hid (fun k x hx => by
    rw [List.getElem?_drop] at hx
    rw [cell_of_block (block_new w _), hU]
    simp [hx])
  rw [← hU] at HSP
  have hw2 : ∀ x, x ∈ W.drop 1 → x.size ≤ 1000 := fun x hx => hw x (List.mem_of_mem_drop hx)
  obtain ⟨V, hV⟩ : ∃ V, V = W.drop 1 := ⟨_, rfl⟩
  rw [← hV] at hUL HEL0 hw2 ⊢
  have hVL : V.length ≤ 1000 ∧ 1 ≤ V.length := by rw [hV, List.length_drop]; omega
  have HEL := HEL0
  clear hWe hm hw hs hU hW hW2 hV HEL0
  clear W
  obtain ⟨W, hWV⟩ : ∃ W, W = V := ⟨_, rfl⟩
  rw [← hWV] at hUL HEL hw2 hVL ⊢
  clear hWV
  obtain ⟨hVL, hV1⟩ := hVL
  have HW := Lib.hid hw2
  have HWL := Lib.hid hVL
  have HUL := Lib.hid hUL
  have hWz : (W.length : Int) ≤ 1000 := by omega
  obtain ⟨R, hR⟩ : ∃ R, R = tidyB W := ⟨_, rfl⟩
  rw [← hR]
  have HR := Lib.hid hR
  clear hR hw2
  have HB0 : Hid (Below w.heap.size w (w.alloc (.cells (U.map Value.string).toArray 9))) := Lib.hid ((Below.refl _ _).alloc (Nat.le_refl _) _)
  have HSZ : Hid ((w.alloc (.cells (U.map Value.string).toArray 9)).heap.size = w.heap.size + 1) := Lib.hid (by simp)
  go_enter Tryd.func62, Tryd.ntmps62
  have hu1 : (1 : Int) ≤ (U.length : Int) := by omega
  have hWne : ¬ W = [] := fun e => by rw [e] at hV1; simp at hV1
  go_wp2_with fail
  refine (HSP.out).mono ?_
  rintro e w2 ⟨rfl, rfl⟩
  go_wp2_with fail
  obtain ⟨w2, hw2⟩ : ∃ w2, w2 = w.alloc (.cells (U.map Value.string).toArray 9) := ⟨_, rfl⟩
  rw [← hw2] at HEL HB0 HSZ ⊢
  clear hw2 HSP hWne hUL hu1
  have hA0 : w.heap.size < w2.heap.size := by have := HSZ.out; omega
  go_loopg [3, 4, 6, 12] W.length (fun gg s3 s4 s6 s11 wr => ∃ kk : Nat, kk ≤ W.length ∧ W.length - kk ≤ gg ∧ s11 = .int .i64 kk ∧ s4 = .string (lastL W kk) ∧ Aside (Own wr w2.heap.size 9 1 encS s3 (tidL W kk)) ∧ Aside (Below w2.heap.size w2 wr))
  case atStart => exact ⟨0, Nat.zero_le _, by omega, by go_num, rfl, Own.nil, Below.refl _ _⟩
  case round =>
    obtain ⟨kk, hkk, hg, rfl, rfl, OW, BW⟩ := hrel
    have HOW := Lib.hid OW.out
    have HBW := Lib.hid BW.out
    have hszw := HBW.out.size
    obtain ⟨T, hT⟩ : ∃ T, T = tidL W kk := ⟨_, rfl⟩
    have hTL := tidL_len W kk
    rw [← hT] at HOW hTL
    have HT := Lib.hid hT
    clear hT OW BW
    obtain ⟨ao5, cp5, rfl, hcap5, hmax5, _, _⟩ := Own.sl HOW.out encS_len
    unfold maxLen at hmax5
    by_cases hlt : kk < W.length
    · have hltz : (kk : Int) < (W.length : Int) := by omega
      obtain ⟨x, hx⟩ : ∃ x, W[kk]? = some x := ⟨W[kk], by simp [hlt]⟩
      have c0 : wr.cell? ⟨w.heap.size, 1 + kk, none⟩ = some (.string x) := (HBW.out.cell (p := ⟨w.heap.size, 1 + kk, none⟩) hA0).trans (HEL.out kk x hx)
      have HLN : Hid (lastL W (kk + 1) = x) := Lib.hid (by simp [lastL, List.getD_eq_getElem?_getD, hx])
      have HTN : Hid (tidL W (kk + 1) = tidStep T x) := Lib.hid (by rw [HT.out]; simp [tidL, List.getD_eq_getElem?_getD, hx])
      clear hx
      by_cases e1 : x = ⟨#[]⟩
      · subst e1
        have HN : Hid (tidL W (kk + 1) = T) := Lib.hid (by rw [HTN.out]; simp [tidStep])
        go_wp2
        go_roundg (W.length - (kk + 1))
        case measure => omega
        case rel => exact ⟨kk + 1, by omega, by omega, by go_num, by rw [HLN.out], (show Own _ _ _ _ _ _ _ by rw [HN.out]; exact HOW.out), HBW.out⟩
      by_cases e2 : x = ⟨#[46]⟩
      · subst e2
        have HN : Hid (tidL W (kk + 1) = T) := Lib.hid (by rw [HTN.out]; simp [tidStep])
        go_wp2
        go_roundg (W.length - (kk + 1))
        case measure => omega
        case rel => exact ⟨kk + 1, by omega, by omega, by go_num, by rw [HLN.out], (show Own _ _ _ _ _ _ _ by rw [HN.out]; exact HOW.out), HBW.out⟩
      by_cases e3 : x = ⟨#[46, 46]⟩
      · subst e3
        have HN : Hid (tidL W (kk + 1) = T.take (T.length - 1)) := Lib.hid (by rw [HTN.out]; simp [tidStep])
        by_cases hT0 : T.length = 0
        · have hTz : ¬ (0 : Int) < (T.length : Int) := by omega
          have HN2 : Hid (tidL W (kk + 1) = T) := Lib.hid (by rw [HN.out, List.length_eq_zero_iff.1 hT0]; rfl)
          clear hT0
          go_wp2
          go_roundg (W.length - (kk + 1))
          case measure => omega
          case rel => exact ⟨kk + 1, by omega, by omega, by go_num, by rw [HLN.out], (show Own _ _ _ _ _ _ _ by rw [HN2.out]; exact HOW.out), HBW.out⟩
        · have hTz : (0 : Int) < (T.length : Int) := by omega
          obtain ⟨q, hq⟩ : ∃ q, q = T.length - 1 := ⟨_, rfl⟩
          have hmx : (T.length : Int) - 1 = (q : Int) := by omega
          have hq2 : q ≤ T.length := by omega
          have HQ : Hid (Own wr w2.heap.size 9 1 encS (.slice ao5 q cp5) (T.take (T.length - 1))) := Lib.hid (by rw [← hq]; exact Own.cut encS_len HOW.out q hq2)
          clear hq hT0
          go_wp2
          go_roundg (W.length - (kk + 1))
          case measure => omega
          case rel => exact ⟨kk + 1, by omega, by omega, by go_num, by rw [HLN.out], (show Own _ _ _ _ _ _ _ by rw [HN.out]; exact HQ.out), HBW.out⟩
      · have HN : Hid (tidL W (kk + 1) = T ++ [x]) := Lib.hid (by rw [HTN.out]; simp [tidStep, e1, e2, e3])
        obtain ⟨f1, f2, f3⟩ := str_ne3 e1 e2 e3
        have HK : Hid ((T.length + 1) * 16 ≤ 140737488355328) := Lib.hid (by have := HWL.out; omega)
        clear e1 e2 e3
        have HCL := Lib.hid (cloneS_any wr T _ (HOW.out.sl encS_len) (by have := HWL.out; omega))
        unfold ClnP at HCL
        go_wp2_with fail
        refine HCL.out.mono ?_
        rintro e w4 ⟨v4, rfl, ho4, hb4⟩
        obtain ⟨ca, cc, rfl, -, -⟩ := Own.slvL encS_len ho4
        have HO4 := Lib.hid (Own.rebase ho4 hszw)
        have HB4 := Lib.hid (HBW.out.trans (hb4.mono hszw))
        have hsz4 := HB4.out.size
        clear ho4 hb4
        go_wp2_with (at_builtin; go_loud (refine wpList_push (l := T) rfl _ _ 44 rfl slS rfl rfl x rfl rfl rfl HO4.out rfl HK.out hsz4 ?_; intro v5 w5 ho5 hb5; obtain ⟨ao6, cp6, rfl, hcap6, hmax6, _, _⟩ := Own.sl ho5 encS_len; have HO5 := Lib.hid ho5; have HB5 := Lib.hid (HB4.out.trans hb5); clear ho5 hb5))
        go_roundg (W.length - (kk + 1))
        case measure => omega
        case rel => exact ⟨kk + 1, by omega, by omega, by go_num, by rw [HLN.out], (show Own _ _ _ _ _ _ _ by rw [HN.out]; have h := HO5.out; rw [List.length_append] at h; exact h), HB5.out⟩
    · obtain rfl : kk = W.length := by omega
      have hltz : ¬ (W.length : Int) < (W.length : Int) := by omega
      have HTM := Lib.hid (tidL_mem W W.length (Nat.le_refl _))
      rw [← HT.out] at HTM
      have HJ := Lib.hid (fun v' w' h => join_any T ⟨#[47]⟩ v' w' h (fun x hx => HW.out x (HTM.out x hx)) (by omega) (by decide))
      have HSL := Lib.hid (Own.sl HOW.out encS_len)
      have HR2 : Hid (R = if (decide (0 < T.length) && decide (lastL W W.length = ⟨#[]⟩ ∨ lastL W W.length = ⟨#[46]⟩ ∨ lastL W W.length = ⟨#[46, 46]⟩)) = true then (⟨#[47]⟩ ++ joinB T ⟨#[47]⟩) ++ ⟨#[47]⟩ else ⟨#[47]⟩ ++ joinB T ⟨#[47]⟩) := Lib.hid (by rw [HR.out, HT.out]; rfl)
      have hJs : (joinB T ⟨#[47]⟩).size ≤ 1010000 := by
        have h1 := joinB_len (L := T) (sep := ⟨#[47]⟩) (fun x hx => HW.out x (HTM.out x hx))
        have h2 : (1000 + (⟨#[47]⟩ : ByteArray).size) * T.length ≤ 1010 * 1000 := Nat.mul_le_mul (by decide) (by omega)
        unfold joinB
        rw [mk_size]
        omega
      obtain ⟨y, hy⟩ : ∃ y, y = lastL W W.length := ⟨_, rfl⟩
      rw [← hy] at HR2 ⊢
      obtain ⟨J, hJ⟩ : ∃ J, J = joinB T ⟨#[47]⟩ := ⟨_, rfl⟩
      rw [← hJ] at HR2 HJ hJs
      clear hy hJ
      have hsz1 : ((⟨#[47]⟩ : ByteArray) ++ J).size = 1 + J.size := by rw [ByteArray.size_append]; rfl
      by_cases hT0 : T.length = 0
      · have hTz : ¬ (0 : Int) < (T.length : Int) := by omega
        have HR3 : Hid (⟨#[47]⟩ ++ J = R) := Lib.hid (by rw [HR2.out, hT0]; simp)
        clear hT0
        go_wp2_with (go_at_call 60; refine (HJ.out _ _ HSL.out).mono ?_; rintro e w3 ⟨rfl, hb3⟩; have HB3 := Lib.hid ((HB0.out.trans (HBW.out.mono (by omega))).trans (hb3.mono (by omega))); clear hb3)
        go_ret
        exact ⟨ret_str HR3.out, HB3.out⟩
      have hTz : (0 : Int) < (T.length : Int) := by omega
      by_cases hY : y = ⟨#[]⟩ ∨ y = ⟨#[46]⟩ ∨ y = ⟨#[46, 46]⟩
      · have HR3 : Hid ((⟨#[47]⟩ ++ J) ++ ⟨#[47]⟩ = R) := Lib.hid (by
          rw [HR2.out, if_pos]
          have : 0 < T.length := by omega
          simp [this, hY])
        clear hT0
        rcases hY with rfl | rfl | rfl
        all_goals
          go_wp2_with (go_at_call 60; refine (HJ.out _ _ HSL.out).mono ?_; rintro e w3 ⟨rfl, hb3⟩; have HB3 := Lib.hid ((HB0.out.trans (HBW.out.mono (by omega))).trans (hb3.mono (by omega))); clear hb3)
          go_ret
          exact ⟨ret_str HR3.out, HB3.out⟩
      · have HR3 : Hid (⟨#[47]⟩ ++ J = R) := Lib.hid (by
          rw [HR2.out, if_neg]
          simp [hY])
        simp only [not_or] at hY
        obtain ⟨f1, f2, f3⟩ := str_ne3 hY.1 hY.2.1 hY.2.2
        clear hT0 hY
        go_wp2_with (go_at_call 60; refine (HJ.out _ _ HSL.out).mono ?_; rintro e w3 ⟨rfl, hb3⟩; have HB3 := Lib.hid ((HB0.out.trans (HBW.out.mono (by omega))).trans (hb3.mono (by omega))); clear hb3)
        go_ret
        exact ⟨ret_str HR3.out, HB3.out⟩
end Go.Proofs.YtmgbmoiefgfemaaDoor

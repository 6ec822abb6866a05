/- tidyPath: a path without parts that say nothing. -/
import Derived.Test.YtmgbmoiefgfemaaDoorDec0
import Derived.Test.YtmgbmoiefgfemaaDoorCuts
import Derived.Test.YtmgbmoiefgfemaaDoorShfE
namespace Go.Proofs.YtmgbmoiefgfemaaDoor
open Go.RowKit Go.Lib

def encS (x : ByteArray) : List Value := [.string x]
theorem encS_len (x : ByteArray) : (encS x).length = 1 := rfl
theorem infoS : (Tryd.prog.info? 9).map (fun i => (i.zero, i.size, i.bytes)) = some (some (.string ⟨#[]⟩), 1, 16) := by kernel_rfl
theorem slS : SlT Tryd.prog 44 9 1 16 := by
  obtain ⟨i0, hi, hz0, hz1, hz2⟩ := info_parts infoS
  exact ⟨i0, _, Tryd.underlying44, hi, hz0, hz1, hz2, rfl, by decide, by decide⟩

theorem flatS (L : List ByteArray) : L.flatMap encS = L.map Value.string := by
  induction L with
  | nil => rfl
  | cons x r ih => rw [List.flatMap_cons, ih]; rfl

/-- A slice of the call's own, cut to its first n elements. -/
theorem Own.cut {α : Type} {w : World} {base : Nat} {E : TypeId} {k : Nat} {enc : α → List Value} {ao : Option Addr} {L cap : Nat} {l : List α} (hk : ∀ x, (enc x).length = k) (h : Own w base E k enc (.slice ao L cap) l) (n : Nat) (hn : n ≤ L) : Own w base E k enc (.slice ao n cap) (l.take n) := by
  obtain ⟨h1, h2⟩ := h
  rcases h2 with ⟨h2, h3⟩ | ⟨g, cap', cur, hv, hg, hh, hn', hm, hs, ht⟩
  · simp only [Value.slice.injEq] at h2
    obtain ⟨rfl, rfl, rfl⟩ := h2
    obtain rfl : n = 0 := by omega
    simp only [List.take_zero]
    exact Own.nil
  · simp only [Value.slice.injEq] at hv
    obtain ⟨rfl, rfl, rfl⟩ := hv
    have hl : (l.take n).length = n := by simp; omega
    refine ⟨by rw [flatMap_len hk, hl], .inr ⟨g, cap, cur, by rw [hl], hg, hh, by rw [hl]; omega, hm, hs, ?_⟩⟩
    rw [hl]
    have e : cur.toList.take (n * k) = (cur.toList.take (l.length * k)).take (n * k) := by
      rw [List.take_take]
      congr 1
      have := Nat.mul_le_mul_right k hn
      omega
    rw [e, ht]
    have : l.flatMap enc = (l.take n).flatMap enc ++ (l.drop n).flatMap enc := by rw [← List.flatMap_append, List.take_append_drop]
    rw [this, List.take_left' (by rw [flatMap_len hk, hl])]

def tidStep (L : List ByteArray) (p : ByteArray) : List ByteArray := if p = ⟨#[]⟩ ∨ p = ⟨#[46]⟩ then L else if p = ⟨#[46, 46]⟩ then L.take (L.length - 1) else L ++ [p]
/-- What is left behind the first n parts. -/
def tidL (ps : List ByteArray) : Nat → List ByteArray
  | 0 => []
  | n + 1 => tidStep (tidL ps n) (ps.getD n ⟨#[]⟩)
def lastL (ps : List ByteArray) : Nat → ByteArray
  | 0 => ⟨#[]⟩
  | n + 1 => ps.getD n ⟨#[]⟩
theorem tidL_len (ps : List ByteArray) : ∀ n, (tidL ps n).length ≤ n
  | 0 => Nat.le_refl _
  | n + 1 => by
    have := tidL_len ps n
    unfold tidL tidStep
    split
    · omega
    · split
      · simp; omega
      · simp; omega
theorem tidL_mem (ps : List ByteArray) : ∀ n, n ≤ ps.length → ∀ x, x ∈ tidL ps n → x ∈ ps
  | 0, _, x, h => by simp [tidL] at h
  | n + 1, hn, x, h => by
    have ih := tidL_mem ps n (by omega)
    unfold tidL tidStep at h
    split at h
    · exact ih x h
    · split at h
      · exact ih x (List.mem_of_mem_take h)
      · rw [List.mem_append, List.mem_singleton] at h
        rcases h with h | rfl
        · exact ih x h
        · rw [List.getD_eq_getElem?_getD, List.getElem?_eq_getElem (by omega), Option.getD_some]
          exact List.getElem_mem _
theorem str_ne {x y : ByteArray} (h : ¬ x = y) : (x.toList == y.data.toList) = false := by
  rw [beq_eq_false_iff_ne, ByteArray.toList_eq]
  exact fun e => h (bytes_ext e)
theorem str_ne3 {x : ByteArray} (e1 : ¬ x = ⟨#[]⟩) (e2 : ¬ x = ⟨#[46]⟩) (e3 : ¬ x = ⟨#[46, 46]⟩) : (x.toList == []) = false ∧ (x.toList == [46]) = false ∧ (x.toList == [46, 46]) = false :=
  ⟨str_ne e1, str_ne e2, str_ne e3⟩
def joinB (L : List ByteArray) (sep : ByteArray) : ByteArray := ⟨(Lib.join (L.map (·.data.toList)) sep.data.toList).toArray⟩
def slashB (ps : List ByteArray) : Bool := decide (0 < (tidL ps ps.length).length) && decide (lastL ps ps.length = ⟨#[]⟩ ∨ lastL ps ps.length = ⟨#[46]⟩ ∨ lastL ps ps.length = ⟨#[46, 46]⟩)
/-- The path that tidyPath makes of parts. -/
def tidyB (ps : List ByteArray) : ByteArray := if slashB ps = true then (⟨#[47]⟩ ++ joinB (tidL ps ps.length) ⟨#[47]⟩) ++ ⟨#[47]⟩ else ⟨#[47]⟩ ++ joinB (tidL ps ps.length) ⟨#[47]⟩

theorem split_any (s sep : ByteArray) (m : Int) (w : World) (hs : s.size < 4294967281) (hm : w.cell? ⟨0, 0, none⟩ = some (.int .i64 m)) (h1 : 1 ≤ sep.size) :
    Calls Tryd.prog 53 #[.string s, .string sep] w fun e w' => e = .returned (.slice (some ⟨w.heap.size, 0, none⟩) (wordsB s sep).length (wordsB s sep).length) ∧ w' = w.alloc (.cells ((wordsB s sep).map Value.string).toArray 9) := by
  have h := Tryd.strings_Split s sep m w hs hm h1
  rw [words_length s sep h1]
  exact h
theorem cut_any (s sep : ByteArray) (m : Int) (w : World) (hs : s.size < 4294967281) (hm : w.cell? ⟨0, 0, none⟩ = some (.int .i64 m)) :
    Calls Tryd.prog 52 #[.string s, .string sep] w fun e w' => e = .returned (.tuple #[.string ⟨(Lib.cut s.data.toList sep.data.toList).1.toArray⟩, .string ⟨(Lib.cut s.data.toList sep.data.toList).2.1.toArray⟩, .bool (Lib.cut s.data.toList sep.data.toList).2.2]) ∧ ∃ n, w' = w.drewN n := Tryd.strings_Cut s sep m w hs hm
theorem lens_bound {L : List ByteArray} {n : Nat} (h : ∀ x, x ∈ L → x.size ≤ n) : Lib.lens (L.map (·.data.toList)) ≤ n * L.length := by
  induction L with
  | nil => simp [Lib.lens]
  | cons x r ih =>
    have h1 := ih (fun y hy => h y (by simp [hy]))
    have h2 := h x (by simp)
    rw [size_eq] at h2
    simp only [List.map_cons, List.length_cons, Lib.lens, List.sum_cons] at *
    rw [Nat.mul_succ]
    omega
theorem joinB_len {L : List ByteArray} {sep : ByteArray} {n : Nat} (h : ∀ x, x ∈ L → x.size ≤ n) : (Lib.join (L.map (·.data.toList)) sep.data.toList).length ≤ (n + sep.size) * L.length := by
  cases L with
  | nil => simp [Lib.join_nil]
  | cons x r =>
    have h1 := lens_bound h
    rw [List.map_cons] at h1 ⊢
    rw [Lib.join_length, ← size_eq sep]
    simp only [List.length_map, List.length_cons] at *
    rw [Nat.add_mul, Nat.mul_succ sep.size]
    omega
theorem ret_str {a b : ByteArray} (h : a = b) : Ending.returned (.string a) = .returned (.string b) := by rw [h]
/-- strings.Join of what reads as a list. -/
theorem join_any (L : List ByteArray) (sep : ByteArray) (v : Value) (w : World) (hl : Sl w 1 encS v L) (h : ∀ x, x ∈ L → x.size ≤ 1000) (hL : L.length ≤ 1000) (hs : sep.size ≤ 10) :
    Calls Tryd.prog 60 #[v, .string sep] w fun e w' => e = .returned (.string (joinB L sep)) ∧ Below w.heap.size w w' := by
  obtain ⟨ao, cap, rfl, hcap, hmax, hnil, hel⟩ := hl
  by_cases he : L = []
  · subst he
    refine (Tryd.strings_Join_none ao cap sep w).mono ?_
    rintro e w' ⟨rfl, rfl⟩
    exact ⟨rfl, Below.refl _ _⟩
  · have h0 : 0 < L.length := List.length_pos_iff.2 he
    obtain ⟨b, off, rfl, hc0⟩ := hel 0 L[0] (by simp)
    refine Tryd.strings_Join b off cap L sep w (fun j x hx => ?_) ?_ (by omega) hcap ?_
    · obtain ⟨b', off', e, hc⟩ := hel j x hx
      simp only [Option.some.injEq, Addr.mk.injEq, and_true] at e
      obtain ⟨rfl, rfl⟩ := e
      have := hc 0 _ rfl
      simpa using this
    · exact World.block_lt_of_cell? w _ (hc0 0 _ rfl)
    · have h1 := joinB_len (sep := sep) h
      have h2 : (1000 + sep.size) * L.length ≤ 1010 * 1000 := Nat.mul_le_mul (by omega) hL
      omega

set_option maxRecDepth 100000 in
set_option maxHeartbeats 4000000 in
theorem tidy_any (s : ByteArray) (w : World) (m : Int) (hs : s.size ≤ 1000) (hm : w.cell? ⟨0, 0, none⟩ = some (.int .i64 m)) (hW : (wordsB s ⟨#[47]⟩).length ≤ 1000) (hw : ∀ x, x ∈ wordsB s ⟨#[47]⟩ → x.size ≤ 1000) :
    Calls Tryd.prog 59 #[.string s] w fun e w' => e = .returned (.string (tidyB (wordsB s ⟨#[47]⟩))) ∧ Below w.heap.size w w' := by
  have HSP := Lib.hid (split_any s ⟨#[47]⟩ m w (by omega) hm (by decide))
  have HM := Lib.hid hm
  obtain ⟨W, hWe⟩ : ∃ W, W = wordsB s ⟨#[47]⟩ := ⟨_, rfl⟩
  rw [← hWe] at hW hw HSP ⊢
  have HW := Lib.hid hw
  have HWL := Lib.hid hW
  clear hWe hm hw hs
  have hWz : (W.length : Int) ≤ 1000 := by omega
  obtain ⟨R, hR⟩ : ∃ R, R = tidyB W := ⟨_, rfl⟩
  rw [← hR]
  have HR := Lib.hid hR
  clear hR
  have HSl : Hid (Sl (w.alloc (.cells (W.map Value.string).toArray 9)) 1 encS (.slice (some ⟨w.heap.size, 0, none⟩) W.length W.length) W) := Lib.hid (by
    have h := Sl.fresh encS_len w 9 (0, 0) W (by unfold maxLen; omega)
    rw [flatS] at h
    exact h)
  have HEL : Hid (∀ (k : Nat) (x : ByteArray), W[k]? = some x → (w.alloc (.cells (W.map Value.string).toArray 9)).cell? ⟨w.heap.size, k, none⟩ = some (.string x)) := Lib.hid (fun k x hx => by
    rw [cell_of_block (block_new w _)]
    simp [hx])
  clear HSl
  have HB0 : Hid (Below w.heap.size w (w.alloc (.cells (W.map Value.string).toArray 9))) := Lib.hid ((Below.refl _ _).alloc (Nat.le_refl _) _)
  have HSZ : Hid ((w.alloc (.cells (W.map Value.string).toArray 9)).heap.size = w.heap.size + 1) := Lib.hid (by simp)
  go_enter Tryd.func59, Tryd.ntmps59
  go_wp2_with (go_at_call 53; refine (HSP.out).mono ?_; rintro e w2 ⟨rfl, rfl⟩)
  obtain ⟨w2, hw2⟩ : ∃ w2, w2 = w.alloc (.cells (W.map Value.string).toArray 9) := ⟨_, rfl⟩
  rw [← hw2] at HEL HB0 HSZ ⊢
  clear hw2 HSP
  have hA0 : w.heap.size < w2.heap.size := by have := HSZ.out; omega
  go_loopg [3, 4, 11] W.length (fun gg s3 s4 s11 wr => ∃ kk : Nat, kk ≤ W.length ∧ W.length - kk ≤ gg ∧ s11 = .int .i64 kk ∧ s4 = .string (lastL W kk) ∧ Aside (Own wr w2.heap.size 9 1 encS s3 (tidL W kk)) ∧ Aside (Below w2.heap.size w2 wr))
  case atStart => exact ⟨0, Nat.zero_le _, by omega, by go_num, rfl, Own.nil, Below.refl _ _⟩
  case round =>
    obtain ⟨kk, hkk, hg, rfl, rfl, OW, BW⟩ := hrel
    have HOW := Lib.hid OW.out
    have HBW := Lib.hid BW.out
    have hszw := HBW.out.size
    obtain ⟨T, hT⟩ : ∃ T, T = tidL W kk := ⟨_, rfl⟩
    have hTL := tidL_len W kk
    rw [← hT] at HOW hTL
    have HT := Lib.hid hT
    clear hT OW BW
    obtain ⟨ao5, cp5, rfl, hcap5, hmax5, _, _⟩ := Own.sl HOW.out encS_len
    unfold maxLen at hmax5
    by_cases hlt : kk < W.length
    · have hltz : (kk : Int) < (W.length : Int) := by omega
      obtain ⟨x, hx⟩ : ∃ x, W[kk]? = some x := ⟨W[kk], by simp [hlt]⟩
      have c0 : wr.cell? ⟨w.heap.size, kk, none⟩ = some (.string x) := (HBW.out.cell (p := ⟨w.heap.size, kk, none⟩) hA0).trans (HEL.out kk x hx)
      have HLN : Hid (lastL W (kk + 1) = x) := Lib.hid (by simp [lastL, List.getD_eq_getElem?_getD, hx])
      have HTN : Hid (tidL W (kk + 1) = tidStep T x) := Lib.hid (by rw [HT.out]; simp [tidL, List.getD_eq_getElem?_getD, hx])
      clear hx
      by_cases e1 : x = ⟨#[]⟩
      · subst e1
        have HN : Hid (tidL W (kk + 1) = T) := Lib.hid (by rw [HTN.out]; simp [tidStep])
        go_wp2
        go_roundg (W.length - (kk + 1))
        case measure => omega
        case rel => exact ⟨kk + 1, by omega, by omega, by go_num, by rw [HLN.out], (show Own _ _ _ _ _ _ _ by rw [HN.out]; exact HOW.out), HBW.out⟩
      by_cases e2 : x = ⟨#[46]⟩
      · subst e2
        have HN : Hid (tidL W (kk + 1) = T) := Lib.hid (by rw [HTN.out]; simp [tidStep])
        go_wp2
        go_roundg (W.length - (kk + 1))
        case measure => omega
        case rel => exact ⟨kk + 1, by omega, by omega, by go_num, by rw [HLN.out], (show Own _ _ _ _ _ _ _ by rw [HN.out]; exact HOW.out), HBW.out⟩
      by_cases e3 : x = ⟨#[46, 46]⟩
      · subst e3
        have HN : Hid (tidL W (kk + 1) = T.take (T.length - 1)) := Lib.hid (by rw [HTN.out]; simp [tidStep])
        obtain ⟨q, hq⟩ : ∃ q, q = T.length - 1 := ⟨_, rfl⟩
        have hmx : max 0 ((T.length : Int) - 1) = (q : Int) := by omega
        have hq2 : q ≤ T.length := by omega
        have HQ : Hid (Own wr w2.heap.size 9 1 encS (.slice ao5 q cp5) (T.take (T.length - 1))) := Lib.hid (by rw [← hq]; exact Own.cut encS_len HOW.out q hq2)
        clear hq
        go_wp2
        go_roundg (W.length - (kk + 1))
        case measure => omega
        case rel => exact ⟨kk + 1, by omega, by omega, by go_num, by rw [HLN.out], (show Own _ _ _ _ _ _ _ by rw [HN.out]; exact HQ.out), HBW.out⟩
      · have HN : Hid (tidL W (kk + 1) = T ++ [x]) := Lib.hid (by rw [HTN.out]; simp [tidStep, e1, e2, e3])
        obtain ⟨f1, f2, f3⟩ := str_ne3 e1 e2 e3
        have HK : Hid ((T.length + 1) * 16 ≤ 140737488355328) := Lib.hid (by have := HWL.out; omega)
        clear e1 e2 e3
        go_wp2_with (at_builtin; refine wpList_push rfl _ _ 44 rfl slS rfl rfl x rfl rfl rfl HOW.out rfl HK.out hszw ?_; intro v5 w5 ho5 hb5; obtain ⟨ao6, cp6, rfl, hcap6, hmax6, _, _⟩ := Own.sl ho5 encS_len; have HO5 := Lib.hid ho5; have HB5 := Lib.hid (HBW.out.trans hb5); clear ho5 hb5)
        go_roundg (W.length - (kk + 1))
        case measure => omega
        case rel => exact ⟨kk + 1, by omega, by omega, by go_num, by rw [HLN.out], (show Own _ _ _ _ _ _ _ by rw [HN.out]; have h := HO5.out; rw [List.length_append] at h; exact h), HB5.out⟩
    · obtain rfl : kk = W.length := by omega
      have hltz : ¬ (W.length : Int) < (W.length : Int) := by omega
      have HTM := Lib.hid (tidL_mem W W.length (Nat.le_refl _))
      rw [← HT.out] at HTM
      have HJ := Lib.hid (fun v' w' h => join_any T ⟨#[47]⟩ v' w' h (fun x hx => HW.out x (HTM.out x hx)) (by omega) (by decide))
      have HSL := Lib.hid (Own.sl HOW.out encS_len)
      have HR2 : Hid (R = if (decide (0 < T.length) && decide (lastL W W.length = ⟨#[]⟩ ∨ lastL W W.length = ⟨#[46]⟩ ∨ lastL W W.length = ⟨#[46, 46]⟩)) = true then (⟨#[47]⟩ ++ joinB T ⟨#[47]⟩) ++ ⟨#[47]⟩ else ⟨#[47]⟩ ++ joinB T ⟨#[47]⟩) := Lib.hid (by rw [HR.out, HT.out]; rfl)
      have hJs : (joinB T ⟨#[47]⟩).size ≤ 1010000 := by
        have h1 := joinB_len (L := T) (sep := ⟨#[47]⟩) (fun x hx => HW.out x (HTM.out x hx))
        have h2 : (1000 + (⟨#[47]⟩ : ByteArray).size) * T.length ≤ 1010 * 1000 := Nat.mul_le_mul (by decide) (by omega)
        unfold joinB
        rw [mk_size]
        omega
      obtain ⟨y, hy⟩ : ∃ y, y = lastL W W.length := ⟨_, rfl⟩
      rw [← hy] at HR2 ⊢
      obtain ⟨J, hJ⟩ : ∃ J, J = joinB T ⟨#[47]⟩ := ⟨_, rfl⟩
      rw [← hJ] at HR2 HJ hJs
      clear hy hJ
      have hsz1 : ((⟨#[47]⟩ : ByteArray) ++ J).size = 1 + J.size := by rw [ByteArray.size_append]; rfl
      by_cases hT0 : T.length = 0
      · have hTz : ¬ (0 : Int) < (T.length : Int) := by omega
        have HR3 : Hid (⟨#[47]⟩ ++ J = R) := Lib.hid (by rw [HR2.out, hT0]; simp)
        clear hT0
        go_wp2_with (go_at_call 60; refine (HJ.out _ _ HSL.out).mono ?_; rintro e w3 ⟨rfl, hb3⟩; have HB3 := Lib.hid ((HB0.out.trans (HBW.out.mono (by omega))).trans (hb3.mono (by omega))); clear hb3)
        go_ret
        exact ⟨ret_str HR3.out, HB3.out⟩
      have hTz : (0 : Int) < (T.length : Int) := by omega
      by_cases hY : y = ⟨#[]⟩ ∨ y = ⟨#[46]⟩ ∨ y = ⟨#[46, 46]⟩
      · have HR3 : Hid ((⟨#[47]⟩ ++ J) ++ ⟨#[47]⟩ = R) := Lib.hid (by
          rw [HR2.out, if_pos]
          have : 0 < T.length := by omega
          simp [this, hY])
        clear hT0
        rcases hY with rfl | rfl | rfl
        all_goals
          go_wp2_with (go_at_call 60; refine (HJ.out _ _ HSL.out).mono ?_; rintro e w3 ⟨rfl, hb3⟩; have HB3 := Lib.hid ((HB0.out.trans (HBW.out.mono (by omega))).trans (hb3.mono (by omega))); clear hb3)
          go_ret
          exact ⟨ret_str HR3.out, HB3.out⟩
      · have HR3 : Hid (⟨#[47]⟩ ++ J = R) := Lib.hid (by
          rw [HR2.out, if_neg]
          simp [hY])
        simp only [not_or] at hY
        obtain ⟨f1, f2, f3⟩ := str_ne3 hY.1 hY.2.1 hY.2.2
        clear hT0 hY
        go_wp2_with (go_at_call 60; refine (HJ.out _ _ HSL.out).mono ?_; rintro e w3 ⟨rfl, hb3⟩; have HB3 := Lib.hid ((HB0.out.trans (HBW.out.mono (by omega))).trans (hb3.mono (by omega))); clear hb3)
        go_ret
        exact ⟨ret_str HR3.out, HB3.out⟩
end Go.Proofs.YtmgbmoiefgfemaaDoor

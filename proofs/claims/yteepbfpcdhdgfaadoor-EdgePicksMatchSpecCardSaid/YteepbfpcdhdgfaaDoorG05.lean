/- tidyPath: a path without parts that say nothing. -/
import Derived.Test.YteepbfpcdhdgfaaDoorG04
import Derived.Test.YteepbfpcdhdgfaaDoorG01
import Derived.Test.YteepbfpcdhdgfaaDoorG03
import Derived.Laws.Bits64b
namespace Go.Proofs.YteepbfpcdhdgfaaDoor
open Go.RowKit Go.Lib

def encS (x : ByteArray) : List Value := [.string x]
theorem encS_len (x : ByteArray) : (encS x).length = 1 := rfl
theorem infoS : (Tryd.prog.info? 9).map (fun i => (i.zero, i.size, i.bytes)) = some (some (.string ⟨#[]⟩), 1, 16) := by kernel_rfl
theorem slS : SlT Tryd.prog 22 9 1 16 := by
  obtain ⟨i0, hi, hz0, hz1, hz2⟩ := info_parts infoS
  exact ⟨i0, _, Tryd.underlying22, hi, hz0, hz1, hz2, rfl, by decide, by decide⟩

theorem flatS (L : List ByteArray) : L.flatMap encS = L.map Value.string := by
  induction L with
  | nil => rfl
  | cons x r ih => rw [List.flatMap_cons, ih]; rfl

/-- A slice of the call's own, cut to its first n elements. -/
theorem Own.cut {α : Type} {w : World} {base : Nat} {E : TypeId} {k : Nat} {enc : α → List Value} {ao : Option Addr} {L cap : Nat} {l : List α} (hk : ∀ x, (enc x).length = k) (h : Own w base E k enc (.slice ao L cap) l) (n : Nat) (hn : n ≤ L) : Own w base E k enc (.slice ao n cap) (l.take n) := by
  obtain ⟨h1, h2⟩ := h
  rcases h2 with ⟨h2, h3⟩ | ⟨g, cap', cur, hv, hg, hh, hn', hm, hs, ht⟩
  · simp only [Value.slice.injEq] at h2
    obtain ⟨rfl, rfl, rfl⟩ := h2
    obtain rfl : n = 0 := by omega
    simp only [List.take_zero]
    exact Own.nil
  · simp only [Value.slice.injEq] at hv
    obtain ⟨rfl, rfl, rfl⟩ := hv
    have hl : (l.take n).length = n := by simp; omega
    refine ⟨by rw [flatMap_len hk, hl], .inr ⟨g, cap, cur, by rw [hl], hg, hh, by rw [hl]; omega, hm, hs, ?_⟩⟩
    rw [hl]
    have e : cur.toList.take (n * k) = (cur.toList.take (l.length * k)).take (n * k) := by
      rw [List.take_take]
      congr 1
      have := Nat.mul_le_mul_right k hn
      omega
    rw [e, ht]
    have : l.flatMap enc = (l.take n).flatMap enc ++ (l.drop n).flatMap enc := by rw [← List.flatMap_append, List.take_append_drop]
    rw [this, List.take_left' (by rw [flatMap_len hk, hl])]

def tidStep (L : List ByteArray) (p : ByteArray) : List ByteArray := if p = ⟨#[]⟩ ∨ p = ⟨#[46]⟩ then L else if p = ⟨#[46, 46]⟩ then L.take (L.length - 1) else L ++ [p]
/-- What is left behind the first n parts. -/
def tidL (ps : List ByteArray) : Nat → List ByteArray
  | 0 => []
  | n + 1 => tidStep (tidL ps n) (ps.getD n ⟨#[]⟩)
def lastL (ps : List ByteArray) : Nat → ByteArray
  | 0 => ⟨#[]⟩
  | n + 1 => ps.getD n ⟨#[]⟩
theorem tidL_len (ps : List ByteArray) : ∀ n, (tidL ps n).length ≤ n
  | 0 => Nat.le_refl _
  | n + 1 => by
    have := tidL_len ps n
    unfold tidL tidStep
    split
    · omega
    · split
      · simp; omega
      · simp; omega
theorem tidL_mem (ps : List ByteArray) : ∀ n, n ≤ ps.length → ∀ x, x ∈ tidL ps n → x ∈ ps
  | 0, _, x, h => by simp [tidL] at h
  | n + 1, hn, x, h => by
    have ih := tidL_mem ps n (by omega)
    unfold tidL tidStep at h
    split at h
    · exact ih x h
    · split at h
      · exact ih x (List.mem_of_mem_take h)
      · rw [List.mem_append, List.mem_singleton] at h
        rcases h with h | rfl
        · exact ih x h
        · rw [List.getD_eq_getElem?_getD, List.getElem?_eq_getElem (by omega), Option.getD_some]
          exact List.getElem_mem _
theorem str_ne {x y : ByteArray} (h : ¬ x = y) : (x.toList == y.data.toList) = false := by
  rw [beq_eq_false_iff_ne, ByteArray.toList_eq]
  exact fun e => h (bytes_ext e)
theorem str_ne3 {x : ByteArray} (e1 : ¬ x = ⟨#[]⟩) (e2 : ¬ x = ⟨#[46]⟩) (e3 : ¬ x = ⟨#[46, 46]⟩) : (x.toList == []) = false ∧ (x.toList == [46]) = false ∧ (x.toList == [46, 46]) = false :=
  ⟨str_ne e1, str_ne e2, str_ne e3⟩
def joinB (L : List ByteArray) (sep : ByteArray) : ByteArray := ⟨(Lib.join (L.map (·.data.toList)) sep.data.toList).toArray⟩
def slashB (ps : List ByteArray) : Bool := decide (0 < (tidL ps ps.length).length) && decide (lastL ps ps.length = ⟨#[]⟩ ∨ lastL ps ps.length = ⟨#[46]⟩ ∨ lastL ps ps.length = ⟨#[46, 46]⟩)
/-- The path that tidyPath makes of parts. -/
def tidyB (ps : List ByteArray) : ByteArray := if slashB ps = true then (⟨#[47]⟩ ++ joinB (tidL ps ps.length) ⟨#[47]⟩) ++ ⟨#[47]⟩ else ⟨#[47]⟩ ++ joinB (tidL ps ps.length) ⟨#[47]⟩

theorem split_any (s sep : ByteArray) (m : Int) (w : World) (hs : s.size < 4294967281) (hm : w.cell? ⟨0, 0, none⟩ = some (.int .i64 m)) (h1 : 1 ≤ sep.size) :
    Calls Tryd.prog 31 #[.string s, .string sep] w fun e w' => e = .returned (.slice (some ⟨w.heap.size, 0, none⟩) (wordsB s sep).length (wordsB s sep).length) ∧ w' = w.alloc (.cells ((wordsB s sep).map Value.string).toArray 9) := by
  have h := Tryd.strings_Split s sep m w hs hm h1
  rw [words_length s sep h1]
  exact h
theorem cut_any (s sep : ByteArray) (m : Int) (w : World) (hs : s.size < 4294967281) (hm : w.cell? ⟨0, 0, none⟩ = some (.int .i64 m)) :
    Calls Tryd.prog 30 #[.string s, .string sep] w fun e w' => e = .returned (.tuple #[.string ⟨(Lib.cut s.data.toList sep.data.toList).1.toArray⟩, .string ⟨(Lib.cut s.data.toList sep.data.toList).2.1.toArray⟩, .bool (Lib.cut s.data.toList sep.data.toList).2.2]) ∧ ∃ n, w' = w.drewN n := Tryd.strings_Cut s sep m w hs hm
theorem lens_bound {L : List ByteArray} {n : Nat} (h : ∀ x, x ∈ L → x.size ≤ n) : Lib.lens (L.map (·.data.toList)) ≤ n * L.length := by
  induction L with
  | nil => simp [Lib.lens]
  | cons x r ih =>
    have h1 := ih (fun y hy => h y (by simp [hy]))
    have h2 := h x (by simp)
    rw [size_eq] at h2
    simp only [List.map_cons, List.length_cons, Lib.lens, List.sum_cons] at *
    rw [Nat.mul_succ]
    omega
theorem joinB_len {L : List ByteArray} {sep : ByteArray} {n : Nat} (h : ∀ x, x ∈ L → x.size ≤ n) : (Lib.join (L.map (·.data.toList)) sep.data.toList).length ≤ (n + sep.size) * L.length := by
  cases L with
  | nil => simp [Lib.join_nil]
  | cons x r =>
    have h1 := lens_bound h
    rw [List.map_cons] at h1 ⊢
    rw [Lib.join_length, ← size_eq sep]
    simp only [List.length_map, List.length_cons] at *
    rw [Nat.add_mul, Nat.mul_succ sep.size]
    omega
theorem ret_str {a b : ByteArray} (h : a = b) : Ending.returned (.string a) = .returned (.string b) := by rw [h]
/-- strings.Join of what reads as a list. -/
theorem join_any (L : List ByteArray) (sep : ByteArray) (v : Value) (w : World) (hl : Sl w 1 encS v L) (h : ∀ x, x ∈ L → x.size ≤ 1000) (hL : L.length ≤ 1000) (hs : sep.size ≤ 10) :
    Calls Tryd.prog 38 #[v, .string sep] w fun e w' => e = .returned (.string (joinB L sep)) ∧ Below w.heap.size w w' := by
  obtain ⟨ao, cap, rfl, hcap, hmax, hnil, hel⟩ := hl
  by_cases he : L = []
  · subst he
    refine (Tryd.strings_Join_none ao cap sep w).mono ?_
    rintro e w' ⟨rfl, rfl⟩
    exact ⟨rfl, Below.refl _ _⟩
  · have h0 : 0 < L.length := List.length_pos_iff.2 he
    obtain ⟨b, off, rfl, hc0⟩ := hel 0 L[0] (by simp)
    refine Tryd.strings_Join b off cap L sep w (fun j x hx => ?_) ?_ (by omega) hcap ?_
    · obtain ⟨b', off', e, hc⟩ := hel j x hx
      simp only [Option.some.injEq, Addr.mk.injEq, and_true] at e
      obtain ⟨rfl, rfl⟩ := e
      have := hc 0 _ rfl
      simpa using this
    · exact World.block_lt_of_cell? w _ (hc0 0 _ rfl)
    · have h1 := joinB_len (sep := sep) h
      have h2 : (1000 + sep.size) * L.length ≤ 1010 * 1000 := Nat.mul_le_mul (by omega) hL
      omega

set_option maxRecDepth 100000 in
set_option maxHeartbeats 4000000 in
theorem tidy_any (s : ByteArray) (w : World) (m : Int) (hs : s.size ≤ 1000) (hm : w.cell? ⟨0, 0, none⟩ = some (.int .i64 m)) (hW : (wordsB s ⟨#[47]⟩).length ≤ 1000) (hw : ∀ x, x ∈ wordsB s ⟨#[47]⟩ → x.size ≤ 1000) :
    Calls Tryd.prog 37 #[.string s] w fun e w' => e = .returned (.string (tidyB (wordsB s ⟨#[47]⟩))) ∧ Below w.heap.size w w' := by
  have HSP := Lib.hid (split_any s ⟨#[47]⟩ m w (by omega) hm (by decide))
  have HM := Lib.hid hm
  obtain ⟨W, hWe⟩ : ∃ W, W = wordsB s ⟨#[47]⟩ := ⟨_, rfl⟩
  rw [← hWe] at hW hw HSP ⊢
  have HW := Lib.hid hw
  have HWL := Lib.hid hW
  clear hWe hm hw hs
  have hWz : (W.length : Int) ≤ 1000 := by omega
  obtain ⟨R, hR⟩ : ∃ R, R = tidyB W := ⟨_, rfl⟩
  rw [← hR]
  have HR := Lib.hid hR
  clear hR
  have HSl : Hid (Sl (w.alloc (.cells (W.map Value.string).toArray 9)) 1 encS (.slice (some ⟨w.heap.size, 0, none⟩) W.length W.length) W) := Lib.hid (by
    have h := Sl.fresh encS_len w 9 (0, 0) W (by unfold maxLen; omega)
    rw [flatS] at h
    exact h)
  have HEL : Hid (∀ (k : Nat) (x : ByteArray), W[k]? = some x → (w.alloc (.cells (W.map Value.string).toArray 9)).cell? ⟨w.heap.size, k, none⟩ = some (.string x)) := Lib.hid (fun k x hx => by
    rw [cell_of_block (block_new w _)]
    simp [hx])
  clear HSl
  have HB0 : Hid (Below w.heap.size w (w.alloc (.cells (W.map Value.string).toArray 9))) := Lib.hid ((Below.refl _ _).alloc (Nat.le_refl _) _)
  have HSZ : Hid ((w.alloc (.cells (W.map Value.string).toArray 9)).heap.size = w.heap.size + 1) := Lib.hid (by simp)
  go_enter Tryd.func37, Tryd.ntmps37
  go_wp2_with (go_at_call 31; refine (HSP.out).mono ?_; rintro e w2 ⟨rfl, rfl⟩)
  obtain ⟨w2, hw2⟩ : ∃ w2, w2 = w.alloc (.cells (W.map Value.string).toArray 9) := ⟨_, rfl⟩
  rw [← hw2] at HEL HB0 HSZ ⊢
  clear hw2 HSP
  have hA0 : w.heap.size < w2.heap.size := by have := HSZ.out; omega
  go_loopg [3, 4, 11] W.length (fun gg s3 s4 s11 wr => ∃ kk : Nat, kk ≤ W.length ∧ W.length - kk ≤ gg ∧ s11 = .int .i64 kk ∧ s4 = .string (lastL W kk) ∧ Aside (Own wr w2.heap.size 9 1 encS s3 (tidL W kk)) ∧ Aside (Below w2.heap.size w2 wr))
  case atStart => exact ⟨0, Nat.zero_le _, by omega, by go_num, rfl, Own.nil, Below.refl _ _⟩
  case round =>
    obtain ⟨kk, hkk, hg, rfl, rfl, OW, BW⟩ := hrel
    have HOW := Lib.hid OW.out
    have HBW := Lib.hid BW.out
    have hszw := HBW.out.size
    obtain ⟨T, hT⟩ : ∃ T, T = tidL W kk := ⟨_, rfl⟩
    have hTL := tidL_len W kk
    rw [← hT] at HOW hTL
    have HT := Lib.hid hT
    clear hT OW BW
    obtain ⟨ao5, cp5, rfl, hcap5, hmax5, _, _⟩ := Own.sl HOW.out encS_len
    unfold maxLen at hmax5
    by_cases hlt : kk < W.length
    · have hltz : (kk : Int) < (W.length : Int) := by omega
      obtain ⟨x, hx⟩ : ∃ x, W[kk]? = some x := ⟨W[kk], by simp [hlt]⟩
      have c0 : wr.cell? ⟨w.heap.size, kk, none⟩ = some (.string x) := (HBW.out.cell (p := ⟨w.heap.size, kk, none⟩) hA0).trans (HEL.out kk x hx)
      have HLN : Hid (lastL W (kk + 1) = x) := Lib.hid (by simp [lastL, List.getD_eq_getElem?_getD, hx])
      have HTN : Hid (tidL W (kk + 1) = tidStep T x) := Lib.hid (by rw [HT.out]; simp [tidL, List.getD_eq_getElem?_getD, hx])
      clear hx
      by_cases e1 : x = ⟨#[]⟩
      · subst e1
        have HN : Hid (tidL W (kk + 1) = T) := Lib.hid (by rw [HTN.out]; simp [tidStep])
        go_wp2
        go_roundg (W.length - (kk + 1))
        case measure => omega
        case rel => exact ⟨kk + 1, by omega, by omega, by go_num, by rw [HLN.out], (show Own _ _ _ _ _ _ _ by rw [HN.out]; exact HOW.out), HBW.out⟩
      by_cases e2 : x = ⟨#[46]⟩
      · subst e2
        have HN : Hid (tidL W (kk + 1) = T) := Lib.hid (by rw [HTN.out]; simp [tidStep])
        go_wp2
        go_roundg (W.length - (kk + 1))
        case measure => omega
        case rel => exact ⟨kk + 1, by omega, by omega, by go_num, by rw [HLN.out], (show Own _ _ _ _ _ _ _ by rw [HN.out]; exact HOW.out), HBW.out⟩
      by_cases e3 : x = ⟨#[46, 46]⟩
      · subst e3
        have HN : Hid (tidL W (kk + 1) = T.take (T.length - 1)) := Lib.hid (by rw [HTN.out]; simp [tidStep])
        obtain ⟨q, hq⟩ : ∃ q, q = T.length - 1 := ⟨_, rfl⟩
        have hmx : max 0 ((T.length : Int) - 1) = (q : Int) := by omega
        have hq2 : q ≤ T.length := by omega
        have HQ : Hid (Own wr w2.heap.size 9 1 encS (.slice ao5 q cp5) (T.take (T.length - 1))) := Lib.hid (by rw [← hq]; exact Own.cut encS_len HOW.out q hq2)
        clear hq
        go_wp2
        go_roundg (W.length - (kk + 1))
        case measure => omega
        case rel => exact ⟨kk + 1, by omega, by omega, by go_num, by rw [HLN.out], (show Own _ _ _ _ _ _ _ by rw [HN.out]; exact HQ.out), HBW.out⟩
      · have HN : Hid (tidL W (kk + 1) = T ++ [x]) := Lib.hid (by rw [HTN.out]; simp [tidStep, e1, e2, e3])
        obtain ⟨f1, f2, f3⟩ := str_ne3 e1 e2 e3
        have HK : Hid ((T.length + 1) * 16 ≤ 140737488355328) := Lib.hid (by have := HWL.out; omega)
        clear e1 e2 e3
        go_wp2_with (at_builtin; refine wpList_push rfl _ _ 22 rfl slS rfl rfl x rfl rfl rfl HOW.out rfl HK.out hszw ?_; intro v5 w5 ho5 hb5; obtain ⟨ao6, cp6, rfl, hcap6, hmax6, _, _⟩ := Own.sl ho5 encS_len; have HO5 := Lib.hid ho5; have HB5 := Lib.hid (HBW.out.trans hb5); clear ho5 hb5)
        go_roundg (W.length - (kk + 1))
        case measure => omega
        case rel => exact ⟨kk + 1, by omega, by omega, by go_num, by rw [HLN.out], (show Own _ _ _ _ _ _ _ by rw [HN.out]; have h := HO5.out; rw [List.length_append] at h; exact h), HB5.out⟩
    · obtain rfl : kk = W.length := by omega
      have hltz : ¬ (W.length : Int) < (W.length : Int) := by omega
      have HTM := Lib.hid (tidL_mem W W.length (Nat.le_refl _))
      rw [← HT.out] at HTM
      have HJ := Lib.hid (fun v' w' h => join_any T ⟨#[47]⟩ v' w' h (fun x hx => HW.out x (HTM.out x hx)) (by omega) (by decide))
      have HSL := Lib.hid (Own.sl HOW.out encS_len)
      have HR2 : Hid (R = if (decide (0 < T.length) && decide (lastL W W.length = ⟨#[]⟩ ∨ lastL W W.length = ⟨#[46]⟩ ∨ lastL W W.length = ⟨#[46, 46]⟩)) = true then (⟨#[47]⟩ ++ joinB T ⟨#[47]⟩) ++ ⟨#[47]⟩ else ⟨#[47]⟩ ++ joinB T ⟨#[47]⟩) := Lib.hid (by rw [HR.out, HT.out]; rfl)
      have hJs : (joinB T ⟨#[47]⟩).size ≤ 1010000 := by
        have h1 := joinB_len (L := T) (sep := ⟨#[47]⟩) (fun x hx => HW.out x (HTM.out x hx))
        have h2 : (1000 + (⟨#[47]⟩ : ByteArray).size) * T.length ≤ 1010 * 1000 := Nat.mul_le_mul (by decide) (by omega)
        unfold joinB
        rw [mk_size]
        omega
      obtain ⟨y, hy⟩ : ∃ y, y = lastL W W.length := ⟨_, rfl⟩
      rw [← hy] at HR2 ⊢
      obtain ⟨J, hJ⟩ : ∃ J, J = joinB T ⟨#[47]⟩ := ⟨_, rfl⟩
      rw [← hJ] at HR2 HJ hJs
      clear hy hJ
      have hsz1 : ((⟨#[47]⟩ : ByteArray) ++ J).size = 1 + J.size := by rw [ByteArray.size_append]; rfl
      by_cases hT0 : T.length = 0
      · have hTz : ¬ (0 : Int) < (T.length : Int) := by omega
        have HR3 : Hid (⟨#[47]⟩ ++ J = R) := Lib.hid (by rw [HR2.out, hT0]; simp)
        clear hT0
        go_wp2_with (go_at_call 38; refine (HJ.out _ _ HSL.out).mono ?_; rintro e w3 ⟨rfl, hb3⟩; have HB3 := Lib.hid ((HB0.out.trans (HBW.out.mono (by omega))).trans (hb3.mono (by omega))); clear hb3)
        go_ret
        exact ⟨ret_str HR3.out, HB3.out⟩
      have hTz : (0 : Int) < (T.length : Int) := by omega
      by_cases hY : y = ⟨#[]⟩ ∨ y = ⟨#[46]⟩ ∨ y = ⟨#[46, 46]⟩
      · have HR3 : Hid ((⟨#[47]⟩ ++ J) ++ ⟨#[47]⟩ = R) := Lib.hid (by
          rw [HR2.out, if_pos]
          have : 0 < T.length := by omega
          simp [this, hY])
        clear hT0
        rcases hY with rfl | rfl | rfl
        all_goals
          go_wp2_with (go_at_call 38; refine (HJ.out _ _ HSL.out).mono ?_; rintro e w3 ⟨rfl, hb3⟩; have HB3 := Lib.hid ((HB0.out.trans (HBW.out.mono (by omega))).trans (hb3.mono (by omega))); clear hb3)
          go_ret
          exact ⟨ret_str HR3.out, HB3.out⟩
      · have HR3 : Hid (⟨#[47]⟩ ++ J = R) := Lib.hid (by
          rw [HR2.out, if_neg]
          simp [hY])
        simp only [not_or] at hY
        obtain ⟨f1, f2, f3⟩ := str_ne3 hY.1 hY.2.1 hY.2.2
        clear hT0 hY
        go_wp2_with (go_at_call 38; refine (HJ.out _ _ HSL.out).mono ?_; rintro e w3 ⟨rfl, hb3⟩; have HB3 := Lib.hid ((HB0.out.trans (HBW.out.mono (by omega))).trans (hb3.mono (by omega))); clear hb3)
        go_ret
        exact ⟨ret_str HR3.out, HB3.out⟩
end Go.Proofs.YteepbfpcdhdgfaaDoor

/- Strings among the arguments. -/
namespace Go.Proofs.YteepbfpcdhdgfaaDoor
open Go.RowKit Go.ChangeShapes Go.WideShapes Go.Deep

def WfY (x : ByteArray) : Prop := x.size ≤ 9223372036854775807
theorem cellsY : Tryd.prog.cellsOf 9 = 1 := by kernel_rfl
theorem decY (w : World) : Dec Tryd.prog w 9 encS WfY := by
  intro H enc n cs x h
  obtain ⟨s, h1, _, h2⟩ := DataW.trod_string Tryd.underlying9 h
  exact ⟨s, h1, by simpa [maxLen, WfY] using h2⟩
end Go.Proofs.YteepbfpcdhdgfaaDoor

/- The digest, plain. -/
namespace Go.Proofs.YteepbfpcdhdgfaaDoor
open Go.RowKit

def encU (c : UInt8) : List Value := [.int .u8 c.toNat]
theorem encU_len (c : UInt8) : (encU c).length = 1 := rfl

theorem bits_or_u32 (a b : Nat) (ha : a < 4294967296) (hb : b < 4294967296) : bits .or .u32 (a : Int) (b : Int) = ((a ||| b : Nat) : Int) := by
  have hx : a ||| b < 2 ^ 32 := Nat.or_lt_two_pow (by omega) (by omega)
  have h1 : (BitVec.ofInt 32 (a : Int)).toNat = a := by
    rw [BitVec.ofInt_natCast, BitVec.toNat_ofNat]; exact Nat.mod_eq_of_lt (by omega)
  have h2 : (BitVec.ofInt 32 (b : Int)).toNat = b := by
    rw [BitVec.ofInt_natCast, BitVec.toNat_ofNat]; exact Nat.mod_eq_of_lt (by omega)
  show IntKind.u32.wrap ((BitVec.ofInt 32 (a : Int) ||| BitVec.ofInt 32 (b : Int)).toNat : Int) = _
  rw [BitVec.toNat_or, h1, h2, IntKind.wrap_u32]
  omega
theorem bits_xor_u32 (a b : Nat) (ha : a < 4294967296) (hb : b < 4294967296) : bits .xor .u32 (a : Int) (b : Int) = ((a ^^^ b : Nat) : Int) := by
  have hx : a ^^^ b < 2 ^ 32 := Nat.xor_lt_two_pow (by omega) (by omega)
  have h1 : (BitVec.ofInt 32 (a : Int)).toNat = a := by
    rw [BitVec.ofInt_natCast, BitVec.toNat_ofNat]; exact Nat.mod_eq_of_lt (by omega)
  have h2 : (BitVec.ofInt 32 (b : Int)).toNat = b := by
    rw [BitVec.ofInt_natCast, BitVec.toNat_ofNat]; exact Nat.mod_eq_of_lt (by omega)
  show IntKind.u32.wrap ((BitVec.ofInt 32 (a : Int) ^^^ BitVec.ofInt 32 (b : Int)).toNat : Int) = _
  rw [BitVec.toNat_xor, h1, h2, IntKind.wrap_u32]
  omega
theorem bits_and3_u32 (a : Nat) (ha : a < 4294967296) : bits .and .u32 (a : Int) 3 = ((a % 4 : Nat) : Int) := by
  have h1 : (BitVec.ofInt 32 (a : Int)).toNat = a := by
    rw [BitVec.ofInt_natCast, BitVec.toNat_ofNat]; exact Nat.mod_eq_of_lt (by omega)
  have h3 : a &&& 3 = a % 4 := Nat.and_two_pow_sub_one_eq_mod a 2
  show IntKind.u32.wrap ((BitVec.ofInt 32 (a : Int) &&& BitVec.ofInt 32 (3 : Int)).toNat : Int) = _
  rw [BitVec.toNat_and, h1, show (BitVec.ofInt 32 (3 : Int)).toNat = 3 by rfl, h3, IntKind.wrap_u32]
  omega
theorem bits_xor_u8 (a b : Nat) (ha : a < 256) (hb : b < 256) : bits .xor .u8 (a : Int) (b : Int) = ((a ^^^ b : Nat) : Int) := by
  have hx : a ^^^ b < 2 ^ 8 := Nat.xor_lt_two_pow (by omega) (by omega)
  have h1 : (BitVec.ofInt 8 (a : Int)).toNat = a := by
    rw [BitVec.ofInt_natCast, BitVec.toNat_ofNat]; exact Nat.mod_eq_of_lt (by omega)
  have h2 : (BitVec.ofInt 8 (b : Int)).toNat = b := by
    rw [BitVec.ofInt_natCast, BitVec.toNat_ofNat]; exact Nat.mod_eq_of_lt (by omega)
  show IntKind.u8.wrap ((BitVec.ofInt 8 (a : Int) ^^^ BitVec.ofInt 8 (b : Int)).toNat : Int) = _
  rw [BitVec.toNat_xor, h1, h2, IntKind.wrap_u8]
  omega
theorem or_addN {a b k : Nat} (ha : a % 2 ^ k = 0) (hb : b < 2 ^ k) : a ||| b = a + b := by
  obtain ⟨c, hc⟩ := Nat.dvd_of_mod_eq_zero ha
  subst hc
  exact (Nat.two_pow_add_eq_or_of_lt hb c).symm

/-- Four bytes as a number, and a number as four bytes. -/
def num4 (x0 x1 x2 x3 : UInt8) : Nat := x0.toNat * 16777216 + x1.toNat * 65536 + x2.toNat * 256 + x3.toNat
theorem num4_lt (x0 x1 x2 x3 : UInt8) : num4 x0 x1 x2 x3 < 4294967296 := by
  have h0 := x0.toNat_lt
  have h1 := x1.toNat_lt
  have h2 := x2.toNat_lt
  have h3 := x3.toNat_lt
  unfold num4
  omega
def numAt (l : List UInt8) (i : Nat) : Nat := num4 (l.getD i 0) (l.getD (i + 1) 0) (l.getD (i + 2) 0) (l.getD (i + 3) 0)
theorem numAt_lt (l : List UInt8) (i : Nat) : numAt l i < 4294967296 := num4_lt _ _ _ _
def bytes4 (n : Nat) : List UInt8 := [UInt8.ofNat (n / 16777216), UInt8.ofNat (n / 65536), UInt8.ofNat (n / 256), UInt8.ofNat n]
theorem u8_toNat (n : Nat) : (UInt8.ofNat n).toNat = n % 256 := by simp
theorem or4 (x0 x1 x2 x3 : UInt8) : ((x0.toNat * 16777216 ||| x1.toNat * 65536) ||| x2.toNat * 256) ||| x3.toNat = num4 x0 x1 x2 x3 := by
  have h0 := x0.toNat_lt
  have h1 := x1.toNat_lt
  have h2 := x2.toNat_lt
  have h3 := x3.toNat_lt
  have e1 : x0.toNat * 16777216 ||| x1.toNat * 65536 = x0.toNat * 16777216 + x1.toNat * 65536 := or_addN (k := 24) (by omega) (by omega)
  have e2 : (x0.toNat * 16777216 + x1.toNat * 65536) ||| x2.toNat * 256 = x0.toNat * 16777216 + x1.toNat * 65536 + x2.toNat * 256 := or_addN (k := 16) (by omega) (by omega)
  have e3 : (x0.toNat * 16777216 + x1.toNat * 65536 + x2.toNat * 256) ||| x3.toNat = num4 x0 x1 x2 x3 := or_addN (k := 8) (by omega) (by omega)
  rw [e1, e2, e3]

/-- The cipher. -/
def mixN (x : Nat) : Nat := ((x * 16 % 4294967296 ^^^ x / 32) + x) % 4294967296
structure Hlf where
  a : Nat
  b : Nat
  s : Nat
def addN (h s k : Nat) : Nat := mixN h ^^^ ((s + k) % 4294967296)
def rndN (K : Nat → Nat) (x : Hlf) : Hlf :=
  let a := (x.a + addN x.b x.s (K (x.s % 4))) % 4294967296
  let s := (x.s + 2654435769) % 4294967296
  ⟨a, (x.b + addN a s (K (s / 2048 % 4))) % 4294967296, s⟩
def rndsN (K : Nat → Nat) (x : Hlf) : Nat → Hlf
  | 0 => x
  | n + 1 => rndN K (rndsN K x n)
def okHl (x : Hlf) : Prop := x.a < 4294967296 ∧ x.b < 4294967296 ∧ x.s < 4294967296
theorem rndN_ok (K : Nat → Nat) (x : Hlf) : okHl (rndN K x) := ⟨Nat.mod_lt _ (by decide), Nat.mod_lt _ (by decide), Nat.mod_lt _ (by decide)⟩
theorem rndsN_ok {K : Nat → Nat} {x : Hlf} (h : okHl x) : ∀ n, okHl (rndsN K x n)
  | 0 => h
  | _ + 1 => rndN_ok K _
theorem mixN_lt (x : Nat) : mixN x < 4294967296 := Nat.mod_lt _ (by decide)
theorem addN_lt (h s k : Nat) : addN h s k < 4294967296 := Nat.xor_lt_two_pow (n := 32) (mixN_lt h) (Nat.mod_lt _ (by decide))
def encZ (k b : List UInt8) : List UInt8 := bytes4 (rndsN (fun i => numAt k (4 * i)) ⟨numAt b 0, numAt b 4, 0⟩ 16).a ++ bytes4 (rndsN (fun i => numAt k (4 * i)) ⟨numAt b 0, numAt b 4, 0⟩ 16).b
theorem encZ_len (k b : List UInt8) : (encZ k b).length = 8 := rfl
def xorB (a b : List UInt8) : List UInt8 := List.zipWith (· ^^^ ·) a b
/-- One block of the digest. -/
def dgStep (st p : List UInt8) : List UInt8 := xorB (encZ p (st.take 8)) (st.take 8) ++ xorB (encZ (p.map (fun x => ~~~ x)) (st.drop 8)) (st.drop 8)
def dgRun : Nat → List UInt8 → List UInt8 → List UInt8
  | 0, st, _ => st
  | n + 1, st, t => if t = [] then st else dgRun n (dgStep st (t.take 16)) (t.drop 16)
def padZ : Nat → List UInt8 → List UInt8
  | 0, t => t
  | n + 1, t => if t.length % 16 = 8 then t else padZ n (t ++ [0])
def dgText (l : List UInt8) : List UInt8 := padZ 16 (l ++ [128]) ++ (bytes4 (l.length / 4294967296 % 4294967296) ++ bytes4 (l.length % 4294967296))
def dgStart : List UInt8 := [0, 1, 2, 3, 4, 5, 6, 7, 8, 9, 10, 11, 12, 13, 14, 15]
def digN (l : List UInt8) : List UInt8 := dgRun ((dgText l).length + 1) dgStart (dgText l)
end Go.Proofs.YteepbfpcdhdgfaaDoor

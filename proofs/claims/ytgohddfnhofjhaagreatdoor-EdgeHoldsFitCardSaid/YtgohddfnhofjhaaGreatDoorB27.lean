/- Normal, of a request without %, with fewer than 20 parts. -/
import Derived.Test.YtgohddfnhofjhaaGreatDoorB26
import Derived.Test.YtgohddfnhofjhaaGreatDoorB01
import Derived.ProofKit
import Derived.OpenShut
import Derived.ShutString
import Derived.ChangeOld
import Derived.SizedLaws
import Derived.Deep.Strs
namespace Go.Proofs.YtgohddfnhofjhaaGreatDoor
open Go.RowKit Go.Lib Go.Sort Go.Shelf

def keepP (D : List ByteArray) (x : ByteArray) : Bool := !decide (x = ⟨#[]⟩) && !containsS D (nameP x)
/-- The parts among the first n words that are kept. -/
def parF (W D : List ByteArray) : Nat → List ByteArray
  | 0 => []
  | n + 1 => if keepP D (W.getD n ⟨#[]⟩) = true then parF W D n ++ [W.getD n ⟨#[]⟩] else parF W D n
theorem parF_next {W D : List ByteArray} {n : Nat} {x : ByteArray} (hx : W[n]? = some x) : parF W D (n + 1) = if keepP D x = true then parF W D n ++ [x] else parF W D n := by
  rw [parF, List.getD_eq_getElem?_getD, hx, Option.getD_some]
theorem parF_len (W D : List ByteArray) : ∀ n, (parF W D n).length ≤ n
  | 0 => Nat.le_refl _
  | n + 1 => by
    have := parF_len W D n
    unfold parF
    split
    · simp; omega
    · omega
theorem parF_mem (W D : List ByteArray) : ∀ n, n ≤ W.length → ∀ x, x ∈ parF W D n → x ∈ W
  | 0, _, x, h => by simp [parF] at h
  | n + 1, hn, x, h => by
    have ih := parF_mem W D n (by omega)
    unfold parF at h
    split at h
    · rw [List.mem_append, List.mem_singleton] at h
      rcases h with h | rfl
      · exact ih x h
      · rw [List.getD_eq_getElem?_getD, List.getElem?_eq_getElem (by omega), Option.getD_some]
        exact List.getElem_mem _
    · exact ih x h
/-- Strings as parts. -/
def toPt (x : ByteArray) : Pt := if h : x.size ≤ 1000 then ⟨x, h⟩ else default
theorem toPt_val {x : ByteArray} (h : x.size ≤ 1000) : (toPt x).1 = x := by simp [toPt, h]
def sortB (L : List ByteArray) : List ByteArray := (insP (L.map toPt)).map (·.1)
theorem flat_pt {L : List ByteArray} (h : ∀ x, x ∈ L → x.size ≤ 1000) : (L.map toPt).flatMap encP1 = L.flatMap encS := by
  induction L with
  | nil => rfl
  | cons x r ih =>
    rw [List.map_cons, List.flatMap_cons, List.flatMap_cons, ih (fun y hy => h y (by simp [hy]))]
    show [Value.string (toPt x).1] ++ _ = _
    rw [toPt_val (h x (by simp))]
    rfl
theorem flat_val (L : List Pt) : (L.map (·.1)).flatMap encS = L.flatMap encP1 := by
  induction L with
  | nil => rfl
  | cons x r ih => rw [List.map_cons, List.flatMap_cons, List.flatMap_cons, ih]; rfl
theorem sortB_len (L : List ByteArray) : (sortB L).length = L.length := by simp [sortB, insP_len]
/-- SortStableFunc of fewer than 20 parts. -/
theorem sortB_any (w : World) (base : Nat) (v : Value) (L : List ByteArray) (m : Int) (hb0 : 0 < base) (hm : w.cell? ⟨0, 0, none⟩ = some (.int .i64 m)) (h : Own w base 9 1 encS v L) (hs : ∀ x, x ∈ L → x.size ≤ 1000) (hn : L.length < 20) :
    Calls Tryz.prog 57 #[v, .func (.func 58) #[] #[]] w fun e w' => e = .returned (.tuple #[]) ∧ Own w' base 9 1 encS v (sortB L) ∧ Below base w w' := by
  have h2 : Own w base 9 1 encP1 v (L.map toPt) := by
    unfold Own at h ⊢
    rw [flat_pt hs, List.length_map]
    exact h
  refine (stable_any w base v (L.map toPt) m hb0 hm h2 (by simpa using hn)).mono ?_
  rintro e w' ⟨h3, h4, h5⟩
  refine ⟨h3, ?_, h5⟩
  unfold Own at h4 ⊢
  unfold sortB
  rw [flat_val, List.length_map]
  exact h4

def cutP (s sep : ByteArray) : ByteArray := ⟨(Lib.cut s.data.toList sep.data.toList).1.toArray⟩
def cutQ (s sep : ByteArray) : ByteArray := ⟨(Lib.cut s.data.toList sep.data.toList).2.1.toArray⟩
/-- The parts of the query of a request that are kept. -/
def partsQ (s : ByteArray) (D : List ByteArray) : List ByteArray := parF (wordsB (cutQ s ⟨#[63]⟩) ⟨#[38]⟩) D (wordsB (cutQ s ⟨#[63]⟩) ⟨#[38]⟩).length
/-- The key of a decoded request. -/
def normB (s : ByteArray) (D : List ByteArray) : ByteArray :=
  if 0 < (partsQ s D).length then tidyB (wordsB (cutP s ⟨#[63]⟩) ⟨#[47]⟩) ++ (⟨#[63]⟩ ++ joinB (sortB (partsQ s D)) ⟨#[38]⟩) else tidyB (wordsB (cutP s ⟨#[63]⟩) ⟨#[47]⟩)

theorem joinB_size {L : List ByteArray} {sep : ByteArray} (h : ∀ x, x ∈ L → x.size ≤ 1000) (hL : L.length ≤ 1000) (hs : sep.size ≤ 10) : (joinB L sep).size ≤ 1010000 := by
  have h1 := joinB_len (sep := sep) h
  have h2 : (1000 + sep.size) * L.length ≤ 1010 * 1000 := Nat.mul_le_mul (by omega) hL
  unfold joinB
  rw [mk_size]
  omega
theorem tidyB_size {ps : List ByteArray} (h : ∀ x, x ∈ ps → x.size ≤ 1000) (hl : ps.length ≤ 1000) : (tidyB ps).size ≤ 1010002 := by
  have h1 := joinB_size (L := tidL ps ps.length) (sep := ⟨#[47]⟩) (fun x hx => h x (tidL_mem ps _ (Nat.le_refl _) x hx)) (by have := tidL_len ps ps.length; omega) (by decide)
  have h2 : (⟨#[47]⟩ : ByteArray).size = 1 := rfl
  unfold tidyB
  split
  · rw [ByteArray.size_append, ByteArray.size_append]; omega
  · rw [ByteArray.size_append]; omega
theorem sortB_mem {L : List ByteArray} {x : ByteArray} (h : x ∈ sortB L) : x.size ≤ 1000 := by
  unfold sortB at h
  rw [List.mem_map] at h
  obtain ⟨y, _, rfl⟩ := h
  exact y.2
theorem contains_any (D : List ByteArray) (x : ByteArray) (v : Value) (w : World) (h : Sl w 1 encS v D) :
    Calls Tryz.prog 55 #[v, .string x] w fun e w' => e = .returned (.bool (containsS D x)) ∧ w' = w := by
  obtain ⟨ao, cap, rfl, hcap, hmax, hnil, hel⟩ := h
  unfold maxLen at hmax
  by_cases he : D = []
  · subst he
    have hc : containsS [] x = false := rfl
    rw [hc]
    exact Tryz.slices_Contains_string_empty ao cap x w
  · have h0 : 0 < D.length := List.length_pos_iff.2 he
    obtain ⟨b, off, rfl, _⟩ := hel 0 D[0] (by simp)
    have h2 := Tryz.slices_Contains_string b off D.length cap D x w (Nat.le_refl _) (by omega) (fun j hj => by
      obtain ⟨b', off', e, hc⟩ := hel j D[j] (by simp)
      simp only [Option.some.injEq, Addr.mk.injEq, and_true] at e
      obtain ⟨rfl, rfl⟩ := e
      have := hc 0 _ rfl
      simp only [Nat.mul_one, Nat.add_zero] at this
      rw [this]
      simp [List.getD_eq_getElem?_getD, hj])
    rw [List.take_length] at h2
    exact h2
end Go.Proofs.YtgohddfnhofjhaaGreatDoor

/- Normal, of a request without %, with fewer than 20 parts: the walk; awake. -/
namespace Go.Proofs.YtgohddfnhofjhaaGreatDoor
open Go.RowKit Go.Lib Go.Sort Go.Shelf

theorem ret_two {a b : ByteArray} {f : Value} (h : a = b) : Ending.returned (.tuple #[.string a, f]) = .returned (.tuple #[.string b, f]) := by rw [h]
set_option maxRecDepth 100000 in
set_option maxHeartbeats 4000000 in
theorem normal0_any (s : ByteArray) (D : List ByteArray) (v : Value) (w : World) (m : Int) (hr : reqB s = true) (h37 : ∀ i, i < s.size → ¬ chr s i = 37) (hD : Sl w 1 encS v D) (hD20 : D.length ≤ 20) (hm : w.cell? ⟨0, 0, none⟩ = some (.int .i64 m)) (hn : (partsQ s D).length < 20) :
    Calls Tryz.prog 32 #[.string s, v] w fun e w' => e = .returned (.tuple #[.string (normB s D), .int .i64 0]) ∧ Below w.heap.size w w' := by
  obtain ⟨_, hs, _, _⟩ := reqB_true hr
  have HI := Lib.hid (isReq_any s w (by omega))
  rw [hr] at HI
  have HDC := Lib.hid (fun W => decoded0_any s W hs h37)
  have HM := Lib.hid hm
  have h0 := World.block_lt_of_cell? w _ hm
  have HCU := Lib.hid (fun W h => cut_any s ⟨#[63]⟩ m W (by omega) h)
  have hc1 := (cut_size s ⟨#[63]⟩).1
  have hc2 := (cut_size s ⟨#[63]⟩).2
  have HN : Hid (normB s D = if 0 < (partsQ s D).length then tidyB (wordsB (cutP s ⟨#[63]⟩) ⟨#[47]⟩) ++ (⟨#[63]⟩ ++ joinB (sortB (partsQ s D)) ⟨#[38]⟩) else tidyB (wordsB (cutP s ⟨#[63]⟩) ⟨#[47]⟩)) := Lib.hid rfl
  have HPQ : Hid (partsQ s D = parF (wordsB (cutQ s ⟨#[63]⟩) ⟨#[38]⟩) D (wordsB (cutQ s ⟨#[63]⟩) ⟨#[38]⟩).length) := Lib.hid rfl
  obtain ⟨R, hR⟩ : ∃ R, R = normB s D := ⟨_, rfl⟩
  obtain ⟨P, hP⟩ : ∃ P, P = cutP s ⟨#[63]⟩ := ⟨_, rfl⟩
  obtain ⟨Q, hQ⟩ : ∃ Q, Q = cutQ s ⟨#[63]⟩ := ⟨_, rfl⟩
  have eP : (⟨(Lib.cut s.data.toList (⟨#[63]⟩ : ByteArray).data.toList).1.toArray⟩ : ByteArray) = P := by rw [hP]; rfl
  have eQ : (⟨(Lib.cut s.data.toList (⟨#[63]⟩ : ByteArray).data.toList).2.1.toArray⟩ : ByteArray) = Q := by rw [hQ]; rfl
  rw [eP] at hc1
  rw [eQ] at hc2
  rw [eP, eQ] at HCU
  rw [← hR] at HN ⊢
  rw [← hP] at HN
  rw [← hQ] at HPQ
  generalize (Lib.cut s.data.toList (⟨#[63]⟩ : ByteArray).data.toList).2.2 = Z at HCU
  obtain ⟨W, hW⟩ : ∃ W, W = wordsB Q ⟨#[38]⟩ := ⟨_, rfl⟩
  have HSP := Lib.hid (fun w' h => split_any Q ⟨#[38]⟩ m w' (by omega) h (by decide))
  have hWL := words_many Q ⟨#[38]⟩ (by decide)
  have HWS := Lib.hid (fun x h => @words_size Q ⟨#[38]⟩ x h)
  have HTD := Lib.hid (fun w' h => tidy_any P w' m (by omega) h (by have := words_many P ⟨#[47]⟩ (by decide); omega) (fun x hx => by have := words_size hx; omega))
  rw [← hW] at HPQ HSP hWL HWS
  have HTS := Lib.hid (tidyB_size (ps := wordsB P ⟨#[47]⟩) (fun x hx => by have := words_size hx; omega) (by have := words_many P ⟨#[47]⟩ (by decide); omega))
  obtain ⟨TD, hTD⟩ : ∃ T, T = tidyB (wordsB P ⟨#[47]⟩) := ⟨_, rfl⟩
  rw [← hTD] at HN HTD HTS
  obtain ⟨PA, hPA⟩ : ∃ P, P = partsQ s D := ⟨_, rfl⟩
  rw [← hPA] at HN HPQ hn
  clear eP eQ hR hP hQ hW hTD hPA hr h37 hm
  have HDS := Lib.hid hD
  have HQS : Hid (Q.size ≤ 300) := Lib.hid (by omega)
  obtain ⟨dao, dcap, rfl, hdc, hdm, _, _⟩ := hD
  unfold maxLen at hdm
  have hW301 : W.length ≤ 301 := by have := HQS.out; omega
  clear hc1 hc2 hs hWL
  go_enter Tryz.func32, Tryz.ntmps32
  go_wp2_with fail
  refine HI.out.mono ?_
  rintro e w1 ⟨rfl, rfl⟩
  go_wp2_with fail
  refine (HDC.out _).mono ?_
  rintro e w1 ⟨rfl, hb1⟩
  have HB1 := Lib.hid hb1
  have HM1 := Lib.hid ((hb1.cell (p := ⟨0, 0, none⟩) h0).trans HM.out)
  clear hb1
  go_wp2_with fail
  refine (HCU.out _ HM1.out).mono ?_
  rintro e w2 ⟨rfl, nn, rfl⟩
  have HM2 : Hid ((w1.drewN nn).cell? ⟨0, 0, none⟩ = some (.int .i64 m)) := HM1
  have HB2 := Lib.hid (below_drewN HB1.out nn)
  clear HB1
  obtain ⟨w2, hw2⟩ : ∃ w2, w2 = w1.drewN nn := ⟨_, rfl⟩
  rw [← hw2] at HM2 HB2 ⊢
  clear hw2 HM1
  go_wp2_with fail
  refine (HSP.out _ HM2.out).mono ?_
  rintro e w3 ⟨rfl, hw3⟩
  have HEL : Hid (∀ (k : Nat) (x : ByteArray), W[k]? = some x → w3.cell? ⟨w2.heap.size, k, none⟩ = some (.string x)) := Lib.hid (fun k x hx => by
    rw [hw3, cell_of_block (block_new w2 _)]
    simp [hx])
  have hb3 : Below w2.heap.size w2 w3 := by rw [hw3]; exact (Below.refl _ _).alloc (Nat.le_refl _) _
  have hsz3 : w3.heap.size = w2.heap.size + 1 := by rw [hw3]; simp
  have hsz2 := HB2.out.size
  have HB3 := Lib.hid (HB2.out.trans (hb3.mono hsz2))
  have HM3 := Lib.hid ((hb3.cell (p := ⟨0, 0, none⟩) (show 0 < w2.heap.size by omega)).trans HM2.out)
  obtain ⟨A0, hA0⟩ : ∃ A0, A0 = w2.heap.size := ⟨_, rfl⟩
  rw [← hA0] at HEL hsz3 ⊢
  have hA3 : A0 < w3.heap.size := by omega
  clear hw3 hb3 hsz3 hA0 HM2 HB2
  go_wp2
  go_loopg [11, 39] W.length (fun gg s11 s39 wr => ∃ kk : Nat, kk ≤ W.length ∧ W.length - kk ≤ gg ∧ s39 = .int .i64 kk ∧ Aside (Own wr w3.heap.size 9 1 encS s11 (parF W D kk)) ∧ Aside (Below w3.heap.size w3 wr))
  case atStart => exact ⟨0, Nat.zero_le _, by omega, by go_num, Own.nil, Below.refl _ _⟩
  case round =>
    obtain ⟨kk, hkk, hg, rfl, OW, BW⟩ := hrel
    have HOW := Lib.hid OW.out
    have HBW := Lib.hid BW.out
    have hszw := HBW.out.size
    have HMR := Lib.hid ((HBW.out.cell (p := ⟨0, 0, none⟩) (show 0 < w3.heap.size by omega)).trans HM3.out)
    obtain ⟨T, hT⟩ : ∃ T, T = parF W D kk := ⟨_, rfl⟩
    have hTL := parF_len W D kk
    rw [← hT] at HOW hTL
    have HT := Lib.hid hT
    clear hT OW BW
    obtain ⟨ao5, cp5, rfl, hcap5, hmax5, _, _⟩ := Own.sl HOW.out encS_len
    unfold maxLen at hmax5
    by_cases hlt : kk < W.length
    · have hltz : (kk : Int) < (W.length : Int) := by omega
      obtain ⟨x, hx⟩ : ∃ x, W[kk]? = some x := ⟨W[kk], by simp [hlt]⟩
      have c0 : wr.cell? ⟨A0, kk, none⟩ = some (.string x) := (HBW.out.cell (p := ⟨A0, kk, none⟩) hA3).trans (HEL.out kk x hx)
      have HTN := Lib.hid (parF_next (D := D) hx)
      rw [← HT.out] at HTN
      have HXS : Hid (x.size ≤ 1000) := Lib.hid (Nat.le_trans (HWS.out x (List.mem_of_getElem? hx)) (Nat.le_trans HQS.out (by decide)))
      clear hx
      by_cases e1 : x = ⟨#[]⟩
      · subst e1
        have HN2 : Hid (parF W D (kk + 1) = T) := Lib.hid (by rw [HTN.out]; simp [keepP])
        go_wp2
        go_roundg (W.length - (kk + 1))
        case measure => omega
        case rel => exact ⟨kk + 1, by omega, by omega, by go_num, (show Own _ _ _ _ _ _ _ by rw [HN2.out]; exact HOW.out), HBW.out⟩
      · have hke : Hid (keepP D x = !containsS D (nameP x)) := Lib.hid (by simp [keepP, e1])
        have f1 : (x.toList == []) = false := str_ne e1
        have HNO := Lib.hid (nameOf_any x m wr HXS.out HMR.out)
        have HCO := Lib.hid (fun n => contains_any D (nameP x) _ (wr.drewN n) ((HDS.out.below (HB3.out) (Nat.le_refl _)).below (below_drewN HBW.out n) (Nat.le_refl _)))
        obtain ⟨c, hc⟩ : ∃ c, c = containsS D (nameP x) := ⟨_, rfl⟩
        rw [← hc] at hke HCO
        obtain ⟨nx, hnx⟩ : ∃ c, c = nameP x := ⟨_, rfl⟩
        rw [← hnx] at HCO HNO
        clear e1 hc hnx
        cases c
        case true =>
          have HN2 : Hid (parF W D (kk + 1) = T) := Lib.hid (by rw [HTN.out, hke.out]; simp)
          go_wp2_with fail
          refine HNO.out.mono ?_
          rintro e w5 ⟨rfl, n5, rfl⟩
          go_wp2_with fail
          refine (HCO.out n5).mono ?_
          rintro e w6 ⟨rfl, rfl⟩
          go_wp2
          go_roundg (W.length - (kk + 1))
          case measure => omega
          case rel => exact ⟨kk + 1, by omega, by omega, by go_num, (show Own _ _ _ _ _ _ _ by rw [HN2.out]; exact HOW.out), below_drewN HBW.out _⟩
        case false =>
          have HN2 : Hid (parF W D (kk + 1) = T ++ [x]) := Lib.hid (by rw [HTN.out, hke.out]; simp)
          have HK : Hid ((T.length + 1) * 16 ≤ 140737488355328) := Lib.hid (by omega)
          go_wp2_with fail
          refine HNO.out.mono ?_
          rintro e w5 ⟨rfl, n5, rfl⟩
          go_wp2_with fail
          refine (HCO.out n5).mono ?_
          rintro e w6 ⟨rfl, rfl⟩
          have HOW5 := Lib.hid (HOW.out.drewN n5)
          have HBW5 := Lib.hid (below_drewN HBW.out n5)
          obtain ⟨w5, hw5⟩ : ∃ w5, w5 = wr.drewN n5 := ⟨_, rfl⟩
          rw [← hw5] at HOW5 HBW5 ⊢
          have hsz5 := HBW5.out.size
          clear hw5 HOW HBW
          go_wp2_with (at_builtin; refine wpList_push rfl _ _ 114 rfl slS rfl rfl x rfl rfl rfl HOW5.out rfl HK.out hsz5 ?_; intro v5 w5 ho5 hb5; obtain ⟨ao6, cp6, rfl, hcap6, hmax6, _, _⟩ := Own.sl ho5 encS_len; have HO5 := Lib.hid ho5; have HB5 := Lib.hid (HBW5.out.trans hb5); clear ho5 hb5)
          go_roundg (W.length - (kk + 1))
          case measure => omega
          case rel => exact ⟨kk + 1, by omega, by omega, by go_num, (show Own _ _ _ _ _ _ _ by rw [HN2.out]; have h := HO5.out; rw [List.length_append] at h; exact h), HB5.out⟩
    · obtain rfl : kk = W.length := by omega
      have hltz : ¬ (W.length : Int) < (W.length : Int) := by omega
      have hTP : T = PA := by rw [HT.out, HPQ.out]
      subst hTP
      have HSO := Lib.hid (sortB_any wr w3.heap.size _ T m (by omega) HMR.out HOW.out (fun x hx => by
        have h1 := parF_mem W D W.length (Nat.le_refl _) x (by rw [← HT.out]; exact hx)
        exact Nat.le_trans (HWS.out x h1) (Nat.le_trans HQS.out (by decide))) hn)
      go_wp2_with fail
      refine HSO.out.mono ?_
      rintro e w6 ⟨rfl, ho6, hb6⟩
      have HO6 := Lib.hid ho6
      have HB6 := Lib.hid ((HB3.out.trans (HBW.out.mono (HB3.out.size))).trans (hb6.mono (HB3.out.size)))
      have HM6 := Lib.hid ((hb6.cell (p := ⟨0, 0, none⟩) (show 0 < w3.heap.size by omega)).trans HMR.out)
      clear ho6 hb6
      go_wp2_with fail
      refine (HTD.out _ HM6.out).mono ?_
      rintro e w7 ⟨rfl, hb7⟩
      have HB7 := Lib.hid (HB6.out.trans (hb7.mono HB6.out.size))
      have HSL7 := Lib.hid ((HO6.out.sl encS_len).below hb7 (Nat.le_refl _))
      clear hb7
      have HJ := Lib.hid (join_any (sortB T) ⟨#[38]⟩ _ w7 HSL7.out (fun x hx => sortB_mem hx) (by rw [sortB_len]; omega) (by decide))
      have hJs := joinB_size (L := sortB T) (sep := ⟨#[38]⟩) (fun x hx => sortB_mem hx) (by rw [sortB_len]; omega) (by decide)
      have hts := HTS.out
      by_cases hT0 : 0 < T.length
      · have hTz : (0 : Int) < (T.length : Int) := by omega
        have HNN : Hid (TD ++ (⟨#[63]⟩ ++ joinB (sortB T) ⟨#[38]⟩) = R) := Lib.hid (by rw [HN.out, if_pos hT0])
        generalize joinB (sortB T) ⟨#[38]⟩ = J at HJ hJs HNN
        have hsz1 : ((⟨#[63]⟩ : ByteArray) ++ J).size = 1 + J.size := by rw [ByteArray.size_append]; rfl
        clear hT0
        go_wp2_with fail
        refine HJ.out.mono ?_
        rintro e w8 ⟨rfl, hb8⟩
        have HB8 := Lib.hid (HB7.out.trans (hb8.mono HB7.out.size))
        clear hb8
        go_wp2
        go_ret2
        exact ⟨ret_two HNN.out, HB8.out⟩
      · have hTz : ¬ (0 : Int) < (T.length : Int) := by omega
        have HNN : Hid (TD = R) := Lib.hid (by rw [HN.out, if_neg hT0])
        clear hT0
        go_wp2
        go_ret2
        exact ⟨ret_two HNN.out, HB7.out⟩

theorem awake_key : normB ⟨#[47, 97, 47, 46, 46, 47, 98, 63, 121, 61, 50, 38, 120, 61, 49]⟩ [] = ⟨#[47, 98, 63, 120, 61, 49, 38, 121, 61, 50]⟩ := by decide +kernel
theorem awake_many : (partsQ ⟨#[47, 97, 47, 46, 46, 47, 98, 63, 121, 61, 50, 38, 120, 61, 49]⟩ []).length < 20 := by decide +kernel
theorem awake_req : reqB ⟨#[47, 97, 47, 46, 46, 47, 98, 63, 121, 61, 50, 38, 120, 61, 49]⟩ = true := by decide +kernel
theorem awake_37 : ∀ i, i < (⟨#[47, 97, 47, 46, 46, 47, 98, 63, 121, 61, 50, 38, 120, 61, 49]⟩ : ByteArray).size → ¬ chr ⟨#[47, 97, 47, 46, 46, 47, 98, 63, 121, 61, 50, 38, 120, 61, 49]⟩ i = 37 := by decide +kernel

set_option maxRecDepth 100000 in
theorem awakeE_any (w : World) (m : Int) (hm : w.cell? ⟨0, 0, none⟩ = some (.int .i64 m)) :
    Calls Tryz.prog 11 #[] w fun e w' => e = .returned (.bool true) ∧ Below w.heap.size w w' := by
  have h := normal0_any ⟨#[47, 97, 47, 46, 46, 47, 98, 63, 121, 61, 50, 38, 120, 61, 49]⟩ [] (.slice none 0 0) w m awake_req awake_37 Sl.nil (by decide) hm awake_many
  rw [awake_key] at h
  have H := Lib.hid h
  clear h hm
  go_enter Tryz.func11, Tryz.ntmps11
  go_wp2_with fail
  refine H.out.mono ?_
  rintro e w1 ⟨rfl, hb⟩
  have HB := Lib.hid hb
  clear hb
  go_wp2
  go_ret
  exact ⟨rfl, HB.out⟩
end Go.Proofs.YtgohddfnhofjhaaGreatDoor

/- Arguments opened: a slice of structs reads as a list. -/
namespace Go.Proofs.YtgohddfnhofjhaaGreatDoor
open Go.RowKit Go.ChangeShapes Go.WideShapes Go.Deep

/-- Cells of type E are enc' y for some y that is wf. -/
def Dec {α : Type} (P : Program) (w : World) (E : TypeId) (enc' : α → List Value) (wf : α → Prop) : Prop :=
  ∀ (H : Type) (enc : TypeId × Value → H) (n : Nat) (cs : List Value) (x : DataW H × List MemPlace), DataW.trod enc P w 0 (fun _ => true) true n E cs = some x → ∃ y, cs = enc' y ∧ wf y

/-- An int of Go. -/
def I64 (n : Int) : Prop := -9223372036854775808 ≤ n ∧ n ≤ 9223372036854775807
theorem I64.of {n : Int} (h : (Lit.int .i64 n).wf = true) : I64 n := by
  simp [Lit.wf, IntKind.min, IntKind.max, IntKind.signed, IntKind.bits] at h
  exact ⟨by omega, by omega⟩

theorem sl_open {α : Type} {H : Type} {enc : TypeId × Value → H} {P : Program} {w : World} {t E : TypeId} {k : Nat} {enc' : α → List Value} {wf : α → Prop} (ht : P.underlying t = some (.slice E)) (hk : P.cellsOf E = k) (hk0 : 0 < k)
    (hd : Dec P w E enc' wf) {a : Option Addr} {len cap : Nat} {d : DataW H} {p : List MemPlace} (h : DataW.Trod enc P w 0 (fun _ => true) true t (.slice a len cap) d p) :
    ∃ l, Sl w k enc' (.slice a len cap) l ∧ (∀ y, y ∈ l → wf y) ∧ l.length = len ∧
      ((d = .nil ∧ cap = 0) ∨ ∃ elems spare, d = .slice elems spare ∧ elems.length + spare.length = cap) := by
  obtain ⟨fuel, hf⟩ := h
  rcases open_slice ht hf with ⟨hcs, hx⟩ | ⟨a', len', cap', m, n, D, Pl, hcs, hb, hl, hm, hmm, hx, hel⟩
  · simp [Value.cells] at hcs
    obtain ⟨rfl, rfl, rfl⟩ := hcs
    simp at hx
    exact ⟨[], Sl.nil, fun y hy => by simp at hy, rfl, .inl ⟨hx.1, rfl⟩⟩
  · simp [Value.cells] at hcs
    obtain ⟨rfl, rfl, rfl⟩ := hcs
    simp only [Prod.mk.injEq] at hx
    simp only [if_true] at hmm
    subst hmm
    have hy : ∀ i, i < m → ∃ y : α, (w.cells? 0 (a'.add (i * P.cellsOf E)) (P.cellsOf E)) = some (enc' y) ∧ wf y := fun i hi => by
      obtain ⟨cs', h1, h2⟩ := hel i hi
      obtain ⟨y, rfl, hw⟩ := hd H enc n cs' _ h2
      exact ⟨y, h1, hw⟩
    have hlist : ∀ j, j ≤ m → ∃ l : List α, l.length = j ∧ (∀ y, y ∈ l → wf y) ∧ ∀ i y, l[i]? = some y → w.cells? 0 (a'.add (i * P.cellsOf E)) (P.cellsOf E) = some (enc' y) := by
      intro j
      induction j with
      | zero => exact fun _ => ⟨[], rfl, fun y hy => by simp at hy, fun i y h => by simp at h⟩
      | succ j ih =>
        intro hj
        obtain ⟨l, hl1, hl2, hl3⟩ := ih (by omega)
        obtain ⟨y, hy1, hy2⟩ := hy j (by omega)
        refine ⟨l ++ [y], by simp [hl1], fun z hz => ?_, fun i z hz => ?_⟩
        · rcases List.mem_append.1 hz with h | h
          · exact hl2 z h
          · simp at h; subst h; exact hy2
        · by_cases h : i < l.length
          · rw [List.getElem?_append_left h] at hz; exact hl3 i z hz
          · rw [List.getElem?_append_right (by omega)] at hz
            have hi : i = l.length := by
              have := (List.getElem?_eq_some_iff.1 hz).1
              simp at this; omega
            subst hi
            simp at hz; subst hz
            rw [hl1]; exact hy1
    obtain ⟨l, hl1, hl2, hl3⟩ := hlist len hl
    refine ⟨l, ⟨some a', m, by rw [hl1], by omega, hm, fun e => by simp at e, fun i y hi => ?_⟩, hl2, hl1, .inr ⟨_, _, hx.1, by simp; omega⟩⟩
    have hc := hl3 i y hi
    rw [hk] at hc
    obtain ⟨_, hlen, hcell⟩ := World.cells?_some hc
    obtain ⟨b, off, spot⟩ := a'
    have hspot : spot = none := by
      cases i with
      | zero =>
        have h0 := hcell 0 hk0
        rw [List.getElem?_eq_getElem (by omega)] at h0
        simpa [Addr.add] using World.cell?_spot h0
      | succ i =>
        have hy0 := hl3 0 (l[0]'(by have := (List.getElem?_eq_some_iff.1 hi).1; omega)) (by simp)
        rw [hk] at hy0
        obtain ⟨_, hlen0, hcell0⟩ := World.cells?_some hy0
        have h0 := hcell0 0 hk0
        rw [List.getElem?_eq_getElem (by omega)] at h0
        simpa [Addr.add] using World.cell?_spot h0
    subst hspot
    refine ⟨b, off, rfl, fun j u hu => ?_⟩
    have hj : j < k := by
      have := (List.getElem?_eq_some_iff.1 hu).1
      omega
    have := hcell j hj
    rw [hu] at this
    rw [← this]
    congr 1
    unfold Addr.add
    split <;> split <;> simp [*] <;> omega

/-- What the form's reach says of a slice among the arguments. -/
theorem sl_reach {H : Type} {P : Program} {ts : List TypeId} {ds : List (DataW H)} (h : (DataW.weightsEach P ts ds).all (· ≤ reachBytes) = true) {j : Nat} {t E : TypeId} {d : DataW H} {cap len : Nat} (hle : len ≤ cap)
    (htj : ts[j]? = some t) (hdj : ds[j]? = some d) (hu : P.underlying t = some (.slice E)) (hd : (d = .nil ∧ cap = 0) ∨ ∃ elems spare, d = .slice elems spare ∧ elems.length + spare.length = cap) :
    len * P.bytesOf E ≤ 140737488351232 := by
  rcases hd with ⟨_, rfl⟩ | ⟨elems, spare, rfl, hc⟩
  · have : len = 0 := by omega
    simp [this]
  · have := sized_slice h htj hdj hu
    rw [hc] at this
    exact Nat.le_trans (Nat.mul_le_mul_right _ hle) (by simpa [reachBytes] using this)
end Go.Proofs.YtgohddfnhofjhaaGreatDoor

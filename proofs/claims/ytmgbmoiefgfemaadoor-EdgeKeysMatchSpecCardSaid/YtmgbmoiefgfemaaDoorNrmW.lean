/- Normal of the program, of any request: the walk. -/
import Derived.Test.YtmgbmoiefgfemaaDoorNor1
import Derived.Test.YtmgbmoiefgfemaaDoorSrtL
import Derived.Test.YtmgbmoiefgfemaaDoorStbS
import Derived.Test.YtmgbmoiefgfemaaDoorDecG
namespace Go.Proofs.YtmgbmoiefgfemaaDoor
open Go.RowKit Go.Lib Go.Sort Go.Shelf

theorem insNil_st (w : World) (ao : Option Addr) (cap : Nat) (f : Value) :
    Calls Tryd.prog 107 #[.slice ao 0 cap, .int .i64 0, .int .i64 0, f] w fun e w' => e = .returned (.tuple #[]) ∧ w' = w := by
  go_enter Tryd.func107, Tryd.ntmps107
  go_wp2_with fail
  refine wp_loop_rounds 1 ?_
  rw [rounds_succ]
  go_wp2_with fail
  go_end0
  exact ⟨rfl, rfl⟩
theorem sortNil_any (w : World) (ao : Option Addr) (cap : Nat) (f : Value) :
    Calls Tryd.prog 56 #[.slice ao 0 cap, f] w fun e w' => e = .returned (.tuple #[]) ∧ w' = w := by
  have HC := Lib.hid (insNil_st w ao cap f)
  have H1 : Hid (Calls Tryd.prog 90 #[.slice ao 0 cap, .int .i64 0, f] w fun e w' => e = .returned (.tuple #[]) ∧ w' = w) := Lib.hid (by
    go_enter Tryd.func90, Tryd.ntmps90
    go_wp2_with fail
    refine wp_loop_rounds 1 ?_
    rw [rounds_succ]
    go_wp2_with fail
    refine HC.out.mono ?_
    rintro e w' ⟨rfl, hq⟩
    subst hq
    go_wp2_with fail
    refine wp_loop_rounds 1 ?_
    rw [rounds_succ]
    go_wp2_with fail
    go_end0
    exact ⟨rfl, rfl⟩)
  go_enter Tryd.func56, Tryd.ntmps56
  go_wp2_with fail
  refine H1.out.mono ?_
  rintro e w' ⟨rfl, hq⟩
  subst hq
  go_wp2_with fail
  go_end0
  exact ⟨rfl, rfl⟩
theorem flat_gh (L : List Gh) : L.flatMap (encST (fun x : Gh => x.1)) = (L.map Prod.fst).flatMap encS := by
  induction L with
  | nil => rfl
  | cons x r ih => rw [List.flatMap_cons, ih]; rfl
/-- SortStableFunc of parts by their names. -/
theorem sortG_any (w : World) (base : Nat) (v : Value) (L : List ByteArray) (m : Int) (hb0 : 0 < base) (hm : w.cell? ⟨0, 0, none⟩ = some (.int .i64 m)) (h : Own w base 9 1 encS v L) (hs : ∀ x, x ∈ L → x.size ≤ 1000) (hn : L.length ≤ 1000) (hbw : base ≤ w.heap.size) :
    Calls Tryd.prog 56 #[v, .func (.func 57) #[] #[]] w fun e w' => e = .returned (.tuple #[]) ∧ Own w' base 9 1 encS v (refS L) ∧ Below base w w' := by
  by_cases hnil : L = []
  · subst hnil
    obtain ⟨ao, cap, rfl, -, -, -, -⟩ := h.sl encS_len
    refine (sortNil_any w ao cap _).mono ?_
    rintro e w' ⟨rfl, hq⟩
    subst hq
    exact ⟨rfl, h, Below.refl _ _⟩
  · obtain ⟨g, cap, rfl, hg, hlt, -, -, -, -⟩ := Own.getk encS_len h hnil
    have hst : StW (fun x : Gh => x.1.size ≤ 1000) (fun x : Gh => x.1) w base g cap L.length L.zipIdx w := by
      refine ⟨?_, Onl.refl _ _, by simp, fun x hx => hs x.1 ?_⟩
      · unfold Own at h ⊢
        rw [flat_gh, List.zipIdx_map_fst, List.length_zipIdx]
        exact h
      · have := List.mem_map_of_mem (f := Prod.fst) hx
        rw [List.zipIdx_map_fst] at this
        exact this
    have h0 := World.block_lt_of_cell? w _ hm
    have hcm : CmpW 57 #[] (fun x : Gh => x.1.size ≤ 1000) (fun x : Gh => x.1) ghC w g := fun W ho x y hx hy => by
      have hc : W.cell? ⟨0, 0, none⟩ = some (.int .i64 m) := World.grownBy.cell ho hm (fun e => by simp at e; omega)
      refine (cmp_any x.1 y.1 m W hx hy hc).mono ?_
      rintro e w' ⟨rfl, n, rfl⟩
      exact ⟨rfl, below_drewN (Below.refl _ _) n⟩
    have eg : ∀ args w, (callFunc 57 args).run Tryd.prog w = .ok (.enter 57 args) w := enters_of Tryd.func57 (by kernel_rfl) rfl
    refine (sortStable_st hst hcm eg (by omega)).mono ?_
    rintro e w' ⟨rfl, hq⟩
    refine ⟨rfl, ?_, hq.onl.toBelow hbw hg⟩
    have h1 := hq.own
    have hlen := hq.len
    have e2 : (stR (ltI ghC) L.zipIdx).map Prod.fst = refS L := sortG_eq L
    unfold Own at h1 ⊢
    rw [flat_gh, e2] at h1
    rw [hlen] at h1
    have h3 : (refS L).length = L.length := (refS_perm _ L rfl).length_eq
    rw [h3]
    exact h1
/-- The key of a request that was read. -/
def normG (s : ByteArray) (D : List ByteArray) : ByteArray :=
  if 0 < (partsQ s D).length then tidyB (wordsB (cutP s ⟨#[63]⟩) ⟨#[47]⟩) ++ (⟨#[63]⟩ ++ joinB (refS (partsQ s D)) ⟨#[38]⟩) else tidyB (wordsB (cutP s ⟨#[63]⟩) ⟨#[47]⟩)
def nrF (s : ByteArray) (D : List ByteArray) : Int := if reqB s = false then 3 else if 20 < D.length then 2 else if decOk s = false then 10 else 0
def nrS (s : ByteArray) (D : List ByteArray) : ByteArray := if nrF s D = 0 then normG (decS s) D else ⟨#[]⟩
theorem decS_size (s : ByteArray) : (decS s).size ≤ s.size := by
  unfold decS
  cases h : decG s.data.toList with
  | none => exact Nat.zero_le _
  | some t =>
    have := decG_len _ _ _ (Nat.le_refl _) h
    rw [Array.length_toList] at this
    rw [mk_size]
    exact this
theorem refS_mem {L : List ByteArray} {x : ByteArray} : x ∈ refS L ↔ x ∈ L := (refS_perm _ L rfl).mem_iff
theorem refS_len (L : List ByteArray) : (refS L).length = L.length := (refS_perm _ L rfl).length_eq
set_option maxRecDepth 100000 in
set_option maxHeartbeats 4000000 in
theorem normal1_any (q s : ByteArray) (D : List ByteArray) (v : Value) (w : World) (m : Int) (hr : reqB q = true) (hqs : s = decS q) (hok : decOk q = true) (hD : Sl w 1 encS v D) (hD20 : D.length ≤ 20) (hm : w.cell? ⟨0, 0, none⟩ = some (.int .i64 m)) :
    Calls Tryd.prog 23 #[.string q, v] w fun e w' => e = .returned (.tuple #[.string (normG s D), .int .i64 0]) ∧ Below w.heap.size w w' := by
  obtain ⟨_, hsq, _, _⟩ := reqB_true hr
  have hs : s.size ≤ 300 := by have := decS_size q; rw [← hqs] at this; omega
  have HI := Lib.hid (isReq_any q w (by omega))
  rw [hr] at HI
  have HDC := Lib.hid (fun W => decoded_any q W hsq)
  rw [← hqs, hok] at HDC
  have HM := Lib.hid hm
  have h0 := World.block_lt_of_cell? w _ hm
  have HCU := Lib.hid (fun W h => cut_any s ⟨#[63]⟩ m W (by omega) h)
  have hc1 := (cut_size s ⟨#[63]⟩).1
  have hc2 := (cut_size s ⟨#[63]⟩).2
  have HN : Hid (normG s D = if 0 < (partsQ s D).length then tidyB (wordsB (cutP s ⟨#[63]⟩) ⟨#[47]⟩) ++ (⟨#[63]⟩ ++ joinB (refS (partsQ s D)) ⟨#[38]⟩) else tidyB (wordsB (cutP s ⟨#[63]⟩) ⟨#[47]⟩)) := Lib.hid rfl
  have HPQ : Hid (partsQ s D = parF (wordsB (cutQ s ⟨#[63]⟩) ⟨#[38]⟩) D (wordsB (cutQ s ⟨#[63]⟩) ⟨#[38]⟩).length) := Lib.hid rfl
  obtain ⟨R, hR⟩ : ∃ R, R = normG s D := ⟨_, rfl⟩
  obtain ⟨P, hP⟩ : ∃ P, P = cutP s ⟨#[63]⟩ := ⟨_, rfl⟩
  obtain ⟨Q, hQ⟩ : ∃ Q, Q = cutQ s ⟨#[63]⟩ := ⟨_, rfl⟩
  have eP : (⟨(Lib.cut s.data.toList (⟨#[63]⟩ : ByteArray).data.toList).1.toArray⟩ : ByteArray) = P := by rw [hP]; rfl
  have eQ : (⟨(Lib.cut s.data.toList (⟨#[63]⟩ : ByteArray).data.toList).2.1.toArray⟩ : ByteArray) = Q := by rw [hQ]; rfl
  rw [eP] at hc1
  rw [eQ] at hc2
  rw [eP, eQ] at HCU
  rw [← hR] at HN ⊢
  rw [← hP] at HN
  rw [← hQ] at HPQ
  generalize (Lib.cut s.data.toList (⟨#[63]⟩ : ByteArray).data.toList).2.2 = Z at HCU
  obtain ⟨W, hW⟩ : ∃ W, W = wordsB Q ⟨#[38]⟩ := ⟨_, rfl⟩
  have HSP := Lib.hid (fun w' h => split_any Q ⟨#[38]⟩ m w' (by omega) h (by decide))
  have hWL := words_many Q ⟨#[38]⟩ (by decide)
  have HWS := Lib.hid (fun x h => @words_size Q ⟨#[38]⟩ x h)
  have HTD := Lib.hid (fun w' h => tidy_any P w' m (by omega) h (by have := words_many P ⟨#[47]⟩ (by decide); omega) (fun x hx => by have := words_size hx; omega))
  rw [← hW] at HPQ HSP hWL HWS
  have HTS := Lib.hid (tidyB_size (ps := wordsB P ⟨#[47]⟩) (fun x hx => by have := words_size hx; omega) (by have := words_many P ⟨#[47]⟩ (by decide); omega))
  obtain ⟨TD, hTD⟩ : ∃ T, T = tidyB (wordsB P ⟨#[47]⟩) := ⟨_, rfl⟩
  rw [← hTD] at HN HTD HTS
  obtain ⟨PA, hPA⟩ : ∃ P, P = partsQ s D := ⟨_, rfl⟩
  rw [← hPA] at HN HPQ
  clear eP eQ hR hP hQ hW hTD hPA hr hqs hok hm
  have HDS := Lib.hid hD
  have HQS : Hid (Q.size ≤ 300) := Lib.hid (by omega)
  obtain ⟨dao, dcap, rfl, hdc, hdm, _, _⟩ := hD
  unfold maxLen at hdm
  have hW301 : W.length ≤ 301 := by have := HQS.out; omega
  clear hc1 hc2 hs hsq hWL
  go_enter Tryd.func23, Tryd.ntmps23
  go_wp2_with fail
  refine HI.out.mono ?_
  rintro e w1 ⟨rfl, rfl⟩
  go_wp2_with fail
  refine (HDC.out _).mono ?_
  rintro e w1 ⟨rfl, hb1⟩
  have HB1 := Lib.hid hb1
  have HM1 := Lib.hid ((hb1.cell (p := ⟨0, 0, none⟩) h0).trans HM.out)
  clear hb1
  go_wp2_with fail
  refine (HCU.out _ HM1.out).mono ?_
  rintro e w2 ⟨rfl, nn, rfl⟩
  have HM2 : Hid ((w1.drewN nn).cell? ⟨0, 0, none⟩ = some (.int .i64 m)) := HM1
  have HB2 := Lib.hid (below_drewN HB1.out nn)
  clear HB1
  obtain ⟨w2, hw2⟩ : ∃ w2, w2 = w1.drewN nn := ⟨_, rfl⟩
  rw [← hw2] at HM2 HB2 ⊢
  clear hw2 HM1
  go_wp2_with fail
  refine (HSP.out _ HM2.out).mono ?_
  rintro e w3 ⟨rfl, hw3⟩
  have HEL : Hid (∀ (k : Nat) (x : ByteArray), W[k]? = some x → w3.cell? ⟨w2.heap.size, k, none⟩ = some (.string x)) := Lib.hid (fun k x hx => by
    rw [hw3, cell_of_block (block_new w2 _)]
    simp [hx])
  have hb3 : Below w2.heap.size w2 w3 := by rw [hw3]; exact (Below.refl _ _).alloc (Nat.le_refl _) _
  have hsz3 : w3.heap.size = w2.heap.size + 1 := by rw [hw3]; simp
  have hsz2 := HB2.out.size
  have HB3 := Lib.hid (HB2.out.trans (hb3.mono hsz2))
  have HM3 := Lib.hid ((hb3.cell (p := ⟨0, 0, none⟩) (show 0 < w2.heap.size by omega)).trans HM2.out)
  obtain ⟨A0, hA0⟩ : ∃ A0, A0 = w2.heap.size := ⟨_, rfl⟩
  rw [← hA0] at HEL hsz3 ⊢
  have hA3 : A0 < w3.heap.size := by omega
  clear hw3 hb3 hsz3 hA0 HM2 HB2
  go_wp2
  go_loopg [11, 39] W.length (fun gg s11 s39 wr => ∃ kk : Nat, kk ≤ W.length ∧ W.length - kk ≤ gg ∧ s39 = .int .i64 kk ∧ Aside (Own wr w3.heap.size 9 1 encS s11 (parF W D kk)) ∧ Aside (Below w3.heap.size w3 wr))
  case atStart => exact ⟨0, Nat.zero_le _, by omega, by go_num, Own.nil, Below.refl _ _⟩
  case round =>
    obtain ⟨kk, hkk, hg, rfl, OW, BW⟩ := hrel
    have HOW := Lib.hid OW.out
    have HBW := Lib.hid BW.out
    have hszw := HBW.out.size
    have HMR := Lib.hid ((HBW.out.cell (p := ⟨0, 0, none⟩) (show 0 < w3.heap.size by omega)).trans HM3.out)
    obtain ⟨T, hT⟩ : ∃ T, T = parF W D kk := ⟨_, rfl⟩
    have hTL := parF_len W D kk
    rw [← hT] at HOW hTL
    have HT := Lib.hid hT
    clear hT OW BW
    obtain ⟨ao5, cp5, rfl, hcap5, hmax5, _, _⟩ := Own.sl HOW.out encS_len
    unfold maxLen at hmax5
    by_cases hlt : kk < W.length
    · have hltz : (kk : Int) < (W.length : Int) := by omega
      obtain ⟨x, hx⟩ : ∃ x, W[kk]? = some x := ⟨W[kk], by simp [hlt]⟩
      have c0 : wr.cell? ⟨A0, kk, none⟩ = some (.string x) := (HBW.out.cell (p := ⟨A0, kk, none⟩) hA3).trans (HEL.out kk x hx)
      have HTN := Lib.hid (parF_next (D := D) hx)
      rw [← HT.out] at HTN
      have HXS : Hid (x.size ≤ 1000) := Lib.hid (Nat.le_trans (HWS.out x (List.mem_of_getElem? hx)) (Nat.le_trans HQS.out (by decide)))
      clear hx
      by_cases e1 : x = ⟨#[]⟩
      · subst e1
        have HN2 : Hid (parF W D (kk + 1) = T) := Lib.hid (by rw [HTN.out]; simp [keepP])
        go_wp2
        go_roundg (W.length - (kk + 1))
        case measure => omega
        case rel => exact ⟨kk + 1, by omega, by omega, by go_num, (show Own _ _ _ _ _ _ _ by rw [HN2.out]; exact HOW.out), HBW.out⟩
      · have hke : Hid (keepP D x = !containsS D (nameP x)) := Lib.hid (by simp [keepP, e1])
        have f1 : (x.toList == []) = false := str_ne e1
        have HNO := Lib.hid (nameOf_any x m wr HXS.out HMR.out)
        have HCO := Lib.hid (fun n => contains_any D (nameP x) _ (wr.drewN n) ((HDS.out.below (HB3.out) (Nat.le_refl _)).below (below_drewN HBW.out n) (Nat.le_refl _)))
        obtain ⟨c, hc⟩ : ∃ c, c = containsS D (nameP x) := ⟨_, rfl⟩
        rw [← hc] at hke HCO
        obtain ⟨nx, hnx⟩ : ∃ c, c = nameP x := ⟨_, rfl⟩
        rw [← hnx] at HCO HNO
        clear e1 hc hnx
        cases c
        case true =>
          have HN2 : Hid (parF W D (kk + 1) = T) := Lib.hid (by rw [HTN.out, hke.out]; simp)
          go_wp2_with fail
          refine HNO.out.mono ?_
          rintro e w5 ⟨rfl, n5, rfl⟩
          go_wp2_with fail
          refine (HCO.out n5).mono ?_
          rintro e w6 ⟨rfl, rfl⟩
          go_wp2
          go_roundg (W.length - (kk + 1))
          case measure => omega
          case rel => exact ⟨kk + 1, by omega, by omega, by go_num, (show Own _ _ _ _ _ _ _ by rw [HN2.out]; exact HOW.out), below_drewN HBW.out _⟩
        case false =>
          have HN2 : Hid (parF W D (kk + 1) = T ++ [x]) := Lib.hid (by rw [HTN.out, hke.out]; simp)
          have HK : Hid ((T.length + 1) * 16 ≤ 140737488355328) := Lib.hid (by omega)
          go_wp2_with fail
          refine HNO.out.mono ?_
          rintro e w5 ⟨rfl, n5, rfl⟩
          go_wp2_with fail
          refine (HCO.out n5).mono ?_
          rintro e w6 ⟨rfl, rfl⟩
          have HOW5 := Lib.hid (HOW.out.drewN n5)
          have HBW5 := Lib.hid (below_drewN HBW.out n5)
          obtain ⟨w5, hw5⟩ : ∃ w5, w5 = wr.drewN n5 := ⟨_, rfl⟩
          rw [← hw5] at HOW5 HBW5 ⊢
          have hsz5 := HBW5.out.size
          clear hw5 HOW HBW
          go_wp2_with (at_builtin; refine wpList_push rfl _ _ 44 rfl slS rfl rfl x rfl rfl rfl HOW5.out rfl HK.out hsz5 ?_; intro v5 w5 ho5 hb5; obtain ⟨ao6, cp6, rfl, hcap6, hmax6, _, _⟩ := Own.sl ho5 encS_len; have HO5 := Lib.hid ho5; have HB5 := Lib.hid (HBW5.out.trans hb5); clear ho5 hb5)
          go_roundg (W.length - (kk + 1))
          case measure => omega
          case rel => exact ⟨kk + 1, by omega, by omega, by go_num, (show Own _ _ _ _ _ _ _ by rw [HN2.out]; have h := HO5.out; rw [List.length_append] at h; exact h), HB5.out⟩
    · obtain rfl : kk = W.length := by omega
      have hltz : ¬ (W.length : Int) < (W.length : Int) := by omega
      have hTP : T = PA := by rw [HT.out, HPQ.out]
      subst hTP
      have HTB : Hid (∀ x, x ∈ T → x.size ≤ 1000) := Lib.hid (fun x hx => by
        have h1 := parF_mem W D W.length (Nat.le_refl _) x (by rw [← HT.out]; exact hx)
        exact Nat.le_trans (HWS.out x h1) (Nat.le_trans HQS.out (by decide)))
      have HSO := Lib.hid (sortG_any wr w3.heap.size _ T m (by omega) HMR.out HOW.out HTB.out (by omega) hszw)
      go_wp2_with fail
      refine HSO.out.mono ?_
      rintro e w6 ⟨rfl, ho6, hb6⟩
      have HO6 := Lib.hid ho6
      have HB6 := Lib.hid ((HB3.out.trans (HBW.out.mono (HB3.out.size))).trans (hb6.mono (HB3.out.size)))
      have HM6 := Lib.hid ((hb6.cell (p := ⟨0, 0, none⟩) (show 0 < w3.heap.size by omega)).trans HMR.out)
      clear ho6 hb6
      go_wp2_with fail
      refine (HTD.out _ HM6.out).mono ?_
      rintro e w7 ⟨rfl, hb7⟩
      have HB7 := Lib.hid (HB6.out.trans (hb7.mono HB6.out.size))
      have HSL7 := Lib.hid ((HO6.out.sl encS_len).below hb7 (Nat.le_refl _))
      clear hb7
      have HJ := Lib.hid (join_any (refS T) ⟨#[38]⟩ _ w7 HSL7.out (fun x hx => HTB.out x (refS_mem.1 hx)) (by rw [refS_len]; omega) (by decide))
      have hJs := joinB_size (L := refS T) (sep := ⟨#[38]⟩) (fun x hx => HTB.out x (refS_mem.1 hx)) (by rw [refS_len]; omega) (by decide)
      have hts := HTS.out
      by_cases hT0 : 0 < T.length
      · have hTz : (0 : Int) < (T.length : Int) := by omega
        have HNN : Hid (TD ++ (⟨#[63]⟩ ++ joinB (refS T) ⟨#[38]⟩) = R) := Lib.hid (by rw [HN.out, if_pos hT0])
        generalize joinB (refS T) ⟨#[38]⟩ = J at HJ hJs HNN
        have hsz1 : ((⟨#[63]⟩ : ByteArray) ++ J).size = 1 + J.size := by rw [ByteArray.size_append]; rfl
        clear hT0
        go_wp2_with fail
        refine HJ.out.mono ?_
        rintro e w8 ⟨rfl, hb8⟩
        have HB8 := Lib.hid (HB7.out.trans (hb8.mono HB7.out.size))
        clear hb8
        go_wp2
        go_ret2
        exact ⟨ret_two HNN.out, HB8.out⟩
      · have hTz : ¬ (0 : Int) < (T.length : Int) := by omega
        have HNN : Hid (TD = R) := Lib.hid (by rw [HN.out, if_neg hT0])
        clear hT0
        go_wp2
        go_ret2
        exact ⟨ret_two HNN.out, HB7.out⟩

set_option maxRecDepth 100000 in
set_option maxHeartbeats 1000000 in
theorem normalE_any (s : ByteArray) (D : List ByteArray) (v : Value) (w : World) (m : Int) (hs : s.size ≤ 9223372036854775807) (hD : Sl w 1 encS v D) (hm : w.cell? ⟨0, 0, none⟩ = some (.int .i64 m)) :
    Calls Tryd.prog 23 #[.string s, v] w fun e w' => e = .returned (.tuple #[.string (nrS s D), .int .i64 (nrF s D)]) ∧ Below w.heap.size w w' := by
  have HI := Lib.hid (isReq_any s w hs)
  cases hr : reqB s
  case false =>
    have hF : Hid (nrF s D = 3) := Lib.hid (by unfold nrF; rw [if_pos hr])
    have hS : Hid (nrS s D = ⟨#[]⟩) := Lib.hid (by unfold nrS; rw [hF.out]; rfl)
    rw [hr] at HI
    obtain ⟨ao, cap, rfl, -, -, -, -⟩ := hD
    clear hr
    go_enter Tryd.func23, Tryd.ntmps23
    go_wp2_with fail
    refine HI.out.mono ?_
    rintro e w1 ⟨rfl, rfl⟩
    go_wp2_with fail
    go_ret2
    exact ⟨by rw [hF.out, hS.out]; rfl, Below.refl _ _⟩
  have h300 := (reqB_true hr).2.1
  by_cases h20 : 20 < D.length
  · have hF : Hid (nrF s D = 2) := Lib.hid (by unfold nrF; rw [if_neg (by simp [hr]), if_pos h20])
    have hS : Hid (nrS s D = ⟨#[]⟩) := Lib.hid (by unfold nrS; rw [hF.out]; rfl)
    rw [hr] at HI
    obtain ⟨ao, cap, rfl, -, -, -, -⟩ := hD
    have hz : (20 : Int) < (D.length : Int) := by omega
    clear hr
    go_enter Tryd.func23, Tryd.ntmps23
    go_wp2_with fail
    refine HI.out.mono ?_
    rintro e w1 ⟨rfl, rfl⟩
    go_wp2_with fail
    go_ret2
    exact ⟨by rw [hF.out, hS.out]; rfl, Below.refl _ _⟩
  cases hk : decOk s
  case false =>
    have hF : Hid (nrF s D = 10) := Lib.hid (by unfold nrF; rw [if_neg (by simp [hr]), if_neg h20, if_pos hk])
    have hS : Hid (nrS s D = ⟨#[]⟩) := Lib.hid (by unfold nrS; rw [hF.out]; rfl)
    have HDC := Lib.hid (fun W => decoded_any s W h300)
    rw [hr] at HI
    rw [hk] at HDC
    obtain ⟨ao, cap, rfl, -, -, -, -⟩ := hD
    have hz : ¬ (20 : Int) < (D.length : Int) := by omega
    clear hr hk
    go_enter Tryd.func23, Tryd.ntmps23
    go_wp2_with fail
    refine HI.out.mono ?_
    rintro e w1 ⟨rfl, rfl⟩
    go_wp2_with fail
    refine (HDC.out _).mono ?_
    rintro e w2 ⟨rfl, hb2⟩
    have HB2 := Lib.hid hb2
    clear hb2
    go_wp2_with fail
    go_ret2
    exact ⟨by rw [hF.out, hS.out]; rfl, HB2.out⟩
  have hF : nrF s D = 0 := by unfold nrF; rw [if_neg (by simp [hr]), if_neg h20, if_neg (by simp [hk])]
  have hS : nrS s D = normG (decS s) D := by unfold nrS; rw [hF]; rfl
  rw [hF, hS]
  exact normal1_any s (decS s) D v w m hr rfl hk hD (by omega) hm
end Go.Proofs.YtmgbmoiefgfemaaDoor

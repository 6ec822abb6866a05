/- Normal, of a request without %, with fewer than 20 parts: the walk; awake. -/
import Derived.Test.YtmgbmoiefgfemaaDoorNor0
namespace Go.Proofs.YtmgbmoiefgfemaaDoor
open Go.RowKit Go.Lib Go.Sort Go.Shelf

theorem ret_two {a b : ByteArray} {f : Value} (h : a = b) : Ending.returned (.tuple #[.string a, f]) = .returned (.tuple #[.string b, f]) := by rw [h]
set_option maxRecDepth 100000 in
set_option maxHeartbeats 4000000 in
theorem normal0_any (s : ByteArray) (D : List ByteArray) (v : Value) (w : World) (m : Int) (hr : reqB s = true) (h37 : ∀ i, i < s.size → ¬ chr s i = 37) (hD : Sl w 1 encS v D) (hD20 : D.length ≤ 20) (hm : w.cell? ⟨0, 0, none⟩ = some (.int .i64 m)) (hn : (partsQ s D).length < 20) :
    Calls Tryd.prog 23 #[.string s, v] w fun e w' => e = .returned (.tuple #[.string (normB s D), .int .i64 0]) ∧ Below w.heap.size w w' := by
  obtain ⟨_, hs, _, _⟩ := reqB_true hr
  have HI := Lib.hid (isReq_any s w (by omega))
  rw [hr] at HI
  have HDC := Lib.hid (fun W => decoded0_any s W hs h37)
  have HM := Lib.hid hm
  have h0 := World.block_lt_of_cell? w _ hm
  have HCU := Lib.hid (fun W h => cut_any s ⟨#[63]⟩ m W (by omega) h)
  have hc1 := (cut_size s ⟨#[63]⟩).1
  have hc2 := (cut_size s ⟨#[63]⟩).2
  have HN : Hid (normB s D = if 0 < (partsQ s D).length then tidyB (wordsB (cutP s ⟨#[63]⟩) ⟨#[47]⟩) ++ (⟨#[63]⟩ ++ joinB (sortB (partsQ s D)) ⟨#[38]⟩) else tidyB (wordsB (cutP s ⟨#[63]⟩) ⟨#[47]⟩)) := Lib.hid rfl
  have HPQ : Hid (partsQ s D = parF (wordsB (cutQ s ⟨#[63]⟩) ⟨#[38]⟩) D (wordsB (cutQ s ⟨#[63]⟩) ⟨#[38]⟩).length) := Lib.hid rfl
  obtain ⟨R, hR⟩ : ∃ R, R = normB s D := ⟨_, rfl⟩
  obtain ⟨P, hP⟩ : ∃ P, P = cutP s ⟨#[63]⟩ := ⟨_, rfl⟩
  obtain ⟨Q, hQ⟩ : ∃ Q, Q = cutQ s ⟨#[63]⟩ := ⟨_, rfl⟩
  have eP : (⟨(Lib.cut s.data.toList (⟨#[63]⟩ : ByteArray).data.toList).1.toArray⟩ : ByteArray) = P := by rw [hP]; rfl
  have eQ : (⟨(Lib.cut s.data.toList (⟨#[63]⟩ : ByteArray).data.toList).2.1.toArray⟩ : ByteArray) = Q := by rw [hQ]; rfl
  rw [eP] at hc1
  rw [eQ] at hc2
  rw [eP, eQ] at HCU
  rw [← hR] at HN ⊢
  rw [← hP] at HN
  rw [← hQ] at HPQ
  generalize (Lib.cut s.data.toList (⟨#[63]⟩ : ByteArray).data.toList).2.2 = Z at HCU
  obtain ⟨W, hW⟩ : ∃ W, W = wordsB Q ⟨#[38]⟩ := ⟨_, rfl⟩
  have HSP := Lib.hid (fun w' h => split_any Q ⟨#[38]⟩ m w' (by omega) h (by decide))
  have hWL := words_many Q ⟨#[38]⟩ (by decide)
  have HWS := Lib.hid (fun x h => @words_size Q ⟨#[38]⟩ x h)
  have HTD := Lib.hid (fun w' h => tidy_any P w' m (by omega) h (by have := words_many P ⟨#[47]⟩ (by decide); omega) (fun x hx => by have := words_size hx; omega))
  rw [← hW] at HPQ HSP hWL HWS
  have HTS := Lib.hid (tidyB_size (ps := wordsB P ⟨#[47]⟩) (fun x hx => by have := words_size hx; omega) (by have := words_many P ⟨#[47]⟩ (by decide); omega))
  obtain ⟨TD, hTD⟩ : ∃ T, T = tidyB (wordsB P ⟨#[47]⟩) := ⟨_, rfl⟩
  rw [← hTD] at HN HTD HTS
  obtain ⟨PA, hPA⟩ : ∃ P, P = partsQ s D := ⟨_, rfl⟩
  rw [← hPA] at HN HPQ hn
  clear eP eQ hR hP hQ hW hTD hPA hr h37 hm
  have HDS := Lib.hid hD
  have HQS : Hid (Q.size ≤ 300) := Lib.hid (by omega)
  obtain ⟨dao, dcap, rfl, hdc, hdm, _, _⟩ := hD
  unfold maxLen at hdm
  have hW301 : W.length ≤ 301 := by have := HQS.out; omega
  clear hc1 hc2 hs hWL
  go_enter Tryd.func23, Tryd.ntmps23
  go_wp2_with fail
  refine HI.out.mono ?_
  rintro e w1 ⟨rfl, rfl⟩
  go_wp2_with fail
  refine (HDC.out _).mono ?_
  rintro e w1 ⟨rfl, hb1⟩
  have HB1 := Lib.hid hb1
  have HM1 := Lib.hid ((hb1.cell (p := ⟨0, 0, none⟩) h0).trans HM.out)
  clear hb1
  go_wp2_with fail
  refine (HCU.out _ HM1.out).mono ?_
  rintro e w2 ⟨rfl, nn, rfl⟩
  have HM2 : Hid ((w1.drewN nn).cell? ⟨0, 0, none⟩ = some (.int .i64 m)) := HM1
  have HB2 := Lib.hid (below_drewN HB1.out nn)
  clear HB1
  obtain ⟨w2, hw2⟩ : ∃ w2, w2 = w1.drewN nn := ⟨_, rfl⟩
  rw [← hw2] at HM2 HB2 ⊢
  clear hw2 HM1
  go_wp2_with fail
  refine (HSP.out _ HM2.out).mono ?_
  rintro e w3 ⟨rfl, hw3⟩
  have HEL : Hid (∀ (k : Nat) (x : ByteArray), W[k]? = some x → w3.cell? ⟨w2.heap.size, k, none⟩ = some (.string x)) := Lib.hid (fun k x hx => by
    rw [hw3, cell_of_block (block_new w2 _)]
    simp [hx])
  have hb3 : Below w2.heap.size w2 w3 := by rw [hw3]; exact (Below.refl _ _).alloc (Nat.le_refl _) _
  have hsz3 : w3.heap.size = w2.heap.size + 1 := by rw [hw3]; simp
  have hsz2 := HB2.out.size
  have HB3 := Lib.hid (HB2.out.trans (hb3.mono hsz2))
  have HM3 := Lib.hid ((hb3.cell (p := ⟨0, 0, none⟩) (show 0 < w2.heap.size by omega)).trans HM2.out)
  obtain ⟨A0, hA0⟩ : ∃ A0, A0 = w2.heap.size := ⟨_, rfl⟩
  rw [← hA0] at HEL hsz3 ⊢
  have hA3 : A0 < w3.heap.size := by omega
  clear hw3 hb3 hsz3 hA0 HM2 HB2
  go_wp2
  go_loopg [11, 39] W.length (fun gg s11 s39 wr => ∃ kk : Nat, kk ≤ W.length ∧ W.length - kk ≤ gg ∧ s39 = .int .i64 kk ∧ Aside (Own wr w3.heap.size 9 1 encS s11 (parF W D kk)) ∧ Aside (Below w3.heap.size w3 wr))
  case atStart => exact ⟨0, Nat.zero_le _, by omega, by go_num, Own.nil, Below.refl _ _⟩
  case round =>
    obtain ⟨kk, hkk, hg, rfl, OW, BW⟩ := hrel
    have HOW := Lib.hid OW.out
    have HBW := Lib.hid BW.out
    have hszw := HBW.out.size
    have HMR := Lib.hid ((HBW.out.cell (p := ⟨0, 0, none⟩) (show 0 < w3.heap.size by omega)).trans HM3.out)
    obtain ⟨T, hT⟩ : ∃ T, T = parF W D kk := ⟨_, rfl⟩
    have hTL := parF_len W D kk
    rw [← hT] at HOW hTL
    have HT := Lib.hid hT
    clear hT OW BW
    obtain ⟨ao5, cp5, rfl, hcap5, hmax5, _, _⟩ := Own.sl HOW.out encS_len
    unfold maxLen at hmax5
    by_cases hlt : kk < W.length
    · have hltz : (kk : Int) < (W.length : Int) := by omega
      obtain ⟨x, hx⟩ : ∃ x, W[kk]? = some x := ⟨W[kk], by simp [hlt]⟩
      have c0 : wr.cell? ⟨A0, kk, none⟩ = some (.string x) := (HBW.out.cell (p := ⟨A0, kk, none⟩) hA3).trans (HEL.out kk x hx)
      have HTN := Lib.hid (parF_next (D := D) hx)
      rw [← HT.out] at HTN
      have HXS : Hid (x.size ≤ 1000) := Lib.hid (Nat.le_trans (HWS.out x (List.mem_of_getElem? hx)) (Nat.le_trans HQS.out (by decide)))
      clear hx
      by_cases e1 : x = ⟨#[]⟩
      · subst e1
        have HN2 : Hid (parF W D (kk + 1) = T) := Lib.hid (by rw [HTN.out]; simp [keepP])
        go_wp2
        go_roundg (W.length - (kk + 1))
        case measure => omega
        case rel => exact ⟨kk + 1, by omega, by omega, by go_num, (show Own _ _ _ _ _ _ _ by rw [HN2.out]; exact HOW.out), HBW.out⟩
      · have hke : Hid (keepP D x = !containsS D (nameP x)) := Lib.hid (by simp [keepP, e1])
        have f1 : (x.toList == []) = false := str_ne e1
        have HNO := Lib.hid (nameOf_any x m wr HXS.out HMR.out)
        have HCO := Lib.hid (fun n => contains_any D (nameP x) _ (wr.drewN n) ((HDS.out.below (HB3.out) (Nat.le_refl _)).below (below_drewN HBW.out n) (Nat.le_refl _)))
        obtain ⟨c, hc⟩ : ∃ c, c = containsS D (nameP x) := ⟨_, rfl⟩
        rw [← hc] at hke HCO
        obtain ⟨nx, hnx⟩ : ∃ c, c = nameP x := ⟨_, rfl⟩
        rw [← hnx] at HCO HNO
        clear e1 hc hnx
        cases c
        case true =>
          have HN2 : Hid (parF W D (kk + 1) = T) := Lib.hid (by rw [HTN.out, hke.out]; simp)
          go_wp2_with fail
          refine HNO.out.mono ?_
          rintro e w5 ⟨rfl, n5, rfl⟩
          go_wp2_with fail
          refine (HCO.out n5).mono ?_
          rintro e w6 ⟨rfl, rfl⟩
          go_wp2
          go_roundg (W.length - (kk + 1))
          case measure => omega
          case rel => exact ⟨kk + 1, by omega, by omega, by go_num, (show Own _ _ _ _ _ _ _ by rw [HN2.out]; exact HOW.out), below_drewN HBW.out _⟩
        case false =>
          have HN2 : Hid (parF W D (kk + 1) = T ++ [x]) := Lib.hid (by rw [HTN.out, hke.out]; simp)
          have HK : Hid ((T.length + 1) * 16 ≤ 140737488355328) := Lib.hid (by omega)
          go_wp2_with fail
          refine HNO.out.mono ?_
          rintro e w5 ⟨rfl, n5, rfl⟩
          go_wp2_with fail
          refine (HCO.out n5).mono ?_
          rintro e w6 ⟨rfl, rfl⟩
          have HOW5 := Lib.hid (HOW.out.drewN n5)
          have HBW5 := Lib.hid (below_drewN HBW.out n5)
          obtain ⟨w5, hw5⟩ : ∃ w5, w5 = wr.drewN n5 := ⟨_, rfl⟩
          rw [← hw5] at HOW5 HBW5 ⊢
          have hsz5 := HBW5.out.size
          clear hw5 HOW HBW
          go_wp2_with (at_builtin; refine wpList_push rfl _ _ 44 rfl slS rfl rfl x rfl rfl rfl HOW5.out rfl HK.out hsz5 ?_; intro v5 w5 ho5 hb5; obtain ⟨ao6, cp6, rfl, hcap6, hmax6, _, _⟩ := Own.sl ho5 encS_len; have HO5 := Lib.hid ho5; have HB5 := Lib.hid (HBW5.out.trans hb5); clear ho5 hb5)
          go_roundg (W.length - (kk + 1))
          case measure => omega
          case rel => exact ⟨kk + 1, by omega, by omega, by go_num, (show Own _ _ _ _ _ _ _ by rw [HN2.out]; have h := HO5.out; rw [List.length_append] at h; exact h), HB5.out⟩
    · obtain rfl : kk = W.length := by omega
      have hltz : ¬ (W.length : Int) < (W.length : Int) := by omega
      have hTP : T = PA := by rw [HT.out, HPQ.out]
      subst hTP
      have HSO := Lib.hid (sortB_any wr w3.heap.size _ T m (by omega) HMR.out HOW.out (fun x hx => by
        have h1 := parF_mem W D W.length (Nat.le_refl _) x (by rw [← HT.out]; exact hx)
        exact Nat.le_trans (HWS.out x h1) (Nat.le_trans HQS.out (by decide))) hn)
      go_wp2_with fail
      refine HSO.out.mono ?_
      rintro e w6 ⟨rfl, ho6, hb6⟩
      have HO6 := Lib.hid ho6
      have HB6 := Lib.hid ((HB3.out.trans (HBW.out.mono (HB3.out.size))).trans (hb6.mono (HB3.out.size)))
      have HM6 := Lib.hid ((hb6.cell (p := ⟨0, 0, none⟩) (show 0 < w3.heap.size by omega)).trans HMR.out)
      clear ho6 hb6
      go_wp2_with fail
      refine (HTD.out _ HM6.out).mono ?_
      rintro e w7 ⟨rfl, hb7⟩
      have HB7 := Lib.hid (HB6.out.trans (hb7.mono HB6.out.size))
      have HSL7 := Lib.hid ((HO6.out.sl encS_len).below hb7 (Nat.le_refl _))
      clear hb7
      have HJ := Lib.hid (join_any (sortB T) ⟨#[38]⟩ _ w7 HSL7.out (fun x hx => sortB_mem hx) (by rw [sortB_len]; omega) (by decide))
      have hJs := joinB_size (L := sortB T) (sep := ⟨#[38]⟩) (fun x hx => sortB_mem hx) (by rw [sortB_len]; omega) (by decide)
      have hts := HTS.out
      by_cases hT0 : 0 < T.length
      · have hTz : (0 : Int) < (T.length : Int) := by omega
        have HNN : Hid (TD ++ (⟨#[63]⟩ ++ joinB (sortB T) ⟨#[38]⟩) = R) := Lib.hid (by rw [HN.out, if_pos hT0])
        generalize joinB (sortB T) ⟨#[38]⟩ = J at HJ hJs HNN
        have hsz1 : ((⟨#[63]⟩ : ByteArray) ++ J).size = 1 + J.size := by rw [ByteArray.size_append]; rfl
        clear hT0
        go_wp2_with fail
        refine HJ.out.mono ?_
        rintro e w8 ⟨rfl, hb8⟩
        have HB8 := Lib.hid (HB7.out.trans (hb8.mono HB7.out.size))
        clear hb8
        go_wp2
        go_ret2
        exact ⟨ret_two HNN.out, HB8.out⟩
      · have hTz : ¬ (0 : Int) < (T.length : Int) := by omega
        have HNN : Hid (TD = R) := Lib.hid (by rw [HN.out, if_neg hT0])
        clear hT0
        go_wp2
        go_ret2
        exact ⟨ret_two HNN.out, HB7.out⟩

theorem awake_key : normB ⟨#[47, 97, 47, 46, 46, 47, 98, 63, 121, 61, 50, 38, 120, 61, 49]⟩ [] = ⟨#[47, 98, 63, 120, 61, 49, 38, 121, 61, 50]⟩ := by decide +kernel
theorem awake_many : (partsQ ⟨#[47, 97, 47, 46, 46, 47, 98, 63, 121, 61, 50, 38, 120, 61, 49]⟩ []).length < 20 := by decide +kernel
theorem awake_req : reqB ⟨#[47, 97, 47, 46, 46, 47, 98, 63, 121, 61, 50, 38, 120, 61, 49]⟩ = true := by decide +kernel
theorem awake_37 : ∀ i, i < (⟨#[47, 97, 47, 46, 46, 47, 98, 63, 121, 61, 50, 38, 120, 61, 49]⟩ : ByteArray).size → ¬ chr ⟨#[47, 97, 47, 46, 46, 47, 98, 63, 121, 61, 50, 38, 120, 61, 49]⟩ i = 37 := by decide +kernel

set_option maxRecDepth 100000 in
theorem awakeE_any (w : World) (m : Int) (hm : w.cell? ⟨0, 0, none⟩ = some (.int .i64 m)) :
    Calls Tryd.prog 18 #[] w fun e w' => e = .returned (.bool true) ∧ Below w.heap.size w w' := by
  have h := normal0_any ⟨#[47, 97, 47, 46, 46, 47, 98, 63, 121, 61, 50, 38, 120, 61, 49]⟩ [] (.slice none 0 0) w m awake_req awake_37 Sl.nil (by decide) hm awake_many
  rw [awake_key] at h
  have H := Lib.hid h
  clear h hm
  go_enter Tryd.func18, Tryd.ntmps18
  go_wp2_with fail
  refine H.out.mono ?_
  rintro e w1 ⟨rfl, hb⟩
  have HB := Lib.hid hb
  clear hb
  go_wp2
  go_ret
  exact ⟨rfl, HB.out⟩
end Go.Proofs.YtmgbmoiefgfemaaDoor

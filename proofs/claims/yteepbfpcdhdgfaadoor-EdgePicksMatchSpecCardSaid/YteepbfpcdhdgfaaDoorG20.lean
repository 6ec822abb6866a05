/- Normal, of a request without %, with fewer than 20 parts: the walk; awake. -/
import Derived.Test.YteepbfpcdhdgfaaDoorG19
import Derived.Test.YteepbfpcdhdgfaaDoorG17
import Derived.Test.YteepbfpcdhdgfaaDoorG18
namespace Go.Proofs.YteepbfpcdhdgfaaDoor
open Go.RowKit Go.Lib Go.Sort Go.Shelf

theorem ret_two {a b : ByteArray} {f : Value} (h : a = b) : Ending.returned (.tuple #[.string a, f]) = .returned (.tuple #[.string b, f]) := by rw [h]
set_option maxRecDepth 100000 in
set_option maxHeartbeats 4000000 in
theorem normal0_any (s : ByteArray) (D : List ByteArray) (v : Value) (w : World) (m : Int) (hr : reqB s = true) (h37 : ∀ i, i < s.size → ¬ chr s i = 37) (hD : Sl w 1 encS v D) (hD20 : D.length ≤ 20) (hm : w.cell? ⟨0, 0, none⟩ = some (.int .i64 m)) (hn : (partsQ s D).length < 20) :
    Calls Tryd.prog 20 #[.string s, v] w fun e w' => e = .returned (.tuple #[.string (normB s D), .int .i64 0]) ∧ Below w.heap.size w w' := by
  obtain ⟨_, hs, _, _⟩ := reqB_true hr
  have HI := Lib.hid (isReq_any s w (by omega))
  rw [hr] at HI
  have HDC := Lib.hid (fun W => decoded0_any s W hs h37)
  have HM := Lib.hid hm
  have h0 := World.block_lt_of_cell? w _ hm
  have HCU := Lib.hid (fun W h => cut_any s ⟨#[63]⟩ m W (by omega) h)
  have hc1 := (cut_size s ⟨#[63]⟩).1
  have hc2 := (cut_size s ⟨#[63]⟩).2
  have HN : Hid (normB s D = if 0 < (partsQ s D).length then tidyB (wordsB (cutP s ⟨#[63]⟩) ⟨#[47]⟩) ++ (⟨#[63]⟩ ++ joinB (sortB (partsQ s D)) ⟨#[38]⟩) else tidyB (wordsB (cutP s ⟨#[63]⟩) ⟨#[47]⟩)) := Lib.hid rfl
  have HPQ : Hid (partsQ s D = parF (wordsB (cutQ s ⟨#[63]⟩) ⟨#[38]⟩) D (wordsB (cutQ s ⟨#[63]⟩) ⟨#[38]⟩).length) := Lib.hid rfl
  obtain ⟨R, hR⟩ : ∃ R, R = normB s D := ⟨_, rfl⟩
  obtain ⟨P, hP⟩ : ∃ P, P = cutP s ⟨#[63]⟩ := ⟨_, rfl⟩
  obtain ⟨Q, hQ⟩ : ∃ Q, Q = cutQ s ⟨#[63]⟩ := ⟨_, rfl⟩
  have eP : (⟨(Lib.cut s.data.toList (⟨#[63]⟩ : ByteArray).data.toList).1.toArray⟩ : ByteArray) = P := by rw [hP]; rfl
  have eQ : (⟨(Lib.cut s.data.toList (⟨#[63]⟩ : ByteArray).data.toList).2.1.toArray⟩ : ByteArray) = Q := by rw [hQ]; rfl
  rw [eP] at hc1
  rw [eQ] at hc2
  rw [eP, eQ] at HCU
  rw [← hR] at HN ⊢
  rw [← hP] at HN
  rw [← hQ] at HPQ
  generalize (Lib.cut s.data.toList (⟨#[63]⟩ : ByteArray).data.toList).2.2 = Z at HCU
  obtain ⟨W, hW⟩ : ∃ W, W = wordsB Q ⟨#[38]⟩ := ⟨_, rfl⟩
  have HSP := Lib.hid (fun w' h => split_any Q ⟨#[38]⟩ m w' (by omega) h (by decide))
  have hWL := words_many Q ⟨#[38]⟩ (by decide)
  have HWS := Lib.hid (fun x h => @words_size Q ⟨#[38]⟩ x h)
  have HTD := Lib.hid (fun w' h => tidy_any P w' m (by omega) h (by have := words_many P ⟨#[47]⟩ (by decide); omega) (fun x hx => by have := words_size hx; omega))
  rw [← hW] at HPQ HSP hWL HWS
  have HTS := Lib.hid (tidyB_size (ps := wordsB P ⟨#[47]⟩) (fun x hx => by have := words_size hx; omega) (by have := words_many P ⟨#[47]⟩ (by decide); omega))
  obtain ⟨TD, hTD⟩ : ∃ T, T = tidyB (wordsB P ⟨#[47]⟩) := ⟨_, rfl⟩
  rw [← hTD] at HN HTD HTS
  obtain ⟨PA, hPA⟩ : ∃ P, P = partsQ s D := ⟨_, rfl⟩
  rw [← hPA] at HN HPQ hn
  clear eP eQ hR hP hQ hW hTD hPA hr h37 hm
  have HDS := Lib.hid hD
  have HQS : Hid (Q.size ≤ 300) := Lib.hid (by omega)
  obtain ⟨dao, dcap, rfl, hdc, hdm, _, _⟩ := hD
  unfold maxLen at hdm
  have hW301 : W.length ≤ 301 := by have := HQS.out; omega
  clear hc1 hc2 hs hWL
  go_enter Tryd.func20, Tryd.ntmps20
  go_wp2_with fail
  refine HI.out.mono ?_
  rintro e w1 ⟨rfl, rfl⟩
  go_wp2_with fail
  refine (HDC.out _).mono ?_
  rintro e w1 ⟨rfl, hb1⟩
  have HB1 := Lib.hid hb1
  have HM1 := Lib.hid ((hb1.cell (p := ⟨0, 0, none⟩) h0).trans HM.out)
  clear hb1
  go_wp2_with fail
  refine (HCU.out _ HM1.out).mono ?_
  rintro e w2 ⟨rfl, nn, rfl⟩
  have HM2 : Hid ((w1.drewN nn).cell? ⟨0, 0, none⟩ = some (.int .i64 m)) := HM1
  have HB2 := Lib.hid (below_drewN HB1.out nn)
  clear HB1
  obtain ⟨w2, hw2⟩ : ∃ w2, w2 = w1.drewN nn := ⟨_, rfl⟩
  rw [← hw2] at HM2 HB2 ⊢
  clear hw2 HM1
  go_wp2_with fail
  refine (HSP.out _ HM2.out).mono ?_
  rintro e w3 ⟨rfl, hw3⟩
  have HEL : Hid (∀ (k : Nat) (x : ByteArray), W[k]? = some x → w3.cell? ⟨w2.heap.size, k, none⟩ = some (.string x)) := Lib.hid (fun k x hx => by
    rw [hw3, cell_of_block (block_new w2 _)]
    simp [hx])
  have hb3 : Below w2.heap.size w2 w3 := by rw [hw3]; exact (Below.refl _ _).alloc (Nat.le_refl _) _
  have hsz3 : w3.heap.size = w2.heap.size + 1 := by rw [hw3]; simp
  have hsz2 := HB2.out.size
  have HB3 := Lib.hid (HB2.out.trans (hb3.mono hsz2))
  have HM3 := Lib.hid ((hb3.cell (p := ⟨0, 0, none⟩) (show 0 < w2.heap.size by omega)).trans HM2.out)
  obtain ⟨A0, hA0⟩ : ∃ A0, A0 = w2.heap.size := ⟨_, rfl⟩
  rw [← hA0] at HEL hsz3 ⊢
  have hA3 : A0 < w3.heap.size := by omega
  clear hw3 hb3 hsz3 hA0 HM2 HB2
  go_wp2
  go_loopg [11, 39] W.length (fun gg s11 s39 wr => ∃ kk : Nat, kk ≤ W.length ∧ W.length - kk ≤ gg ∧ s39 = .int .i64 kk ∧ Aside (Own wr w3.heap.size 9 1 encS s11 (parF W D kk)) ∧ Aside (Below w3.heap.size w3 wr))
  case atStart => exact ⟨0, Nat.zero_le _, by omega, by go_num, Own.nil, Below.refl _ _⟩
  case round =>
    obtain ⟨kk, hkk, hg, rfl, OW, BW⟩ := hrel
    have HOW := Lib.hid OW.out
    have HBW := Lib.hid BW.out
    have hszw := HBW.out.size
    have HMR := Lib.hid ((HBW.out.cell (p := ⟨0, 0, none⟩) (show 0 < w3.heap.size by omega)).trans HM3.out)
    obtain ⟨T, hT⟩ : ∃ T, T = parF W D kk := ⟨_, rfl⟩
    have hTL := parF_len W D kk
    rw [← hT] at HOW hTL
    have HT := Lib.hid hT
    clear hT OW BW
    obtain ⟨ao5, cp5, rfl, hcap5, hmax5, _, _⟩ := Own.sl HOW.out encS_len
    unfold maxLen at hmax5
    by_cases hlt : kk < W.length
    · have hltz : (kk : Int) < (W.length : Int) := by omega
      obtain ⟨x, hx⟩ : ∃ x, W[kk]? = some x := ⟨W[kk], by simp [hlt]⟩
      have c0 : wr.cell? ⟨A0, kk, none⟩ = some (.string x) := (HBW.out.cell (p := ⟨A0, kk, none⟩) hA3).trans (HEL.out kk x hx)
      have HTN := Lib.hid (parF_next (D := D) hx)
      rw [← HT.out] at HTN
      have HXS : Hid (x.size ≤ 1000) := Lib.hid (Nat.le_trans (HWS.out x (List.mem_of_getElem? hx)) (Nat.le_trans HQS.out (by decide)))
      clear hx
      by_cases e1 : x = ⟨#[]⟩
      · subst e1
        have HN2 : Hid (parF W D (kk + 1) = T) := Lib.hid (by rw [HTN.out]; simp [keepP])
        go_wp2
        go_roundg (W.length - (kk + 1))
        case measure => omega
        case rel => exact ⟨kk + 1, by omega, by omega, by go_num, (show Own _ _ _ _ _ _ _ by rw [HN2.out]; exact HOW.out), HBW.out⟩
      · have hke : Hid (keepP D x = !containsS D (nameP x)) := Lib.hid (by simp [keepP, e1])
        have f1 : (x.toList == []) = false := str_ne e1
        have HNO := Lib.hid (nameOf_any x m wr HXS.out HMR.out)
        have HCO := Lib.hid (fun n => contains_any D (nameP x) _ (wr.drewN n) ((HDS.out.below (HB3.out) (Nat.le_refl _)).below (below_drewN HBW.out n) (Nat.le_refl _)))
        obtain ⟨c, hc⟩ : ∃ c, c = containsS D (nameP x) := ⟨_, rfl⟩
        rw [← hc] at hke HCO
        obtain ⟨nx, hnx⟩ : ∃ c, c = nameP x := ⟨_, rfl⟩
        rw [← hnx] at HCO HNO
        clear e1 hc hnx
        cases c
        case true =>
          have HN2 : Hid (parF W D (kk + 1) = T) := Lib.hid (by rw [HTN.out, hke.out]; simp)
          go_wp2_with fail
          refine HNO.out.mono ?_
          rintro e w5 ⟨rfl, n5, rfl⟩
          go_wp2_with fail
          refine (HCO.out n5).mono ?_
          rintro e w6 ⟨rfl, rfl⟩
          go_wp2
          go_roundg (W.length - (kk + 1))
          case measure => omega
          case rel => exact ⟨kk + 1, by omega, by omega, by go_num, (show Own _ _ _ _ _ _ _ by rw [HN2.out]; exact HOW.out), below_drewN HBW.out _⟩
        case false =>
          have HN2 : Hid (parF W D (kk + 1) = T ++ [x]) := Lib.hid (by rw [HTN.out, hke.out]; simp)
          have HK : Hid ((T.length + 1) * 16 ≤ 140737488355328) := Lib.hid (by omega)
          go_wp2_with fail
          refine HNO.out.mono ?_
          rintro e w5 ⟨rfl, n5, rfl⟩
          go_wp2_with fail
          refine (HCO.out n5).mono ?_
          rintro e w6 ⟨rfl, rfl⟩
          have HOW5 := Lib.hid (HOW.out.drewN n5)
          have HBW5 := Lib.hid (below_drewN HBW.out n5)
          obtain ⟨w5, hw5⟩ : ∃ w5, w5 = wr.drewN n5 := ⟨_, rfl⟩
          rw [← hw5] at HOW5 HBW5 ⊢
          have hsz5 := HBW5.out.size
          clear hw5 HOW HBW
          go_wp2_with (at_builtin; refine wpList_push rfl _ _ 22 rfl slS rfl rfl x rfl rfl rfl HOW5.out rfl HK.out hsz5 ?_; intro v5 w5 ho5 hb5; obtain ⟨ao6, cp6, rfl, hcap6, hmax6, _, _⟩ := Own.sl ho5 encS_len; have HO5 := Lib.hid ho5; have HB5 := Lib.hid (HBW5.out.trans hb5); clear ho5 hb5)
          go_roundg (W.length - (kk + 1))
          case measure => omega
          case rel => exact ⟨kk + 1, by omega, by omega, by go_num, (show Own _ _ _ _ _ _ _ by rw [HN2.out]; have h := HO5.out; rw [List.length_append] at h; exact h), HB5.out⟩
    · obtain rfl : kk = W.length := by omega
      have hltz : ¬ (W.length : Int) < (W.length : Int) := by omega
      have hTP : T = PA := by rw [HT.out, HPQ.out]
      subst hTP
      have HSO := Lib.hid (sortB_any wr w3.heap.size _ T m (by omega) HMR.out HOW.out (fun x hx => by
        have h1 := parF_mem W D W.length (Nat.le_refl _) x (by rw [← HT.out]; exact hx)
        exact Nat.le_trans (HWS.out x h1) (Nat.le_trans HQS.out (by decide))) hn)
      go_wp2_with fail
      refine HSO.out.mono ?_
      rintro e w6 ⟨rfl, ho6, hb6⟩
      have HO6 := Lib.hid ho6
      have HB6 := Lib.hid ((HB3.out.trans (HBW.out.mono (HB3.out.size))).trans (hb6.mono (HB3.out.size)))
      have HM6 := Lib.hid ((hb6.cell (p := ⟨0, 0, none⟩) (show 0 < w3.heap.size by omega)).trans HMR.out)
      clear ho6 hb6
      go_wp2_with fail
      refine (HTD.out _ HM6.out).mono ?_
      rintro e w7 ⟨rfl, hb7⟩
      have HB7 := Lib.hid (HB6.out.trans (hb7.mono HB6.out.size))
      have HSL7 := Lib.hid ((HO6.out.sl encS_len).below hb7 (Nat.le_refl _))
      clear hb7
      have HJ := Lib.hid (join_any (sortB T) ⟨#[38]⟩ _ w7 HSL7.out (fun x hx => sortB_mem hx) (by rw [sortB_len]; omega) (by decide))
      have hJs := joinB_size (L := sortB T) (sep := ⟨#[38]⟩) (fun x hx => sortB_mem hx) (by rw [sortB_len]; omega) (by decide)
      have hts := HTS.out
      by_cases hT0 : 0 < T.length
      · have hTz : (0 : Int) < (T.length : Int) := by omega
        have HNN : Hid (TD ++ (⟨#[63]⟩ ++ joinB (sortB T) ⟨#[38]⟩) = R) := Lib.hid (by rw [HN.out, if_pos hT0])
        generalize joinB (sortB T) ⟨#[38]⟩ = J at HJ hJs HNN
        have hsz1 : ((⟨#[63]⟩ : ByteArray) ++ J).size = 1 + J.size := by rw [ByteArray.size_append]; rfl
        clear hT0
        go_wp2_with fail
        refine HJ.out.mono ?_
        rintro e w8 ⟨rfl, hb8⟩
        have HB8 := Lib.hid (HB7.out.trans (hb8.mono HB7.out.size))
        clear hb8
        go_wp2
        go_ret2
        exact ⟨ret_two HNN.out, HB8.out⟩
      · have hTz : ¬ (0 : Int) < (T.length : Int) := by omega
        have HNN : Hid (TD = R) := Lib.hid (by rw [HN.out, if_neg hT0])
        clear hT0
        go_wp2
        go_ret2
        exact ⟨ret_two HNN.out, HB7.out⟩

theorem awake_key : normB ⟨#[47, 97, 47, 46, 46, 47, 98, 63, 121, 61, 50, 38, 120, 61, 49]⟩ [] = ⟨#[47, 98, 63, 120, 61, 49, 38, 121, 61, 50]⟩ := by decide +kernel
theorem awake_many : (partsQ ⟨#[47, 97, 47, 46, 46, 47, 98, 63, 121, 61, 50, 38, 120, 61, 49]⟩ []).length < 20 := by decide +kernel
theorem awake_req : reqB ⟨#[47, 97, 47, 46, 46, 47, 98, 63, 121, 61, 50, 38, 120, 61, 49]⟩ = true := by decide +kernel
theorem awake_37 : ∀ i, i < (⟨#[47, 97, 47, 46, 46, 47, 98, 63, 121, 61, 50, 38, 120, 61, 49]⟩ : ByteArray).size → ¬ chr ⟨#[47, 97, 47, 46, 46, 47, 98, 63, 121, 61, 50, 38, 120, 61, 49]⟩ i = 37 := by decide +kernel

set_option maxRecDepth 100000 in
theorem awakeE_any (w : World) (m : Int) (hm : w.cell? ⟨0, 0, none⟩ = some (.int .i64 m)) :
    Calls Tryd.prog 7 #[] w fun e w' => e = .returned (.bool true) ∧ Below w.heap.size w w' := by
  have h := normal0_any ⟨#[47, 97, 47, 46, 46, 47, 98, 63, 121, 61, 50, 38, 120, 61, 49]⟩ [] (.slice none 0 0) w m awake_req awake_37 Sl.nil (by decide) hm awake_many
  rw [awake_key] at h
  have H := Lib.hid h
  clear h hm
  go_enter Tryd.func7, Tryd.ntmps7
  go_wp2_with fail
  refine H.out.mono ?_
  rintro e w1 ⟨rfl, hb⟩
  have HB := Lib.hid hb
  clear hb
  go_wp2
  go_ret
  exact ⟨rfl, HB.out⟩
end Go.Proofs.YteepbfpcdhdgfaaDoor

/- Pick and Moved of the reference; the law EdgePicksMatchSpec. -/
namespace Go.Proofs.YteepbfpcdhdgfaaDoor
open Go.RowKit

theorem stO_len {α : Type} [Inhabited α] (lt : α → α → Bool) (n : Nat) : ∀ g bs (l : List α), (stO lt n g bs l).length = l.length
  | 0, _, _ => rfl
  | g + 1, bs, l => by
    unfold stO
    split
    · rw [stO_len lt n g, mgO_len]
    · rfl
theorem pickL_length (k : ByteArray) (L : List ByteArray) : (pickL k L).length = L.length := by
  unfold pickL stR
  rw [stO_len, blO_len]
set_option maxHeartbeats 1000000 in
theorem pickRE_any (w : World) (L : List ByteArray) (v : Value) (k : ByteArray) (m : Int) (hl : Sl w 1 encN v L) (hw : ∀ x, x ∈ L → x.size ≤ 9223372036854775807) (hk : k.size ≤ 9223372036854775807) :
    Calls Tryd.prog 12 #[v, .string k, .int .i64 m] w (PkP w L k m) := by
  have HN := Lib.hid (checkNames_any w L v hl hw)
  have HPW := Lib.hid (fun (w1 : World) (hb : Below w.heap.size w w1) h1 h2 h3 h4 => pickR_any w1 L v k m (hl.below hb (Nat.le_refl _)) h1 h2 h3 h4)
  obtain ⟨ao, cap, rfl, -, -, -, -⟩ := hl
  go_enter Tryd.func12, Tryd.ntmps12
  go_wp2_with fail
  refine HN.out.mono ?_
  rintro e w1 ⟨rfl, hb1⟩
  have HB1 := Lib.hid hb1
  by_cases h0 : naF L = 0
  · obtain ⟨q1, q2, -⟩ := naF_zero h0
    have e0 : (naF L != 0) = false := by simp [h0]
    have hP0 : Hid (pkF L k m = if reqB k = false then 3 else if outB m 0 30 = true then 1 else 0) := Lib.hid (by unfold pkF; rw [if_neg (by simp [h0])])
    have hreq := Lib.hid (fun W => isReqR_any k W hk)
    have hpe := Lib.hid (pickR_eq h0 k)
    clear hb1
    rw [h0]
    cases e1 : reqB k
    case false =>
      have hv : Hid (3 = pkF L k m) := Lib.hid (by rw [hP0.out, if_pos e1])
      have hvl : Hid (pkL L k m = []) := Lib.hid (by unfold pkL; rw [if_neg (by rw [← hv.out]; decide)])
      go_wp2_with (go_at_call 25; refine (hreq.out _).mono ?_; rintro e w' ⟨rfl, rfl⟩; rw [e1])
      go_ret2
      exact ⟨_, by rw [← hv.out]; rfl, by rw [hvl.out]; exact Sl.nil, HB1.out⟩
    cases e2 : outB m 0 30
    case true =>
      have hv : Hid (1 = pkF L k m) := Lib.hid (by rw [hP0.out, if_neg (by simp [e1]), if_pos e2])
      have hvl : Hid (pkL L k m = []) := Lib.hid (by unfold pkL; rw [if_neg (by rw [← hv.out]; decide)])
      go_wp2_with (first | (go_at_call 25; refine (hreq.out _).mono ?_; rintro e w' ⟨rfl, rfl⟩; rw [e1]) | (go_at_call 26; refine (withinE_any _ _ _ _).mono ?_; rintro e w' ⟨rfl, rfl⟩; rw [e2]))
      go_ret2
      exact ⟨_, by rw [← hv.out]; rfl, by rw [hvl.out]; exact Sl.nil, HB1.out⟩
    have hv : Hid (0 = pkF L k m) := Lib.hid (by rw [hP0.out, if_neg (by simp [e1]), if_neg (by simp [e2])])
    have hvl : Hid (pkL L k m = (pickR k L).take m.toNat) := Lib.hid (by unfold pkL; rw [if_pos hv.out.symm, hpe.out])
    have hm0 : 0 ≤ m ∧ m ≤ 30 := by
      unfold outB at e2
      simp only [Bool.or_eq_false_iff, decide_eq_false_iff_not] at e2
      omega
    have HP := Lib.hid (HPW.out w1 HB1.out q1 (fun a ha => nameB_40 (q2 a ha)) (reqB_true e1).2.1 hm0)
    clear q2 hk
    unfold SlRet at HP
    go_wp2_with (first | (go_at_call 25; refine (hreq.out _).mono ?_; rintro e w' ⟨rfl, rfl⟩; rw [e1]) | (go_at_call 26; refine (withinE_any _ _ _ _).mono ?_; rintro e w' ⟨rfl, rfl⟩; rw [e2]) | fail)
    refine HP.out.mono ?_
    rintro e w2 ⟨v2, rfl, hs2, hb2⟩
    have HS2 := Lib.hid hs2
    have HB2 := Lib.hid (HB1.out.thru hb2)
    clear hs2 hb2
    go_wp2_with fail
    go_ret2
    exact ⟨_, by rw [← hv.out]; rfl, by rw [hvl.out]; exact HS2.out, HB2.out⟩
  · have hv : Hid (naF L = pkF L k m) := Lib.hid (by unfold pkF; rw [if_pos h0])
    have hvl : Hid (pkL L k m = []) := Lib.hid (by unfold pkL; rw [if_neg (by rw [← hv.out]; exact h0)])
    have e0 : (naF L != 0) = true := by simp [h0]
    clear hb1
    go_wp2_with fail
    go_ret2
    exact ⟨_, by rw [← hv.out]; rfl, by rw [hvl.out]; exact Sl.nil, HB1.out⟩
theorem nameB_ne {s : ByteArray} (h : nameB s = true) : s.toList ≠ [] := fun e => by
  have : s = ⟨#[]⟩ := ByteArray.ext (Array.ext' (by rw [ByteArray.toList_eq] at e; exact e))
  rw [this] at h
  exact absurd h (by decide)
theorem mvB_eqS {A B : List ByteArray} (hA : naF A = 0) (hB : naF B = 0) (k : ByteArray) : (!eqS ((pickR k A).take (1 : Int).toNat) ((pickR k B).take (1 : Int).toNat)) = mvB A B k := by
  rw [pickR_eq hA, pickR_eq hB]
  have eA := pickL_length k A
  have eB := pickL_length k B
  have mA : ∀ x r, pickL k A = x :: r → x.toList ≠ [] := fun x r h => nameB_ne ((naF_zero hA).2.1 x ((pickL_ok k (naF_diff hA)).1.subset (by rw [h]; exact List.mem_cons_self ..)))
  have mB : ∀ x r, pickL k B = x :: r → x.toList ≠ [] := fun x r h => nameB_ne ((naF_zero hB).2.1 x ((pickL_ok k (naF_diff hB)).1.subset (by rw [h]; exact List.mem_cons_self ..)))
  unfold mvB fstL eqS
  have hz : ((⟨#[]⟩ : ByteArray).toList) = [] := by rw [ByteArray.toList_eq]
  show (!decide (((pickL k A).take 1).map _ = ((pickL k B).take 1).map _)) = _
  cases hp : pickL k A with
  | nil =>
    cases hq : pickL k B with
    | nil => simp
    | cons y s =>
      have := mB y s hq
      simp only [List.take_nil, List.map_nil, List.take_succ_cons, List.take_zero, List.map_cons, List.headD_nil, List.headD_cons, hz]
      cases h : y.toList with
      | nil => exact absurd h this
      | cons _ _ => rfl
  | cons x r =>
    cases hq : pickL k B with
    | nil =>
      have := mA x r hp
      simp only [List.take_nil, List.map_nil, List.take_succ_cons, List.take_zero, List.map_cons, List.headD_nil, List.headD_cons, hz]
      cases h : x.toList with
      | nil => exact absurd h this
      | cons _ _ => rfl
    | cons y s =>
      simp only [List.take_succ_cons, List.take_zero, List.map_cons, List.map_nil, List.headD_cons]
      by_cases h : x.toList = y.toList
      · simp [h]
      · simp [h]
theorem mvF_1 {A B K : List ByteArray} (h : naF A ≠ 0) : mvF A B K = naF A := by unfold mvF; simp only [firstF]; rw [if_pos h]
theorem mvF_2 {A B K : List ByteArray} (h : naF A = 0) (h2 : naF B ≠ 0) : mvF A B K = naF B := by unfold mvF; simp only [firstF]; rw [if_neg (by simp [h]), if_pos h2]
theorem mvF_3 {A B K : List ByteArray} (h : naF A = 0) (h2 : naF B = 0) : mvF A B K = kyF K := by
  unfold mvF
  simp only [firstF]
  rw [if_neg (by simp [h]), if_neg (by simp [h2])]
  by_cases h3 : kyF K = 0 <;> simp [h3]
set_option maxRecDepth 100000 in
set_option maxHeartbeats 2000000 in
theorem movedR_any (w : World) (A B K : List ByteArray) (va vb vk : Value) (hA : Sl w 1 encN va A) (hB : Sl w 1 encN vb B) (hK : Sl w 1 encN vk K) (wA : ∀ x, x ∈ A → x.size ≤ 9223372036854775807) (wB : ∀ x, x ∈ B → x.size ≤ 9223372036854775807) (wK : ∀ x, x ∈ K → x.size ≤ 9223372036854775807) :
    Calls Tryd.prog 14 #[va, vb, vk] w fun e w' => e = .returned (.tuple #[.int .i64 (mvN A B K), .int .i64 (mvF A B K)]) ∧ Below w.heap.size w w' := by
  have HA := Lib.hid hA
  have HB := Lib.hid hB
  have HKS := Lib.hid hK
  have WK := Lib.hid wK
  have H1 := Lib.hid (fun (W : World) (h : Below w.heap.size w W) => (checkNames_any W A va (hA.below h (Nat.le_refl _)) wA))
  have H2 := Lib.hid (fun (W : World) (h : Below w.heap.size w W) => (checkNames_any W B vb (hB.below h (Nat.le_refl _)) wB))
  have H3 := Lib.hid (fun (W : World) (h : Below w.heap.size w W) => (checkKeysR_any W K vk (hK.below h (Nat.le_refl _)) wK))
  obtain ⟨aa, ca, rfl, -, -, -, -⟩ := hA
  obtain ⟨ab, cb, rfl, -, -, -, -⟩ := hB
  obtain ⟨ak, ck, rfl, -, hmk, -, helK⟩ := hK
  unfold maxLen at hmk
  have HEL := Lib.hid helK
  clear wA wB wK helK
  go_enter Tryd.func14, Tryd.ntmps14
  go_wp2_with fail
  refine (H1.out _ (Below.refl _ _)).mono ?_
  rintro e w1 ⟨rfl, hb1⟩
  have HB1 := Lib.hid hb1
  clear hb1 H1
  by_cases z1 : naF A = 0
  case neg =>
    have e1 : (naF A != 0) = true := by simp [z1]
    have hF := Lib.hid (mvF_1 (B := B) (K := K) z1)
    have hN : Hid (mvN A B K = 0) := Lib.hid (by unfold mvN; rw [if_neg (by rw [hF.out]; exact z1)])
    go_wp2_with fail
    go_ret2
    exact ⟨by rw [hF.out, hN.out]; rfl, HB1.out⟩
  have e1 : (naF A != 0) = false := by simp [z1]
  go_wp2_with fail
  refine (H2.out _ HB1.out).mono ?_
  rintro e w2 ⟨rfl, hb2⟩
  have HB2 := Lib.hid (HB1.out.thru hb2)
  clear hb2 H2
  by_cases z2 : naF B = 0
  case neg =>
    have e2 : (naF B != 0) = true := by simp [z2]
    have hF := Lib.hid (mvF_2 (K := K) z1 z2)
    have hN : Hid (mvN A B K = 0) := Lib.hid (by unfold mvN; rw [if_neg (by rw [hF.out]; exact z2)])
    clear z1
    go_wp2_with fail
    go_ret2
    exact ⟨by rw [hF.out, hN.out]; rfl, HB2.out⟩
  have e2 : (naF B != 0) = false := by simp [z2]
  go_wp2_with fail
  refine (H3.out _ HB2.out).mono ?_
  rintro e w3 ⟨rfl, hb3⟩
  have HB3 := Lib.hid (HB2.out.thru hb3)
  clear hb3 H3
  have hF := Lib.hid (mvF_3 (K := K) z1 z2)
  by_cases z3 : kyF K = 0
  case neg =>
    have e3 : (kyF K != 0) = true := by simp [z3]
    have hN : Hid (mvN A B K = 0) := Lib.hid (by unfold mvN; rw [if_neg (by rw [hF.out]; exact z3)])
    clear z1 z2
    go_wp2_with fail
    go_ret2
    exact ⟨by rw [hF.out, hN.out]; rfl, HB3.out⟩
  have e3 : (kyF K != 0) = false := by simp [z3]
  have hFZ : Hid (mvF A B K = 0) := Lib.hid (by rw [hF.out, z3])
  have hv : Hid (((K.countP (mvB A B) : Nat) : Int) = mvN A B K) := Lib.hid (by unfold mvN; rw [if_pos hFZ.out])
  have hK1 : K.length ≤ 1000 := (kyF_zero z3).1
  have F1 := Lib.hid (fun (W : World) (h : Below w.heap.size w W) (k : ByteArray) (hk : k.size ≤ 300) => pickR_any W A _ k 1 (HA.out.below h (Nat.le_refl _)) (naF_zero z1).1 (fun a ha => nameB_40 ((naF_zero z1).2.1 a ha)) hk (by omega))
  have F2 := Lib.hid (fun (W : World) (h : Below w.heap.size w W) (k : ByteArray) (hk : k.size ≤ 300) => pickR_any W B _ k 1 (HB.out.below h (Nat.le_refl _)) (naF_zero z2).1 (fun a ha => nameB_40 ((naF_zero z2).2.1 a ha)) hk (by omega))
  have HMV := Lib.hid (mvB_eqS z1 z2)
  have HREQ := Lib.hid (kyF_zero z3).2
  clear z1 z2 z3 hF
  unfold SlRet at F1 F2
  go_wp2_with fail
  go_loopg [11, 13, 31] K.length (fun gg s11 s13 s31 wr => ∃ i : Nat, i ≤ K.length ∧ K.length - i ≤ gg ∧ s11 = .int .i64 (((K.take i).countP (mvB A B) : Nat) : Int) ∧ s31 = .int .i64 i ∧ Aside (Below w.heap.size w wr))
  case atStart => exact ⟨0, by omega, by omega, rfl, rfl, HB3.out⟩
  case round =>
    obtain ⟨wq, rfl⟩ : ∃ wq : World, wq = wr := ⟨_, rfl⟩
    obtain ⟨i, hi, hgi, rfl, rfl, BW⟩ := hrel
    by_cases hil : i < K.length
    · have hiz : (i : Int) < (K.length : Int) := by omega
      obtain ⟨x, hx⟩ : ∃ x, K[i]? = some x := ⟨K[i], by simp [hil]⟩
      obtain ⟨b, off, rfl, hc⟩ := HEL.out i x hx
      have hc0 : w.cell? ⟨b, off + i, none⟩ = some (.string x) := by simpa using hc 0 _ rfl
      have c0 := (BW.out.cell (p := ⟨b, off + i, none⟩) (World.block_lt_of_cell? w _ hc0)).trans hc0
      have hx3 : x.size ≤ 300 := (reqB_true (HREQ.out x (List.mem_of_getElem? hx))).2.1
      have hcn := countP_next (mvB A B) hx
      have hcl : (K.take i).countP (mvB A B) ≤ i := by
        have h1 := List.countP_le_length (p := mvB A B) (l := K.take i)
        rw [List.length_take] at h1
        omega
      obtain ⟨n, hn⟩ : ∃ n, n = (K.take i).countP (mvB A B) := ⟨_, rfl⟩
      rw [← hn] at hcn hcl ⊢
      have HCN := Lib.hid hcn
      have HMX := Lib.hid (HMV.out x)
      obtain ⟨PA, hPA⟩ : ∃ P, P = (pickR x A).take (1 : Int).toNat := ⟨_, rfl⟩
      obtain ⟨PB, hPB⟩ : ∃ P, P = (pickR x B).take (1 : Int).toNat := ⟨_, rfl⟩
      rw [← hPA, ← hPB] at HMX
      have HC1 := Lib.hid (F1.out _ BW.out x hx3)
      rw [← hPA] at HC1
      have HC2 := Lib.hid (fun W h => F2.out W h x hx3)
      rw [← hPB] at HC2
      have HBW := Lib.hid BW.out
      clear hc hx hn hcn hc0 hPA hPB hx3 BW
      go_wp2_with fail
      refine HC1.out.mono ?_
      rintro e w7 ⟨v7, rfl, hs7, hb7⟩
      have HB7 := Lib.hid (HBW.out.thru hb7)
      have HS7 := Lib.hid hs7
      clear hb7 hs7
      go_wp2_with fail
      refine (HC2.out _ HB7.out).mono ?_
      rintro e w8 ⟨v8, rfl, hs8, hb8⟩
      have HB8 := Lib.hid (HB7.out.thru hb8)
      have HE := Lib.hid (equalS_any w8 PA PB v7 v8 (HS7.out.below hb8 (Nat.le_refl _)) hs8)
      clear hb8 hs8
      go_wp2_with fail
      refine HE.out.mono ?_
      rintro e w9 ⟨rfl, hb9⟩
      have HB9 := Lib.hid (HB8.out.thru hb9)
      clear hb9 HE
      generalize eqS PA PB = eb at HMX ⊢
      cases eb
      case false =>
        have HC3 : Hid ((K.take (i + 1)).countP (mvB A B) = n + 1) := Lib.hid (by rw [HCN.out, ← HMX.out]; rfl)
        go_wp2_with fail
        go_roundg (K.length - (i + 1))
        case measure => omega
        case rel => exact ⟨i + 1, by omega, by omega, by rw [HC3.out]; go_num, by go_num, HB9.out⟩
      case true =>
        have HC3 : Hid ((K.take (i + 1)).countP (mvB A B) = n) := Lib.hid (by rw [HCN.out, ← HMX.out]; rfl)
        go_wp2_with fail
        go_roundg (K.length - (i + 1))
        case measure => omega
        case rel => exact ⟨i + 1, by omega, by omega, by rw [HC3.out], by go_num, HB9.out⟩
    · obtain rfl : i = K.length := by omega
      have hv2 : Hid ((((K.take K.length).countP (mvB A B) : Nat) : Int) = mvN A B K) := Lib.hid (by rw [List.take_length]; exact hv.out)
      have HBW := Lib.hid BW.out
      go_wp2_with fail
      go_ret2
      exact ⟨by rw [← hv2.out, hFZ.out]; rfl, HBW.out⟩
set_option maxRecDepth 100000 in
set_option maxHeartbeats 4000000 in
theorem picksM_any (w : World) (A B K : List ByteArray) (va vb vk : Value) (k : ByteArray) (n : Int) (hA : Sl w 1 encS va A) (wA : ∀ x, x ∈ A → x.size ≤ 9223372036854775807) (hB : Sl w 1 encS vb B) (wB : ∀ x, x ∈ B → x.size ≤ 9223372036854775807) (hk : k.size ≤ 9223372036854775807) (hK : Sl w 1 encS vk K) (wK : ∀ x, x ∈ K → x.size ≤ 9223372036854775807) (m : Int) (hm : w.cell? ⟨0, 0, none⟩ = some (.int .i64 m)) :
    Calls Tryd.prog 4 #[va, vb, .string k, .int .i64 n, vk] w fun e' w' => e' = .returned (.bool true) ∧ Below w.heap.size w w' := by
  have h0 := World.block_lt_of_cell? w _ hm
  have H1 := Lib.hid (fun (W : World) (h : Below w.heap.size w W) => pickE_any W A va k n (hA.below h (Nat.le_refl _)) wA hk (pickL_length k A))
  have H2 := Lib.hid (fun (W : World) (h : Below w.heap.size w W) => pickRE_any W A va k n (hA.below h (Nat.le_refl _)) wA hk)
  have H3 := Lib.hid (fun (W : World) (h : Below w.heap.size w W) => moved_any W A B K va vb vk (hA.below h (Nat.le_refl _)) (hB.below h (Nat.le_refl _)) (hK.below h (Nat.le_refl _)) wA wB wK)
  have H4 := Lib.hid (fun (W : World) (h : Below w.heap.size w W) => movedR_any W A B K va vb vk (hA.below h (Nat.le_refl _)) (hB.below h (Nat.le_refl _)) (hK.below h (Nat.le_refl _)) wA wB wK)
  have H5 := Lib.hid (fun (W : World) (h : Below w.heap.size w W) => awakeE_any W m ((h.cell (p := ⟨0, 0, none⟩) h0).trans hm))
  have H6 := Lib.hid (fun (W : World) (L : List ByteArray) (u u' : Value) (h1 : Sl W 1 encN u L) (h2 : Sl W 1 encN u' L) => equalS_any W L L u u' h1 h2)
  clear hA hB hK wA wB wK hm hk
  unfold PkP at H1 H2
  generalize pkL A k n = L at H1 H2
  generalize pkF A k n = f at H1 H2
  generalize mvN A B K = g at H3 H4
  generalize mvF A B K = z at H3 H4
  have hself : eqS L L = true := by unfold eqS; exact decide_eq_true rfl
  go_enter Tryd.func4, Tryd.ntmps4
  go_upto_region 2 with (go_at_call 11; refine (H1.out w (Below.refl _ _)).mono ?_; rintro e w1 ⟨v1, rfl, hs1, hb1⟩; have HS1 := Lib.hid hs1; have HB1 := Lib.hid hb1; clear hs1 hb1)
  clear H1
  go_upto_region 3 with (go_at_call 12; refine (H2.out w1 HB1.out).mono ?_; rintro e w2 ⟨v2, rfl, hs2, hb2⟩; have HS2 := Lib.hid hs2; have HB2 := Lib.hid (HB1.out.thru hb2); have HS3 := Lib.hid (HS1.out.below hb2 (Nat.le_refl _)); clear hs2 hb2)
  clear H2 HS1 HB1
  have HE := Lib.hid (H6.out w2 L v1 v2 HS3.out HS2.out)
  rw [hself] at HE
  have HFF : (f != f) = false := by simp
  go_upto_region 5 with (go_at_call 13; refine HE.out.mono ?_; rintro e w3 ⟨rfl, hb3⟩; have HB3 := Lib.hid (HB2.out.thru hb3); clear hb3)
  clear HE HS3 HS2 HB2 H6 HFF
  go_upto_region 6 with (go_at_call 5; refine (H3.out w3 HB3.out).mono ?_; rintro e w4 ⟨rfl, hb4⟩; have HB4 := Lib.hid (HB3.out.thru hb4); clear hb4)
  clear H3 HB3
  go_upto_region 7 with (go_at_call 14; refine (H4.out w4 HB4.out).mono ?_; rintro e w5 ⟨rfl, hb5⟩; have HB5 := Lib.hid (HB4.out.thru hb5); clear hb5)
  clear H4 HB4
  have HGG : (g == g) = true := by simp
  have HZZ : (z == z) = true := by simp
  go_wp2_with (go_at_call 7; refine (H5.out w5 HB5.out).mono ?_; rintro e w6 ⟨rfl, hb6⟩; have HB6 := Lib.hid (HB5.out.thru hb6); clear hb6)
  go_ret
  exact ⟨rfl, HB6.out⟩
end Go.Proofs.YteepbfpcdhdgfaaDoor

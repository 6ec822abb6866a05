/- queryOf and Normal of the reference: the walks. -/
import Derived.Test.YtmgbmoiefgfemaaDoorNrmF
import Derived.Test.YtmgbmoiefgfemaaDoorDelS
namespace Go.Proofs.YtmgbmoiefgfemaaDoor
open Go.RowKit Go.Lib

theorem insS_litI (w : World) (base i : Nat) (l : List ByteArray) (x : ByteArray) (v : Value) (hown : Own w base 9 1 encS v l) (hbase : base ≤ w.heap.size) (hlen : l.length ≤ 1000000) (hi : i ≤ l.length) :
    Calls Tryd.prog 67 #[v, .int .i64 i, .slice (some ⟨w.heap.size, 0, none⟩) 1 1] (w.alloc (.cells #[.string x] 9)) (InsPS base (w.alloc (.cells #[.string x] 9)) (l.take i ++ x :: l.drop i)) :=
  insS_any (w.alloc (.cells #[.string x] 9)) base w.heap.size i l x v (hown.al _) (by simp; omega) hlen hi (block_new w _) (fun a n c hv hb => by
    rcases hown.2 with ⟨h, _⟩ | ⟨g, cap', cur, h, _, hh, _⟩
    · rw [h] at hv; simp at hv
    · rw [h] at hv
      simp only [Value.slice.injEq, Option.some.injEq] at hv
      obtain ⟨rfl, _⟩ := hv
      have := (Array.getElem?_eq_some_iff.1 hh).1
      simp at hb
      omega)
theorem cutN_any (s : ByteArray) (m : Int) (w : World) (hs : s.size ≤ 1000) (hm : w.cell? ⟨0, 0, none⟩ = some (.int .i64 m)) :
    Calls Tryd.prog 52 #[.string s, .string ⟨#[61]⟩] w fun e w' => ∃ Y Z n, e = .returned (.tuple #[.string (nameP s), .string Y, .bool Z]) ∧ w' = w.drewN n := by
  refine (cut_any s ⟨#[61]⟩ m w (by omega) hm).mono ?_
  rintro e w' ⟨rfl, n, rfl⟩
  exact ⟨_, _, n, rfl, rfl⟩
theorem tw_cut2 {α : Type} (p : α → Bool) : ∀ (l : List α) (j : Nat), j ≤ l.length → (∀ x, x ∈ l.take j → p x = true) → (∀ x, l[j]? = some x → p x = false) → l.takeWhile p = l.take j ∧ l.dropWhile p = l.drop j
  | [], j, h, _, _ => by simp
  | a :: r, 0, _, _, h => by
    have := h a rfl
    simp [List.takeWhile, List.dropWhile, this]
  | a :: r, j + 1, hj, h1, h2 => by
    have ha := h1 a (by simp)
    obtain ⟨q1, q2⟩ := tw_cut2 p r j (by simpa using hj) (fun x hx => h1 x (by simp [hx])) (fun x hx => h2 x (by simpa using hx))
    simp [List.takeWhile, List.dropWhile, ha, q1, q2]
theorem insQ_cut {p : ByteArray} {out : List ByteArray} (h : out.Pairwise (fun x y => cmpP x y ≤ 0)) {j : Nat} (hj : j ≤ out.length) (h1 : ∀ x, x ∈ out.drop j → leP p x = false) (h2 : j = 0 ∨ ∃ x, out[j - 1]? = some x ∧ leP p x = true) : insQ p out = out.take j ++ p :: out.drop j := by
  obtain ⟨q1, q2⟩ := tw_cut2 (leP p) out j hj (fun x hx => by
    rcases h2 with h2 | ⟨y, hy, hp⟩
    · subst h2; simp at hx
    · obtain ⟨i, hi, rfl⟩ := List.mem_iff_getElem.1 hx
      rw [List.length_take] at hi
      rw [List.getElem_take]
      obtain ⟨hy1, hy2⟩ := List.getElem?_eq_some_iff.1 hy
      by_cases e : i = j - 1
      · subst e; rw [hy2]; exact hp
      · have h3 := List.pairwise_iff_getElem.1 h i (j - 1) (by omega) hy1 (by omega)
        rw [hy2] at h3
        unfold leP at hp ⊢
        exact decide_eq_true (cmpP_le h3 (of_decide_eq_true hp))) (fun x hx => h1 x (by
      obtain ⟨q, hq⟩ := List.getElem?_eq_some_iff.1 hx
      rw [List.drop_eq_getElem_cons q, hq]
      exact List.mem_cons_self ..))
  unfold insQ
  rw [q1, q2]
theorem cb_lt : ∀ {a b : List UInt8}, a < b → Lib.compareBytes a b < 0
  | [], [], h => absurd h (List.lt_irrefl _)
  | [], _ :: _, _ => by simp [Lib.compareBytes]
  | _ :: _, [], h => by cases h
  | a :: r, b :: s, h => by
    rcases List.cons_lt_cons_iff.1 h with h3 | ⟨h2, h3⟩
    · simp [Lib.compareBytes, h3]
    · subst h2
      simp only [Lib.compareBytes, UInt8.lt_irrefl, if_false]
      exact cb_lt h3
theorem leP_le (p o : ByteArray) : (Op.bytesLess (nameP o).toList (nameP p).toList || (nameP o).toList == (nameP p).toList) = leP p o := by
  have hT : ∀ x : ByteArray, x.toList = x.data.toList := fun x => ByteArray.toList_eq x
  unfold leP cmpP
  rw [hT, hT, bytesLess_eq]
  generalize (nameP o).data.toList = a
  generalize (nameP p).data.toList = b
  by_cases h1 : a < b
  · have := cb_lt h1
    simp [h1]
    omega
  · by_cases h2 : a = b
    · subst h2
      simp [cb_self]
    · have h3 : b < a := by
        rcases List.le_iff_lt_or_eq.1 (List.not_lt.1 h1) with h5 | h5
        · exact h5
        · exact absurd h5.symm h2
      have h4 := cb_lt h3
      have h5 := cb_swap b a
      rw [decide_eq_false h1, beq_eq_false_iff_ne.2 h2, decide_eq_false (by omega)]
      rfl
/-- The query of a key. -/
def qryB (s : ByteArray) (D : List ByteArray) : ByteArray :=
  if (parF (wordsB s ⟨#[38]⟩) D (wordsB s ⟨#[38]⟩).length).length = 0 then ⟨#[]⟩ else ⟨#[63]⟩ ++ joinB (refS (parF (wordsB s ⟨#[38]⟩) D (wordsB s ⟨#[38]⟩).length)) ⟨#[38]⟩
set_option maxRecDepth 100000 in
set_option maxHeartbeats 4000000 in
theorem queryOf_any (s : ByteArray) (D : List ByteArray) (v : Value) (w : World) (m : Int) (hs : s.size ≤ 300) (hD : Sl w 1 encS v D) (hm : w.cell? ⟨0, 0, none⟩ = some (.int .i64 m)) :
    Calls Tryd.prog 63 #[.string s, v] w fun e w' => e = .returned (.string (qryB s D)) ∧ Below w.heap.size w w' := by
  have HM := Lib.hid hm
  have h0 := World.block_lt_of_cell? w _ hm
  have HSP := Lib.hid (split_any s ⟨#[38]⟩ m w (by omega) hm (by decide))
  have hWL := words_many s ⟨#[38]⟩ (by decide)
  have HWS := Lib.hid (fun x h => @words_size s ⟨#[38]⟩ x h)
  have HQ : Hid (qryB s D = if (parF (wordsB s ⟨#[38]⟩) D (wordsB s ⟨#[38]⟩).length).length = 0 then ⟨#[]⟩ else ⟨#[63]⟩ ++ joinB (refS (parF (wordsB s ⟨#[38]⟩) D (wordsB s ⟨#[38]⟩).length)) ⟨#[38]⟩) := Lib.hid rfl
  obtain ⟨R, hR⟩ : ∃ R, R = qryB s D := ⟨_, rfl⟩
  obtain ⟨W, hW⟩ : ∃ W, W = wordsB s ⟨#[38]⟩ := ⟨_, rfl⟩
  rw [← hR, ← hW] at HQ
  rw [← hR]
  rw [← hW] at HSP hWL HWS
  have HDS := Lib.hid hD
  have HSS := Lib.hid hs
  have hW301 : W.length ≤ 301 := by omega
  obtain ⟨dao, dcap, rfl, -, -, -, -⟩ := hD
  clear hR hW hm hs hWL
  go_enter Tryd.func63, Tryd.ntmps63
  go_wp2_with fail
  refine HSP.out.mono ?_
  rintro e w3 ⟨rfl, hw3⟩
  have HEL : Hid (∀ (k : Nat) (x : ByteArray), W[k]? = some x → w3.cell? ⟨w.heap.size, k, none⟩ = some (.string x)) := Lib.hid (fun k x hx => by
    rw [hw3, cell_of_block (block_new w _)]
    simp [hx])
  have hb3 : Below w.heap.size w w3 := by rw [hw3]; exact (Below.refl _ _).alloc (Nat.le_refl _) _
  have hA3 : w.heap.size < w3.heap.size := by rw [hw3]; simp
  have HB3 := Lib.hid hb3
  have HM3 := Lib.hid ((hb3.cell (p := ⟨0, 0, none⟩) h0).trans HM.out)
  obtain ⟨A0, hA0⟩ : ∃ A0, A0 = w.heap.size := ⟨_, rfl⟩
  rw [← hA0] at HEL hA3 ⊢
  have HA0 := Lib.hid hA0
  clear hw3 hb3 hA0 HSP
  go_wp2_with fail
  go_loopg [5, 7, 8, 9, 10, 11, 12, 13, 14, 18] W.length (fun gg s5 s7 s8 s9 s10 s11 s12 s13 s14 s18 wr => ∃ kk : Nat, kk ≤ W.length ∧ W.length - kk ≤ gg ∧ s18 = .int .i64 kk ∧ Aside (Own wr w3.heap.size 9 1 encS s5 (refS (parF W D kk))) ∧ Aside (Below w3.heap.size w3 wr))
  case atStart => exact ⟨0, Nat.zero_le _, by omega, by go_num, Own.nil, Below.refl _ _⟩
  case round =>
    obtain ⟨wq, rfl⟩ : ∃ wq : World, wq = wr := ⟨_, rfl⟩
    obtain ⟨kk, hkk, hg, rfl, OW, BW⟩ := hrel
    have HOW := Lib.hid OW.out
    have HBW := Lib.hid BW.out
    have hszw := HBW.out.size
    have HMR := Lib.hid ((HBW.out.cell (p := ⟨0, 0, none⟩) (show 0 < w3.heap.size by omega)).trans HM3.out)
    obtain ⟨T, hT⟩ : ∃ T, T = refS (parF W D kk) := ⟨_, rfl⟩
    have hTL := parF_len W D kk
    have hTL2 := refS_len (parF W D kk)
    have HTO : Hid (T.Pairwise (fun x y => cmpP x y ≤ 0)) := Lib.hid (by rw [hT]; exact refS_sorted _ _ rfl)
    have HTB : Hid (∀ x, x ∈ T → x.size ≤ 1000) := Lib.hid (fun x hx => by
      rw [hT] at hx
      have h1 := parF_mem W D kk hkk x (refS_mem.1 hx)
      exact Nat.le_trans (HWS.out x h1) (Nat.le_trans HSS.out (by decide)))
    rw [← hT] at HOW hTL2
    have hTLK : T.length ≤ kk := by omega
    have HT := Lib.hid hT
    clear hT OW BW hTL hTL2
    obtain ⟨ao5, cp5, P5, rfl, hcap5, hmax5, hP5, hel5⟩ := own_parts encS_len HOW.out
    unfold maxLen at hmax5
    have HEL5 := Lib.hid hel5
    clear hel5
    by_cases hlt : kk < W.length
    · have hltz : (kk : Int) < (W.length : Int) := by omega
      obtain ⟨x, hx⟩ : ∃ x, W[kk]? = some x := ⟨W[kk], by simp [hlt]⟩
      have c0 : wq.cell? ⟨A0, kk, none⟩ = some (.string x) := (HBW.out.cell (p := ⟨A0, kk, none⟩) hA3).trans (HEL.out kk x hx)
      have HTN := Lib.hid (parF_next (D := D) hx)
      have HXS : Hid (x.size ≤ 1000) := Lib.hid (Nat.le_trans (HWS.out x (List.mem_of_getElem? hx)) (Nat.le_trans HSS.out (by decide)))
      have HCU := Lib.hid (cutN_any x m wq HXS.out HMR.out)
      clear hx
      have HSKIP : Hid (keepP D x = false → refS (parF W D (kk + 1)) = T) := Lib.hid (fun h => by rw [HTN.out, if_neg (by simp [h]), HT.out])
      have HKEEP : Hid (keepP D x = true → refS (parF W D (kk + 1)) = insQ x T) := Lib.hid (fun h => by rw [HTN.out, if_pos h, refS_snoc, HT.out])
      by_cases e1 : x = ⟨#[]⟩
      · subst e1
        have HN2 := Lib.hid (HSKIP.out (by simp [keepP]))
        go_wp2_with fail
        refine HCU.out.mono ?_
        rintro e w5 ⟨Y, Z, n5, rfl, rfl⟩
        have HB5 := Lib.hid (below_drewN HBW.out n5)
        have HO5 := Lib.hid (HOW.out.drewN n5)
        go_wp2_with fail
        go_roundg (W.length - (kk + 1))
        case measure => omega
        case rel => exact ⟨kk + 1, by omega, by omega, by go_num, (show Own _ _ _ _ _ _ _ by rw [HN2.out]; exact HO5.out), HB5.out⟩
      · have f1 : (x.toList == []) = false := str_ne e1
        have hke : keepP D x = !containsS D (nameP x) := by simp [keepP, e1]
        have HCO := Lib.hid (fun n => contains_any D (nameP x) _ (wq.drewN n) ((HDS.out.below (HB3.out.trans (HBW.out.mono (by have := HB3.out.size; omega))) (Nat.le_refl _)).below (below_drewN (Below.refl _ wq) n) (Nat.le_refl _)))
        obtain ⟨c, hc⟩ : ∃ c, c = containsS D (nameP x) := ⟨_, rfl⟩
        rw [← hc] at hke HCO
        have HNX0 := Lib.hid (rfl : nameP x = nameP x)
        obtain ⟨nx, hnx⟩ : ∃ c, c = nameP x := ⟨_, rfl⟩
        rw [← hnx] at HCO HCU
        have HNX := Lib.hid hnx
        have HKE := Lib.hid hke
        clear e1 hc hnx hke HNX0
        cases c
        case true =>
          have HN2 := Lib.hid (HSKIP.out (by rw [HKE.out]; rfl))
          go_wp2_with fail
          refine HCU.out.mono ?_
          rintro e w5 ⟨Y, Z, n5, rfl, rfl⟩
          have HB5 := Lib.hid (below_drewN HBW.out n5)
          have HO5 := Lib.hid (HOW.out.drewN n5)
          go_wp2_with fail
          refine (HCO.out n5).mono ?_
          rintro e w6 ⟨rfl, rfl⟩
          go_wp2_with fail
          go_roundg (W.length - (kk + 1))
          case measure => omega
          case rel => exact ⟨kk + 1, by omega, by omega, by go_num, (show Own _ _ _ _ _ _ _ by rw [HN2.out]; exact HO5.out), HB5.out⟩
        case false =>
          have HN2 := Lib.hid (HKEEP.out (by rw [HKE.out]; rfl))
          go_wp2_with fail
          refine HCU.out.mono ?_
          rintro e w5 ⟨Y, Z, n5, rfl, rfl⟩
          have HB5 := Lib.hid (below_drewN HBW.out n5)
          have HO5 := Lib.hid (HOW.out.drewN n5)
          have HM5 : Hid ((wq.drewN n5).cell? ⟨0, 0, none⟩ = some (.int .i64 m)) := HMR
          have HEL6 : Hid (∀ (i : Nat) (x : ByteArray), T[i]? = some x → ao5 = some ⟨P5, 0, none⟩ ∧ (wq.drewN n5).cell? ⟨P5, i, none⟩ = some (.string x)) := Lib.hid (fun i y hy => by
            obtain ⟨h1, -, h3⟩ := HEL5.out i y hy
            refine ⟨h1, ?_⟩
            have := h3 0 _ rfl
            rw [Nat.mul_one, Nat.add_zero] at this
            exact this)
          go_wp2_with fail
          refine (HCO.out n5).mono ?_
          rintro e w6 ⟨rfl, rfl⟩
          obtain ⟨w5, hw5⟩ : ∃ w5, w5 = wq.drewN n5 := ⟨_, rfl⟩
          rw [← hw5] at HB5 HO5 HM5 HEL6 ⊢
          clear hw5 HOW HBW HMR HEL5 HCU HCO
          have HINS := Lib.hid (fun (n j : Nat) (hj : j ≤ T.length) => insS_litI (w5.drewN n) w3.heap.size j T x (.slice ao5 T.length cp5) (HO5.out.drewN n) HB5.out.size (by omega) hj)
          unfold InsPS at HINS
          go_wp2_with fail
          go_loopg [11, 12, 13, 14] T.length (fun gg s11 s12 s13 s14 wr => ∃ j : Nat, j ≤ T.length ∧ j ≤ gg ∧ s11 = .int .i64 j ∧ (∃ n, wr = w5.drewN n) ∧ Aside (∀ y, y ∈ T.drop j → leP x y = false))
          case atStart => exact ⟨T.length, by omega, by omega, rfl, ⟨0, rfl⟩, (show Aside _ from fun y hy => by rw [List.drop_length] at hy; cases hy)⟩
          case round =>
            obtain ⟨w7, hw7⟩ : ∃ w7 : World, w7 = wr := ⟨_, rfl⟩
            rw [← hw7] at hrel ⊢
            obtain ⟨j, hj, hgj, rfl, ⟨n7, hn7⟩, AL⟩ := hrel
            clear hw7
            have HW7 := Lib.hid hn7
            have HAL := Lib.hid AL.out
            have HB7 : Hid (Below w3.heap.size w3 w7) := Lib.hid (by rw [hn7]; exact below_drewN HB5.out n7)
            have HI7 := Lib.hid (HINS.out n7 j hj)
            rw [← hn7] at HI7
            clear AL
            by_cases hj0 : j = 0
            · subst hj0
              have hcut := insQ_cut HTO.out (j := 0) (Nat.zero_le _) HAL.out (.inl rfl)
              rw [← hcut, ← HN2.out] at HI7
              have HI8 : Hid (Calls Tryd.prog 67 #[.slice ao5 T.length cp5, .int .i64 0, .slice (some ⟨w7.heap.size, 0, none⟩) 1 1] (w7.alloc (.cells #[.string x] 9)) _) := HI7
              clear hcut hn7 HI7
              go_wp2_with fail
              refine HI8.out.mono ?_
              rintro e w8 ⟨v8, rfl, ho8, hb8⟩
              have HO8 := Lib.hid ho8
              have HB8 := Lib.hid ((HB7.out.alloc HB7.out.size _).trans hb8)
              obtain ⟨ya, yc, rfl, -, -⟩ := Own.slvL encS_len ho8
              clear ho8 hb8
              go_wp2_with fail
              go_roundg (W.length - (kk + 1))
              case measure => omega
              case rel => exact ⟨kk + 1, by omega, by omega, by go_num, HO8.out, HB8.out⟩
            · obtain ⟨k, hk⟩ : ∃ k, j = k + 1 := ⟨j - 1, by omega⟩
              have hjz : (0 : Int) < (j : Int) := by omega
              have hj1 : (j : Int) - 1 = (k : Int) := by omega
              have hkz : (k : Int) < (T.length : Int) := by omega
              obtain ⟨y, hy⟩ : ∃ y, T[k]? = some y := ⟨T[k]'(by omega), by simp⟩
              obtain ⟨rfl, hcy⟩ := HEL6.out k y hy
              have d0 : w7.cell? ⟨P5, k, none⟩ = some (.string y) := by rw [hn7]; exact hcy
              have HCY := Lib.hid (cutN_any y m w7 (HTB.out y (List.mem_of_getElem? hy)) (by rw [hn7]; exact HM5.out))
              have hle := leP_le x y
              rw [← HNX.out] at hle
              obtain ⟨ny, hny⟩ : ∃ c, c = nameP y := ⟨_, rfl⟩
              rw [← hny] at hle HCY
              have HY := Lib.hid hy
              have HLE := Lib.hid hle
              have HK := Lib.hid hk
              clear hcy hy hle hny hn7 hj0 hk
              go_wp2_with fail
              refine HCY.out.mono ?_
              rintro e w8 ⟨Y2, Z2, n8, rfl, rfl⟩
              cases hb : leP x y
              · have hbb : (Op.bytesLess ny.toList nx.toList || ny.toList == nx.toList) = false := by rw [HLE.out, hb]
                have HNA : Hid (∀ z, z ∈ T.drop k → leP x z = false) := Lib.hid (fun z hz => by
                  rw [drop_next HY.out, List.mem_cons, ← HK.out] at hz
                  rcases hz with rfl | hz
                  · exact hb
                  · exact HAL.out z hz)
                clear hb
                go_wp2_with fail
                go_roundg k
                case measure => have := HK.out; omega
                case rel => exact ⟨k, by omega, by omega, by first | rfl | go_num, ⟨n7 + n8, by rw [HW7.out, World.drewN_drewN]⟩, HNA.out⟩
              · have hbb : (Op.bytesLess ny.toList nx.toList || ny.toList == nx.toList) = true := by rw [HLE.out, hb]
                have hcut := insQ_cut HTO.out hj HAL.out (.inr ⟨y, by rw [HK.out]; exact HY.out, hb⟩)
                have HI9 := Lib.hid (HINS.out (n7 + n8) j hj)
                rw [← World.drewN_drewN, ← HW7.out, ← hcut, ← HN2.out] at HI9
                have HB9 := Lib.hid (below_drewN HB7.out n8)
                obtain ⟨w9, hw9⟩ : ∃ w9, w9 = w7.drewN n8 := ⟨_, rfl⟩
                rw [← hw9] at HI9 HB9 ⊢
                clear hb hcut hw9
                go_wp2_with fail
                refine HI9.out.mono ?_
                rintro e w10 ⟨v8, rfl, ho8, hb8⟩
                have HO8 := Lib.hid ho8
                have HB8 := Lib.hid ((HB9.out.alloc HB9.out.size _).trans hb8)
                obtain ⟨ya, yc, rfl, -, -⟩ := Own.slvL encS_len ho8
                clear ho8 hb8
                go_wp2_with fail
                go_roundg (W.length - (kk + 1))
                case measure => omega
                case rel => exact ⟨kk + 1, by omega, by omega, by go_num, HO8.out, HB8.out⟩
    · obtain rfl : kk = W.length := by omega
      have hB0 : Hid (Below w.heap.size w wq) := Lib.hid (HB3.out.trans (HBW.out.mono HB3.out.size))
      by_cases hT0 : T.length = 0
      · have e0 : ((T.length : Int) == 0) = true := by simp [hT0]
        have hv : Hid (⟨#[]⟩ = R) := Lib.hid (by rw [HQ.out, if_pos]; have h1 := refS_len (parF W D W.length); rw [← HT.out] at h1; omega)
        clear hT0
        go_wp2_with fail
        go_ret
        exact ⟨ret_str hv.out, hB0.out⟩
      · have e0 : ((T.length : Int) == 0) = false := by rw [beq_eq_false_iff_ne]; omega
        have hv : Hid ((⟨#[63]⟩ : ByteArray) ++ joinB T ⟨#[38]⟩ = R) := Lib.hid (by rw [HQ.out, if_neg (by have h1 := refS_len (parF W D W.length); rw [← HT.out] at h1; omega), HT.out])
        have HJ := Lib.hid (join_any T ⟨#[38]⟩ _ wq (HOW.out.sl encS_len) HTB.out (by omega) (by decide))
        have hJs := joinB_size (L := T) (sep := ⟨#[38]⟩) HTB.out (by omega) (by decide)
        generalize joinB T ⟨#[38]⟩ = J at HJ hv hJs
        have hsz1 : ((⟨#[63]⟩ : ByteArray) ++ J).size = 1 + J.size := by rw [ByteArray.size_append]; rfl
        clear hT0
        go_wp2_with fail
        refine HJ.out.mono ?_
        rintro e w8 ⟨rfl, hb8⟩
        have HB8 := Lib.hid (hB0.out.trans (hb8.mono hB0.out.size))
        clear hb8
        go_wp2_with fail
        go_ret
        exact ⟨ret_str hv.out, HB8.out⟩
end Go.Proofs.YtmgbmoiefgfemaaDoor

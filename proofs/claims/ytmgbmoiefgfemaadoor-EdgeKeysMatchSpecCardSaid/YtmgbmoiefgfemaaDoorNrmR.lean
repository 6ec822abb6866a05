/- Normal of the reference; the law EdgeKeysMatchSpec. -/
import Derived.Test.YtmgbmoiefgfemaaDoorNrmQ
import Derived.Test.YtmgbmoiefgfemaaDoorNrmI
namespace Go.Proofs.YtmgbmoiefgfemaaDoor
open Go.RowKit Go.Lib

theorem words_head {s : ByteArray} {r : List UInt8} (h : s.data.toList = 47 :: r) : ∃ V, wordsB s ⟨#[47]⟩ = ⟨#[]⟩ :: V ∧ V ≠ [] := by
  refine ⟨_, words_one (s := s) (sep := ⟨#[47]⟩) (a := []) (b := r) rfl (by rw [h]; rfl) (by simp), fun e => ?_⟩
  have := words_length ⟨r.toArray⟩ ⟨#[47]⟩ (by decide)
  rw [e] at this
  simp at this
theorem cutP_head {q : ByteArray} (hr : reqB q = true) (hk : decOk q = true) : ∃ r, (cutP (decS q) ⟨#[63]⟩).data.toList = 47 :: r := by
  obtain ⟨-, ⟨qr, hq0⟩, -⟩ := reqB_list hr
  obtain ⟨T, hT⟩ : ∃ T, decG q.data.toList = some T := Option.isSome_iff_exists.1 hk
  have htT : (decS q).data.toList = T := by unfold decS; rw [hT]
  obtain ⟨T', hT0⟩ : ∃ T', T = 47 :: T' := by
    rw [hq0, decG_as qr (by decide)] at hT
    cases e : decG qr with
    | none => rw [e] at hT; cases hT
    | some m => rw [e] at hT; cases hT; exact ⟨m, rfl⟩
  unfold cutP
  rw [mk_toArray, htT, show (⟨#[63]⟩ : ByteArray).data.toList = [63] from rfl]
  rcases cut_facts T with ⟨h1, -, -⟩ | ⟨a, b, h1, h2, h3, -⟩
  · rw [h1]; exact ⟨T', hT0⟩
  · rw [h3]
    cases a with
    | nil => rw [hT0] at h1; simp at h1
    | cons y r => rw [hT0] at h1; simp at h1; exact ⟨r, by rw [← h1.1]⟩
theorem app_empty (a : ByteArray) : a ++ (⟨#[]⟩ : ByteArray) = a := bytes_ext (by rw [app_data]; simp)
set_option maxRecDepth 100000 in
set_option maxHeartbeats 2000000 in
theorem normalR_any (s : ByteArray) (D : List ByteArray) (v : Value) (w : World) (m : Int) (hs : s.size ≤ 9223372036854775807) (hD : Sl w 1 encS v D) (hm : w.cell? ⟨0, 0, none⟩ = some (.int .i64 m)) :
    Calls Tryd.prog 24 #[.string s, v] w fun e w' => e = .returned (.tuple #[.string (nrS s D), .int .i64 (nrF s D)]) ∧ Below w.heap.size w w' := by
  have HI := Lib.hid (isReqR_any s w hs)
  have HDS := Lib.hid hD
  obtain ⟨ao, cap, rfl, -, -, -, -⟩ := hD
  cases hr : reqB s
  case false =>
    have hF : Hid (nrF s D = 3) := Lib.hid (by unfold nrF; rw [if_pos hr])
    have hS : Hid (nrS s D = ⟨#[]⟩) := Lib.hid (by unfold nrS; rw [hF.out]; rfl)
    rw [hr] at HI
    clear hr
    go_enter Tryd.func24, Tryd.ntmps24
    go_wp2_with fail
    refine HI.out.mono ?_
    rintro e w1 ⟨rfl, rfl⟩
    go_wp2_with fail
    go_ret2
    exact ⟨by rw [hF.out, hS.out]; rfl, Below.refl _ _⟩
  have h300 := (reqB_true hr).2.1
  by_cases h20 : 20 < D.length
  · have hF : Hid (nrF s D = 2) := Lib.hid (by unfold nrF; rw [if_neg (by simp [hr]), if_pos h20])
    have hS : Hid (nrS s D = ⟨#[]⟩) := Lib.hid (by unfold nrS; rw [hF.out]; rfl)
    rw [hr] at HI
    have hz : (20 : Int) < (D.length : Int) := by omega
    clear hr
    go_enter Tryd.func24, Tryd.ntmps24
    go_wp2_with fail
    refine HI.out.mono ?_
    rintro e w1 ⟨rfl, rfl⟩
    go_wp2_with fail
    go_ret2
    exact ⟨by rw [hF.out, hS.out]; rfl, Below.refl _ _⟩
  have HDC := Lib.hid (fun W => decodedR_any s W h300)
  have hz : ¬ (20 : Int) < (D.length : Int) := by omega
  cases hk : decOk s
  case false =>
    have hF : Hid (nrF s D = 10) := Lib.hid (by unfold nrF; rw [if_neg (by simp [hr]), if_neg h20, if_pos hk])
    have hS : Hid (nrS s D = ⟨#[]⟩) := Lib.hid (by unfold nrS; rw [hF.out]; rfl)
    rw [hr] at HI
    rw [hk] at HDC
    clear hr hk
    go_enter Tryd.func24, Tryd.ntmps24
    go_wp2_with fail
    refine HI.out.mono ?_
    rintro e w1 ⟨rfl, rfl⟩
    go_wp2_with fail
    refine (HDC.out _).mono ?_
    rintro e w2 ⟨rfl, n2, rfl⟩
    go_wp2_with fail
    go_ret2
    exact ⟨by rw [hF.out, hS.out]; rfl, below_drewN (Below.refl _ _) _⟩
  have hF : Hid (nrF s D = 0) := Lib.hid (by unfold nrF; rw [if_neg (by simp [hr]), if_neg h20, if_neg (by simp [hk])])
  have hS : Hid (nrS s D = normG (decS s) D) := Lib.hid (by unfold nrS; rw [hF.out]; rfl)
  obtain ⟨pr, hpr⟩ := cutP_head hr hk
  rw [hr] at HI
  rw [hk] at HDC
  obtain ⟨t, ht⟩ : ∃ t, t = decS s := ⟨_, rfl⟩
  have hts : t.size ≤ 300 := by have := decS_size s; rw [← ht] at this; omega
  rw [← ht] at HDC hS hpr
  have h0 := World.block_lt_of_cell? w _ hm
  have HM := Lib.hid hm
  have HCU := Lib.hid (fun W h => cut_any t ⟨#[63]⟩ m W (by omega) h)
  have hc1 := (cut_size t ⟨#[63]⟩).1
  have hc2 := (cut_size t ⟨#[63]⟩).2
  obtain ⟨P, hP⟩ : ∃ P, P = cutP t ⟨#[63]⟩ := ⟨_, rfl⟩
  obtain ⟨Q, hQ⟩ : ∃ Q, Q = cutQ t ⟨#[63]⟩ := ⟨_, rfl⟩
  have eP : (⟨(Lib.cut t.data.toList (⟨#[63]⟩ : ByteArray).data.toList).1.toArray⟩ : ByteArray) = P := by rw [hP]; rfl
  have eQ : (⟨(Lib.cut t.data.toList (⟨#[63]⟩ : ByteArray).data.toList).2.1.toArray⟩ : ByteArray) = Q := by rw [hQ]; rfl
  rw [eP] at hc1
  rw [eQ] at hc2
  rw [eP, eQ] at HCU
  rw [← hP] at hpr
  generalize (Lib.cut t.data.toList (⟨#[63]⟩ : ByteArray).data.toList).2.2 = Z at HCU
  obtain ⟨V, hV, hVn⟩ := words_head hpr
  have hwp := words_many P ⟨#[47]⟩ (by decide)
  have HPT := Lib.hid (fun W h => pathOf_any P W m (by omega) h (by rw [hV]; have := List.length_pos_iff.2 hVn; simp; omega) (by omega) (fun x hx => by have := words_size hx; omega))
  have HQY := Lib.hid (fun W h1 h2 => queryOf_any Q D (.slice ao D.length cap) W m (by omega) h1 h2)
  have HX : Hid (tidyB ((wordsB P ⟨#[47]⟩).drop 1) ++ qryB Q D = normG t D) := Lib.hid (by
    have e1 : tidyB ((wordsB P ⟨#[47]⟩).drop 1) = tidyB (wordsB P ⟨#[47]⟩) := by rw [hV, List.drop_succ_cons, List.drop_zero, tidyB_zero]
    have e2 : partsQ t D = parF (wordsB Q ⟨#[38]⟩) D (wordsB Q ⟨#[38]⟩).length := by rw [hQ]; rfl
    unfold normG qryB
    rw [e1, e2, ← hP]
    by_cases h : (parF (wordsB Q ⟨#[38]⟩) D (wordsB Q ⟨#[38]⟩).length).length = 0
    · rw [if_pos h, if_neg (by omega), app_empty]
    · rw [if_neg h, if_pos (by omega)])
  have hs1 := tidyB_size (ps := (wordsB P ⟨#[47]⟩).drop 1) (fun x hx => by have := words_size (List.mem_of_mem_drop hx); omega) (by rw [List.length_drop]; omega)
  have hs2 : (qryB Q D).size ≤ 1010001 := by
    have hq := words_many Q ⟨#[38]⟩ (by decide)
    have hpl := parF_len (wordsB Q ⟨#[38]⟩) D (wordsB Q ⟨#[38]⟩).length
    unfold qryB
    split
    · exact Nat.zero_le _
    · have h1 := joinB_size (L := refS (parF (wordsB Q ⟨#[38]⟩) D (wordsB Q ⟨#[38]⟩).length)) (sep := ⟨#[38]⟩) (fun x hx => by have := words_size (parF_mem _ D _ (Nat.le_refl _) x (refS_mem.1 hx)); omega) (by rw [refS_len]; omega) (by decide)
      have h2 : (⟨#[63]⟩ : ByteArray).size = 1 := rfl
      rw [ByteArray.size_append]
      omega
  generalize tidyB ((wordsB P ⟨#[47]⟩).drop 1) = X1 at HPT HX hs1
  generalize qryB Q D = X2 at HQY HX hs2
  clear hr hk ht hP hQ eP eQ hpr hV hVn hwp hm hts
  go_enter Tryd.func24, Tryd.ntmps24
  go_wp2_with fail
  refine HI.out.mono ?_
  rintro e w1 ⟨rfl, rfl⟩
  go_wp2_with fail
  refine (HDC.out _).mono ?_
  rintro e w2 ⟨rfl, n2, rfl⟩
  have HB2 := Lib.hid (below_drewN (Below.refl w.heap.size w) n2)
  have HM2 : Hid ((w.drewN n2).cell? ⟨0, 0, none⟩ = some (.int .i64 m)) := HM
  obtain ⟨w2, hw2⟩ : ∃ w2, w2 = w.drewN n2 := ⟨_, rfl⟩
  rw [← hw2] at HB2 HM2 ⊢
  clear hw2
  go_wp2_with fail
  refine (HCU.out _ HM2.out).mono ?_
  rintro e w3 ⟨rfl, n3, rfl⟩
  have HB3 := Lib.hid (below_drewN HB2.out n3)
  have HM3 : Hid ((w2.drewN n3).cell? ⟨0, 0, none⟩ = some (.int .i64 m)) := HM2
  obtain ⟨w3, hw3⟩ : ∃ w3, w3 = w2.drewN n3 := ⟨_, rfl⟩
  rw [← hw3] at HB3 HM3 ⊢
  clear hw3
  go_wp2_with fail
  refine (HPT.out _ HM3.out).mono ?_
  rintro e w4 ⟨rfl, hb4⟩
  have HB4 := Lib.hid (HB3.out.thru hb4)
  have HM4 := Lib.hid ((HB4.out.cell (p := ⟨0, 0, none⟩) h0).trans HM.out)
  clear hb4
  go_wp2_with fail
  refine (HQY.out _ (HDS.out.below HB4.out (Nat.le_refl _)) HM4.out).mono ?_
  rintro e w5 ⟨rfl, hb5⟩
  have HB5 := Lib.hid (HB4.out.thru hb5)
  clear hb5
  go_wp2_with fail
  go_ret2
  exact ⟨by rw [hF.out, hS.out, ← HX.out]; rfl, HB5.out⟩
set_option maxRecDepth 100000 in
set_option maxHeartbeats 4000000 in
theorem keys_any (w : World) (s : ByteArray) (D : List ByteArray) (v : Value) (hs : s.size ≤ 9223372036854775807) (hD : Sl w 1 encS v D) (m : Int) (hm : w.cell? ⟨0, 0, none⟩ = some (.int .i64 m)) :
    Calls Tryd.prog 5 #[.string s, v] w fun e' w' => e' = .returned (.bool true) ∧ Below w.heap.size w w' := by
  have h0 := World.block_lt_of_cell? w _ hm
  have H1 := Lib.hid (fun (W : World) (h : Below w.heap.size w W) => normalE_any s D v W m hs (hD.below h (Nat.le_refl _)) ((h.cell (p := ⟨0, 0, none⟩) h0).trans hm))
  have H2 := Lib.hid (fun (W : World) (h : Below w.heap.size w W) => normalR_any s D v W m hs (hD.below h (Nat.le_refl _)) ((h.cell (p := ⟨0, 0, none⟩) h0).trans hm))
  have H5 := Lib.hid (fun (W : World) (h : Below w.heap.size w W) => awakeE_any W m ((h.cell (p := ⟨0, 0, none⟩) h0).trans hm))
  have H3 : Hid (nrF s D = 0 → ∀ (W : World), Below w.heap.size w W → Calls Tryd.prog 23 #[.string (nrS s D), v] W fun e w' => e = .returned (.tuple #[.string (nrS s D), .int .i64 0]) ∧ Below W.heap.size W w') := Lib.hid (fun hz W h => by
    obtain ⟨q1, q2, q3⟩ := nr_id hz
    have h3 := normalE_any (nrS s D) D v W m (by omega) (hD.below h (Nat.le_refl _)) ((h.cell (p := ⟨0, 0, none⟩) h0).trans hm)
    rw [q1, q2] at h3
    exact h3)
  have HSZ : Hid (nrF s D = 0 → (nrS s D).size ≤ s.size) := Lib.hid (fun hz => (nr_id hz).2.2)
  obtain ⟨ao, cap, rfl, -, -, -, -⟩ := hD
  clear hm
  generalize nrS s D = X at H1 H2 H3 HSZ
  generalize nrF s D = f at H1 H2 H3 HSZ
  have hXX : (X.toList != X.toList) = false := by simp
  have hXY : (X.toList == X.toList) = true := by simp
  have hFF : (f != f) = false := by simp
  go_enter Tryd.func5, Tryd.ntmps5
  go_wp2_with fail
  refine (H1.out w (Below.refl _ _)).mono ?_
  rintro e w1 ⟨rfl, hb1⟩
  have HB1 := Lib.hid hb1
  clear hb1 H1
  go_wp2_with fail
  refine (H2.out w1 HB1.out).mono ?_
  rintro e w2 ⟨rfl, hb2⟩
  have HB2 := Lib.hid (HB1.out.thru hb2)
  clear hb2 H2
  go_wp2_with fail
  refine (H5.out w2 HB2.out).mono ?_
  rintro e w3 ⟨rfl, hb3⟩
  have HB3 := Lib.hid (HB2.out.thru hb3)
  clear hb3
  by_cases hf : f = 0
  · subst hf
    have H6 := Lib.hid (H3.out rfl w3 HB3.out)
    have hle : (X.size : Int) ≤ (s.size : Int) := by have := HSZ.out rfl; omega
    clear hFF
    go_wp2_with fail
    refine H6.out.mono ?_
    rintro e w4 ⟨rfl, hb4⟩
    have HB4 := Lib.hid (HB3.out.thru hb4)
    clear hb4
    go_wp2_with fail
    go_ret
    exact ⟨rfl, HB4.out⟩
  · have hfb : (f != 0) = true := by rw [bne_iff_ne]; exact hf
    go_wp2_with fail
    go_ret
    exact ⟨rfl, HB3.out⟩
end Go.Proofs.YtmgbmoiefgfemaaDoor

/- Along of the program: the walk. -/
import Derived.Test.YtfkmdojnkdoffaaChnW
import Derived.Test.YtfkmdojnkdoffaaAlgE
namespace Go.Proofs.Ytfkmdojnkdoffaa
open Go.RowKit

theorem pathR_step {l : List Rng} {c : List Vw} {j i : Nat} : ((layF l c j i).nx = -1 ∧ pathR l c j i = [i]) ∨ ∃ j' i', j = j' + 1 ∧ i' < l.length ∧ (layF l c j i).nx = ((i' : Nat) : Int) ∧ pathR l c j i = i :: pathR l c j' i' := by
  cases j with
  | zero => exact Or.inl ⟨rfl, rfl⟩
  | succ j =>
    rcases bstF_or l c (layF l c j) i l.length with h | ⟨k, h1, h2, h3, h4⟩
    · left
      have e : layF l c (j + 1) i = alnF l c i := h
      have hn : (layF l c (j + 1) i).nx = -1 := by rw [e]; rfl
      exact ⟨hn, by unfold pathR; rw [hn, if_neg (by omega)]⟩
    · right
      have e : layF l c (j + 1) i = ⟨quA l i * Wt l c i k + (layF l c j k).wo, k⟩ := h4
      have hn : (layF l c (j + 1) i).nx = (k : Int) := by rw [e]
      refine ⟨j, k, rfl, h2, hn, ?_⟩
      show (if 0 ≤ (layF l c (j + 1) i).nx then _ else _) = _
      rw [hn, if_pos (by omega), Int.toNat_natCast]
/-- The fault of Along. -/
def algF (l : List Rng) (c : List Vw) (m : Int) : Int := if checkRV l c ≠ 0 then checkRV l c else if outB m 0 100 = true then 1 else 0
def algN (l : List Rng) (c : List Vw) (m : Int) : Int := if algF l c m = 0 then alN l c m.toNat else 0
def algL (l : List Rng) (c : List Vw) (m : Int) : List Int := if algF l c m = 0 then castL (alP l c m.toNat) else []
def AlgP (w : World) (l : List Rng) (c : List Vw) (m : Int) : Ending → World → Prop := fun e w' => ∃ v, e = .returned (.tuple #[v, .int .i64 (algN l c m), .int .i64 (algF l c m)]) ∧ Sl w' 1 encI v (algL l c m) ∧ Below w.heap.size w w'
theorem AlgP.mk {w w' : World} {l : List Rng} {c : List Vw} {m a f : Int} {v : Value} (ha : a = algN l c m) (hf : f = algF l c m) (hs : Sl w' 1 encI v (algL l c m)) (hb : Below w.heap.size w w') : AlgP w l c m (.returned (.tuple #[v, .int .i64 a, .int .i64 f])) w' := ⟨v, by rw [ha, hf], hs, hb⟩
set_option maxRecDepth 100000 in
set_option maxHeartbeats 4000000 in
theorem Along_any (w : World) (l : List Rng) (u : Value) (c : List Vw) (v : Value) (m : Int) (hl : Sl w 4 encR u l) (hw : ∀ x, x ∈ l → WfR x) (hc : Sl w 3 encV v c) :
    Calls Try.prog 10 #[u, v, .int .i64 m] w (AlgP w l c m) := by
  have HR := Lib.hid (checkRen_any w l u hl hw)
  have HC := Lib.hid (fun (w2 : World) (hb : Below w.heap.size w w2) => checkCrowd_any w2 c v (hc.below hb (Nat.le_refl _)))
  have HN := Lib.hid (fun (w2 : World) => first_any (w2.alloc (.cells #[.int .i64 (checkR l), .int .i64 (checkV c)] 25)) [checkR l, checkV c] _ (Sl.fresh (enc := encI) (k := 1) (fun _ => rfl) w2 25 _ [checkR l, checkV c] (by simp [maxLen])))
  have HW := Lib.hid (fun (h : checkRV l c = 0) (k : Nat) (h1 : 1 ≤ k) (h2 : k ≤ 100) (w2 : World) (hb : Below w.heap.size w w2) => chains_any w2 l u c v k h1 h2 (hl.below hb (Nat.le_refl _)) (hc.below hb (Nat.le_refl _)) (checkR_zero (checkRV_zero h).1).1 (fun x hx => ((checkR_zero (checkRV_zero h).1).2.2 x hx).2.2.2) (checkV_zero (checkRV_zero h).2).1 (fun x hx => ⟨((checkV_zero (checkRV_zero h).2).2 x hx).1, ((checkV_zero (checkRV_zero h).2).2 x hx).2.2⟩))
  have HLB := Lib.hid (fun (h : checkRV l c = 0) => layF_bd (l := l) (c := c) (fun x hx => ((checkR_zero (checkRV_zero h).1).2.2 x hx).2.2.2) (fun x hx => ((checkV_zero (checkRV_zero h).2).2 x hx).2.2) (checkV_zero (checkRV_zero h).2).1)
  have HL1 := Lib.hid (fun (h : checkRV l c = 0) => (checkR_zero (checkRV_zero h).1).1)
  have HFF := Lib.hid (show algF l c m = if checkRV l c ≠ 0 then checkRV l c else if outB m 0 100 = true then 1 else 0 from rfl)
  have HNO := Lib.hid (fun (h : algF l c m ≠ 0) => And.intro (show algN l c m = 0 from by unfold algN; rw [if_neg h]) (show algL l c m = [] from by unfold algL; rw [if_neg h]))
  have HYES := Lib.hid (fun (h : algF l c m = 0) => And.intro (show algN l c m = alN l c m.toNat from by unfold algN; rw [if_pos h]) (show algL l c m = castL (alP l c m.toNat) from by unfold algL; rw [if_pos h]))
  rw [firstF_two] at HN
  obtain ⟨r, hr⟩ : ∃ r, r = checkRV l c := ⟨_, rfl⟩
  rw [← hr] at HN HW HFF HLB HL1
  generalize checkR l = r1 at HR HN
  generalize checkV c = r2 at HC HN
  unfold ChnP at HW
  clear hl hw hc hr
  go_enter Try.func10, Try.ntmps10
  go_upto_region 2 with (first | (go_at_call 18; refine HR.out.mono ?_; rintro e w2 ⟨rfl, hb⟩; have HB := Lib.hid hb; have HC2 := Lib.hid (HC.out w2 hb); clear hb) | (go_at_call 19; refine HC2.out.mono ?_; rintro e w3 ⟨rfl, hb3⟩; have HB3 := Lib.hid (HB.out.thru hb3); have HN3 := Lib.hid (HN.out w3); clear hb3) | (go_at_call 17; refine HN3.out.mono ?_; rintro e w4 ⟨rfl, rfl⟩; have HB4 := Lib.hid (HB3.out.alloc HB3.out.size (.cells #[.int .i64 r1, .int .i64 r2] 25))))
  cases e1 : (r != 0)
  case true =>
    have hr0 : r ≠ 0 := by simpa using e1
    have hf : Hid (r = algF l c m) := Lib.hid (by rw [HFF.out, if_pos hr0])
    obtain ⟨h1, h2⟩ := HNO.out (by rw [← hf.out]; exact hr0)
    have HN1 := Lib.hid h1
    have HN2 := Lib.hid h2
    clear h1 h2
    go_wp2
    go_ret3
    exact AlgP.mk HN1.out.symm hf.out (by rw [HN2.out]; exact Sl.nil) HB4.out
  have hr0 : r = 0 := by simpa using e1
  subst hr0
  have hneq : ((0 : Int) != 0) = false := rfl
  clear e1
  cases o1 : outB m 0 100
  case true =>
    have hf : Hid (1 = algF l c m) := Lib.hid (by rw [HFF.out, if_neg (by simp), if_pos o1])
    obtain ⟨h1, h2⟩ := HNO.out (by rw [← hf.out]; simp)
    have HN1 := Lib.hid h1
    have HN2 := Lib.hid h2
    clear h1 h2
    go_wp2_with (go_at_call 20; refine (out_any _ _ _ _).mono ?_; rintro e w' ⟨rfl, rfl⟩)
    go_ret3
    exact AlgP.mk HN1.out.symm hf.out (by rw [HN2.out]; exact Sl.nil) HB4.out
  have hf : Hid (0 = algF l c m) := Lib.hid (by rw [HFF.out, if_neg (by simp), if_neg (by simp [o1])])
  obtain ⟨h1, h2⟩ := HYES.out hf.out.symm
  have HN1 := Lib.hid h1
  have HN2 := Lib.hid h2
  have hm := outB_no' (show ¬ outB m 0 100 = true by rw [o1]; simp)
  clear h1 h2
  obtain ⟨M, rfl⟩ : ∃ M : Nat, m = (M : Int) := ⟨m.toNat, by omega⟩
  rw [Int.toNat_natCast] at HN1 HN2
  by_cases hM0 : M = 0
  · subst hM0
    have HN3 : Hid (0 = algN l c ((0 : Nat) : Int)) := Lib.hid (by rw [HN1.out]; rfl)
    have HN4 : Hid (algL l c ((0 : Nat) : Int) = []) := Lib.hid (by rw [HN2.out]; rfl)
    go_wp2_with (go_at_call 20; refine (out_any _ _ _ _).mono ?_; rintro e w' ⟨rfl, rfl⟩)
    go_ret3
    exact AlgP.mk HN3.out hf.out (by rw [HN4.out]; exact Sl.nil) HB4.out
  have hMz : ¬ (M : Int) = 0 := by omega
  have hMz2 : ((M : Int) == 0) = false := by simpa using hM0
  have hM1 : 1 ≤ M := by omega
  have hM100 : M ≤ 100 := by omega
  have HCH := Lib.hid (HW.out rfl M hM1 hM100 _ HB4.out)
  have hn100 := HL1.out rfl
  have HLB2 := Lib.hid (HLB.out rfl)
  clear HW HLB HL1 HR HC HN HFF HNO HYES
  go_wp2_with (go_at_call 20; refine (out_any _ _ _ _).mono ?_; rintro e w' ⟨rfl, rfl⟩)
  refine HCH.out.mono ?_
  rintro e w5 ⟨v5, LV, rfl, ho5, hL5, hb5⟩
  have HB5 := Lib.hid (HB4.out.thru hb5)
  have HL5 := Lib.hid hL5
  have hLV := hL5.1
  obtain ⟨oo, ocap, Bo, rfl, hoc1, hoc2, _, hoel⟩ := own_parts encV1_len ho5
  unfold maxLen at hoc2
  have HOE := Lib.hid hoel
  clear hoel ho5 hb5 hL5 HCH
  obtain ⟨vl, hvl, hol⟩ := HL5.out.2 (M - 1) (by omega)
  obtain ⟨rfl, hBl, hcl⟩ := HOE.out (M - 1) vl hvl
  have cl : w5.cell? ⟨Bo, M - 1, none⟩ = some vl := by have h := hcl 0 _ rfl; simpa using h
  obtain ⟨la, lcap, gl, rfl, hlc1, hlc2, _, hlel⟩ := own_parts encT_len hol
  have hll : (layL l c (M - 1)).length = l.length := by simp [layL]
  rw [hll] at hlc1 cl
  rw [hLV]
  unfold maxLen at hlc2
  have HLE := Lib.hid hlel
  have hw1 : IntKind.i64.wrap ((M : Int) - 1) = (M : Int) - 1 := IntWalk.i64_in _ (by omega)
  have hw2 : ((M : Int) - 1).toNat = M - 1 := by omega
  have hw3 : (0 : Int) ≤ (M : Int) - 1 := by omega
  have hw4 : (M : Int) - 1 < (M : Int) := by omega
  have hw5 : (1 : Int) ≤ (M : Int) := by omega
  clear hvl hcl hol hlel
  go_wp2
  go_loopg [11, 12, 42] l.length (fun gg s11 s12 s42 wr => ∃ i : Nat, i ≤ l.length ∧ l.length - i ≤ gg ∧ s42 = .int .i64 i ∧ s11 = .int .i64 (topA (layF l c (M - 1)) i).1 ∧ s12 = .int .i64 (topA (layF l c (M - 1)) i).2 ∧ Aside (Below w5.heap.size w5 wr))
  case atStart => exact ⟨0, by omega, by omega, rfl, rfl, rfl, (show Aside _ from Below.refl _ _)⟩
  case round =>
    obtain ⟨wi, rfl⟩ : ∃ wi : World, wi = wr := ⟨_, rfl⟩
    obtain ⟨i, hi, hgi, rfl, rfl, rfl, BW⟩ := hrel
    by_cases hil : i < l.length
    · have hiz : (i : Int) < (l.length : Int) := by omega
      obtain ⟨rfl, hgl, hle⟩ := HLE.out i (layF l c (M - 1) i) (by simp [layL, hil])
      have c0 : wi.cell? ⟨gl, i * 2, none⟩ = some (.int .i64 (layF l c (M - 1) i).wo) := by have h := (BW.out.cell (p := ⟨gl, i * 2 + 0, none⟩) hgl).trans (hle 0 _ rfl); simpa using h
      have c1 := (BW.out.cell (p := ⟨gl, i * 2 + 1, none⟩) hgl).trans (hle 1 _ rfl)
      have HNX : Hid (topA (layF l c (M - 1)) (i + 1) = if (topA (layF l c (M - 1)) i).2 < (layF l c (M - 1) i).wo then ((i : Int), (layF l c (M - 1) i).wo) else topA (layF l c (M - 1)) i) := Lib.hid rfl
      obtain ⟨p, hp⟩ : ∃ p, p = topA (layF l c (M - 1)) i := ⟨_, rfl⟩
      obtain ⟨x, hx⟩ : ∃ x, x = layF l c (M - 1) i := ⟨_, rfl⟩
      rw [← hp] at HNX ⊢
      rw [← hx] at HNX c0 c1
      have HNB : Hid (∀ n, Below w5.heap.size w5 ((wi.alloc (.cells #[.int .i64 x.wo, .int .i64 x.nx] 59)).drewN n)) := Lib.hid (fun n => below_drewN (BW.out.alloc BW.out.size _) n)
      clear hle hp hx
      by_cases e2 : p.2 < x.wo
      · have HN5 : Hid (topA (layF l c (M - 1)) (i + 1) = ((i : Int), x.wo)) := Lib.hid (by rw [HNX.out, if_pos e2])
        go_upto_region 14 with (fail)
        go_quiet (fail)
        go_wp2
        go_roundg (l.length - (i + 1))
        case measure => omega
        case rel => exact ⟨i + 1, by omega, by omega, by go_num, (by rw [HN5.out]), (by rw [HN5.out]), (show Aside _ from HNB.out _)⟩
      · have HN5 : Hid (topA (layF l c (M - 1)) (i + 1) = p) := Lib.hid (by rw [HNX.out, if_neg e2])
        go_wp2
        go_roundg (l.length - (i + 1))
        case measure => omega
        case rel => exact ⟨i + 1, by omega, by omega, by go_num, (by rw [HN5.out]), (by rw [HN5.out]), (show Aside _ from HNB.out 0)⟩
    · obtain rfl : i = l.length := by omega
      have htop := (topA_ok (layF l c (M - 1)) l.length).2.2
      have HSN : Hid ((topA (layF l c (M - 1)) l.length).2 = algN l c M) := Lib.hid (by rw [HN1.out]; unfold alN; rw [if_neg hM0])
      have HPA : Hid (alP l c M = if (topA (layF l c (M - 1)) l.length).1 < 0 then [] else pathR l c (M - 1) (topA (layF l c (M - 1)) l.length).1.toNat) := Lib.hid (by unfold alP; rw [if_neg hM0])
      obtain ⟨t, ht⟩ : ∃ t, t = topA (layF l c (M - 1)) l.length := ⟨_, rfl⟩
      rw [← ht] at htop HSN HPA ⊢
      have HST : Hid (((t.1 = -1 ∧ castL (alP l c M) = []) ∨ ∃ i : Nat, i < l.length ∧ t.1 = (i : Int) ∧ castL (alP l c M) = castL (pathR l c (M - 1) i))) := Lib.hid (by
        rcases htop with ⟨h1, _⟩ | ⟨i, h1, h2, _⟩
        · exact Or.inl ⟨h1, by rw [HPA.out, if_pos (by omega)]; rfl⟩
        · exact Or.inr ⟨i, h1, h2, by rw [HPA.out, if_neg (by omega), h2, Int.toNat_natCast]⟩)
      have HBI := Lib.hid BW.out
      obtain ⟨FU, hFU⟩ : ∃ FU, FU = castL (alP l c M) := ⟨_, rfl⟩
      rw [← hFU] at HST HN2
      clear ht htop HPA HLE cl hFU BW
      obtain ⟨B5, hB5⟩ : ∃ B5, B5 = w5.heap.size := ⟨_, rfl⟩
      have HE5 := Lib.hid hB5
      rw [← hB5] at HBI
      clear hB5
      go_wp2
      go_loopg [11, 15, 16] (M + 1) (fun gg s11 s15 s16 wr => ∃ (a k : Int) (out : List Int), s11 = .int .i64 a ∧ s16 = .int .i64 k ∧ (-1 ≤ k ∧ k ≤ 99) ∧ Aside (Own wr B5 3 1 encI s15 out) ∧ Aside (Below B5 w5 wr) ∧ ((a = -1 ∧ Aside (out = FU)) ∨ ∃ i j : Nat, i < l.length ∧ a = (i : Int) ∧ k = (j : Int) ∧ j < M ∧ j + 1 ≤ gg ∧ out.length ≤ 100 - j ∧ Aside (FU = out ++ castL (pathR l c j i))))
      case atStart =>
        rcases HST.out with ⟨h1, h2⟩ | ⟨i, h1, h2, h3⟩
        · exact ⟨t.1, (M : Int) - 1, [], rfl, by go_num, by omega, (show Own _ _ _ _ _ _ _ from Own.nil), HBI.out, Or.inl ⟨h1, (show _ = _ from h2.symm)⟩⟩
        · exact ⟨t.1, (M : Int) - 1, [], rfl, by go_num, by omega, (show Own _ _ _ _ _ _ _ from Own.nil), HBI.out, Or.inr ⟨i, M - 1, h1, h2, by omega, by omega, by omega, by simp, (show _ = _ from h3)⟩⟩
      case round =>
        obtain ⟨a, k, out, rfl, rfl, ⟨hk0, hk1⟩, OW, BW, hor⟩ := hrel
        obtain ⟨xa, xL, xc, rfl⟩ := Own.slv encI_len OW.out
        rcases hor with ⟨rfl, HO⟩ | ⟨i, j, hil, rfl, rfl, hjM, hgj, hol2, HO⟩
        · have HSL : Hid (Sl wr 1 encI (.slice xa xL xc) (algL l c M)) := Lib.hid (by rw [HN2.out, ← HO.out]; exact OW.out.sl encI_len)
          have HBF : Hid (Below w.heap.size w wr) := Lib.hid (HB5.out.thru (by have h := BW.out; rw [HE5.out] at h; exact h))
          go_wp2
          go_ret3
          exact AlgP.mk HSN.out hf.out HSL.out HBF.out
        · have hiz : (0 : Int) ≤ (i : Int) := by omega
          have hiz2 : (i : Int) < (l.length : Int) := by omega
          have hjz : (j : Int) < (M : Int) := by omega
          have hB5r : B5 ≤ wr.heap.size := by have h1 := BW.out.size; have h2 := HE5.out; omega
          obtain ⟨vj, hvj, hoj⟩ := HL5.out.2 j hjM
          obtain ⟨_, hBl, hcj⟩ := HOE.out j vj hvj
          have HCJ : Hid (w5.cell? ⟨Bo, j, none⟩ = some vj) := Lib.hid (by have h := hcj 0 _ rfl; simpa using h)
          obtain ⟨ja, jcap, gj, rfl, hjc1, hjc2, _, hjel⟩ := own_parts encT_len hoj
          have hjl : (layL l c j).length = l.length := by simp [layL]
          obtain ⟨rfl, hgjl, hje⟩ := hjel i (layF l c j i) (by simp [layL, hil])
          rw [hjl] at hjc1 HCJ
          have HCN : Hid (w5.cell? ⟨gj, i * 2 + 1, none⟩ = some (.int .i64 (layF l c j i).nx)) := Lib.hid (hje 1 _ rfl)
          have HBL : Hid (Bo < B5 ∧ gj < B5) := Lib.hid (by have := HE5.out; omega)
          have HPS := Lib.hid (pathR_step (l := l) (c := c) (j := j) (i := i))
          have HBR := Lib.hid BW.out
          unfold maxLen at hjc2
          have hjw : IntKind.i64.wrap ((j : Int) - 1) = (j : Int) - 1 := IntWalk.i64_in _ (by omega)
          obtain ⟨nx, hnx⟩ : ∃ nx, nx = (layF l c j i).nx := ⟨_, rfl⟩
          rw [← hnx] at HCN HPS
          clear hvj hoj hcj hjel hje hnx BW
          go_wp2_with (at_builtin; go_loud (refine wpList_push rfl _ _ 24 rfl slI rfl rfl (i : Int) rfl rfl rfl OW.out rfl (by omega) hB5r ?_); intro v7 w7 ho7 hb7; obtain ⟨ya, yL, yc, rfl⟩ := Own.slv encI_len ho7; have HO7 := Lib.hid ho7; have HB7 := Lib.hid (HBR.out.trans hb7); have d1 := (HB7.out.cell (p := ⟨Bo, j, none⟩) HBL.out.1).trans HCJ.out; have d2 := (HB7.out.cell (p := ⟨gj, i * 2 + 1, none⟩) HBL.out.2).trans HCN.out; clear ho7 hb7)
          rcases HPS.out with ⟨h1, h2⟩ | ⟨j', i', rfl, h1, h2, h3⟩
          · go_roundg 0
            case measure => omega
            case rel => exact ⟨nx, (j : Int) - 1, out ++ [(i : Int)], rfl, rfl, by omega, (show Own _ _ _ _ _ _ _ from HO7.out), HB7.out, Or.inl ⟨h1, (show _ = _ from by rw [HO.out, h2]; rfl)⟩⟩
          · go_roundg (j' + 1)
            case measure => omega
            case rel =>
              refine ⟨nx, ((j' + 1 : Nat) : Int) - 1, out ++ [(i : Int)], rfl, rfl, by omega, (show Own _ _ _ _ _ _ _ from HO7.out), HB7.out, Or.inr ⟨i', j', h1, h2, by omega, by omega, by omega, by simp; omega, (show _ = _ from ?_)⟩⟩
              rw [HO.out, h3]
              simp [castL]
end Go.Proofs.Ytfkmdojnkdoffaa

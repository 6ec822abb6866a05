/- MarkCountsAnyOrder: the walk. -/
import Derived.Test.YtaoamechajffbaaAnyL
import Derived.Test.YtaoamechajffbaaCntLw
namespace Go.Proofs.Ytaoamechajffbaa
open Go.RowKit

theorem encE_one (y : Ev) : (encE y).all Value.oneCell' = true := rfl
set_option maxRecDepth 100000 in
set_option maxHeartbeats 4000000 in
theorem countsAny_any (w : World) (l : List Prt) (es : List Ev) (u v : Value) (hl : Sl w 3 encP u l) (he : Sl w 4 encE v es) (hw : ∀ p, p ∈ l → WfP p) (hs : ∀ e, e ∈ es → WfE e) :
    Calls Try.prog 4 #[u, v] w fun e w' => e = .returned (.bool true) ∧ Below w.heap.size w w' := by
  have H1 := Lib.hid (counts_any w l es u v hl he hw hs)
  have HE := Lib.hid he
  have H2 := Lib.hid (fun (W : World) (hb : Below w.heap.size w W) (x : Value) (hx : Sl W 4 encE x (es.reverse ++ es)) => counts_any W l (es.reverse ++ es) u x (hl.below hb (Nat.le_refl _)) hx hw (fun e h => hs e (by simpa using h)))
  have HAO := Lib.hid (@any_order l es)
  have HF := Lib.hid (@cntF_ok l es)
  have HKD := Lib.hid (fun c => @kinds_down l es c)
  have HFA : Hid (cntF l es ≠ 0 → cntA l es = [] ∧ cntI l es = []) := Lib.hid (fun h => ⟨by unfold cntA; rw [if_pos h], by unfold cntI; rw [if_pos h]⟩)
  obtain ⟨eo, ecap, rfl, hecap, hemax, henil, heel⟩ := he
  unfold maxLen at hemax
  have HEEL := Lib.hid heel
  clear heel hl hw hs henil
  unfold CntPost at H1 H2
  obtain ⟨A, hA⟩ : ∃ A, A = cntA l es := ⟨_, rfl⟩
  obtain ⟨I, hI⟩ : ∃ I, I = cntI l es := ⟨_, rfl⟩
  obtain ⟨f, hf⟩ : ∃ f, f = cntF l es := ⟨_, rfl⟩
  obtain ⟨A2, hA2⟩ : ∃ A2, A2 = cntA l (es.reverse ++ es) := ⟨_, rfl⟩
  obtain ⟨I2, hI2⟩ : ∃ I2, I2 = cntI l (es.reverse ++ es) := ⟨_, rfl⟩
  obtain ⟨f2, hf2⟩ : ∃ f2, f2 = cntF l (es.reverse ++ es) := ⟨_, rfl⟩
  rw [← hA] at H1 HAO HKD HFA
  rw [← hI] at H1 HAO HFA
  rw [← hf] at H1 HAO HF HFA
  rw [← hA2] at H2 HAO
  rw [← hI2] at H2 HAO
  rw [← hf2] at H2 HAO
  clear hA hI hf hA2 hI2 hf2
  go_enter Try.func4, Try.ntmps4
  go_wp2_with fail
  refine H1.out.mono ?_
  rintro e w1 ⟨v1, v2, rfl, hs1, hi1, hb1⟩
  have HS1 := Lib.hid hs1
  have HI1 := Lib.hid hi1
  have HB1 := Lib.hid hb1
  obtain ⟨a1, c1, rfl, hc1, hm1, _, hel1⟩ := hs1
  obtain ⟨a2, c2, rfl, hc2, hm2, _, _⟩ := hi1
  unfold maxLen at hm1 hm2
  have HEL1 := Lib.hid hel1
  clear hel1 hb1 H1
  by_cases hf0 : f = 0
  case neg =>
    have hne : (f != 0) = true := by simpa using hf0
    have heq : (f == 0) = false := by simpa using hf0
    obtain ⟨rfl, rfl⟩ := HFA.out hf0
    go_wp2_with (go_at_call 10; refine (awake_any _).mono ?_; rintro e w6 ⟨rfl, hb6⟩)
    go_ret
    exact ⟨rfl, HB1.out.thru hb6⟩
  subst hf0
  obtain ⟨hcp, hes, _⟩ := HF.out.1 rfl
  have hz2 : IntKind.i64.wrap (2 * (es.length : Int)) = 2 * (es.length : Int) := IntWalk.i64_in _ (by omega)
  by_cases hbig : 5000 < 2 * es.length
  case pos =>
    have hbz : (5000 : Int) < 2 * (es.length : Int) := by omega
    go_wp2_with (go_at_call 10; refine (awake_any _).mono ?_; rintro e w6 ⟨rfl, hb6⟩)
    go_ret
    exact ⟨rfl, HB1.out.thru hb6⟩
  have hbz : ¬ (5000 : Int) < 2 * (es.length : Int) := by omega
  obtain ⟨rfl, rfl, hlen⟩ := HAO.out rfl (by omega)
  have HLEN := Lib.hid hlen
  clear hlen HFA HAO HF hcp
  have hn1 := HB1.out.size
  obtain ⟨N1, hN1⟩ : ∃ N1, N1 = w1.heap.size := ⟨_, rfl⟩
  have HN1 := Lib.hid hN1
  have hNW : w.heap.size ≤ N1 := by omega
  clear hN1 hn1
  have hwl : IntKind.i64.wrap ((es.length : Int) - 1) = (es.length : Int) - 1 := IntWalk.i64_in _ (by omega)
  go_wp2
  go_loopg [8, 9] es.length (fun gg s8 s9 wr => ∃ k : Nat, k ≤ es.length ∧ k ≤ gg ∧ s9 = .int .i64 ((k : Int) - 1) ∧ Aside (Below N1 w1 wr) ∧ Aside (Own wr N1 37 4 encE s8 (es.drop k).reverse))
  case atStart => exact ⟨es.length, Nat.le_refl _, Nat.le_refl _, rfl, (show Aside _ from Below.refl _ _), (show Own _ _ _ _ _ _ _ from by rw [List.drop_length]; exact Own.nil)⟩
  case round =>
    obtain ⟨k, hk, hg, rfl, BW, OW⟩ := hrel
    obtain ⟨ta, tL, tc, rfl⟩ := Own.slv encE_len OW.out
    by_cases hk0 : 0 < k
    · obtain ⟨j, rfl⟩ : ∃ j, k = j + 1 := ⟨k - 1, by omega⟩
      have hkz : (0 : Int) ≤ ((j + 1 : Nat) : Int) - 1 := by omega
      have hjz : ((j + 1 : Nat) : Int) - 1 = (j : Int) := by omega
      obtain ⟨x, hx⟩ : ∃ x, es[j]? = some x := ⟨es[j]'(by omega), by simp⟩
      obtain ⟨b, off, rfl, hc⟩ := HEEL.out j x hx
      have hlt0 : b < w.heap.size := World.block_lt_of_cell? w _ (hc 0 _ rfl)
      have HBW : Hid (Below w.heap.size w wr) := Lib.hid (HB1.out.trans (BW.out.mono hNW))
      have c0 : wr.cell? ⟨b, off + j * 4, none⟩ = some (.string x.se) := by have h := (HBW.out.cell (p := ⟨b, off + j * 4 + 0, none⟩) hlt0).trans (hc 0 _ rfl); simpa using h
      have c1 := (HBW.out.cell (p := ⟨b, off + j * 4 + 1, none⟩) hlt0).trans (hc 1 _ rfl)
      have c2 := (HBW.out.cell (p := ⟨b, off + j * 4 + 2, none⟩) hlt0).trans (hc 2 _ rfl)
      have c3 := (HBW.out.cell (p := ⟨b, off + j * 4 + 3, none⟩) hlt0).trans (hc 3 _ rfl)
      have HNX : Hid ((es.drop j).reverse = (es.drop (j + 1)).reverse ++ [x]) := Lib.hid (by
        obtain ⟨hj, rfl⟩ := List.getElem?_eq_some_iff.1 hx
        rw [List.drop_eq_getElem_cons hj, List.reverse_cons])
      have HLB : Hid (((es.drop (j + 1)).reverse.length + 1) * 48 ≤ 140737488355328) := Lib.hid (by simp; omega)
      have hbs := BW.out.size
      have hb0 : N1 ≤ wr.heap.size := by have := HN1.out; omega
      have hjl : (j : Int) < (es.length : Int) := by omega
      have hjn : j < es.length := by omega
      clear hx hc
      rw [hjz]
      clear hkz hjz hbs
      go_wp2_with (at_builtin; refine wpList_push rfl _ _ 23 rfl slE rfl rfl (enc := encE) x rfl rfl rfl OW.out rfl HLB.out hb0 ?_; intro v5 w5 ho5 hb5; have HO5 := Lib.hid ho5; have HB5 := Lib.hid (BW.out.trans hb5); clear ho5 hb5)
      go_roundg j
      case measure => omega
      case rel => exact ⟨j, by omega, by omega, by go_num, HB5.out, (show Own _ _ _ _ _ _ _ from by rw [HNX.out]; exact HO5.out)⟩
    · obtain rfl : k = 0 := by omega
      have HO : Hid (Own wr N1 37 4 encE (.slice ta tL tc) es.reverse) := Lib.hid OW.out
      have hbs := BW.out.size
      have hb0 : N1 ≤ wr.heap.size := by have := HN1.out; omega
      have HBW : Hid (Below w.heap.size w wr) := Lib.hid (HB1.out.trans (BW.out.mono hNW))
      have HEX := Lib.hid (HE.out.below HBW.out (Nat.le_refl _))
      have HLB : Hid ((es.reverse.length + es.length) * 48 ≤ 140737488355328) := Lib.hid (by simp; omega)
      clear hbs OW
      go_wp2_with (at_builtin; refine wpList_extend (v := .slice ta tL tc) (u := .slice eo es.length ecap) (l := es.reverse) (m := es) rfl _ _ 23 rfl slE encE_len encE_one rfl rfl HO.out HEX.out HLB.out hb0 ?_; intro v3 w3 ho3 hb3; have HO3 := Lib.hid ho3; have HB3 := Lib.hid (BW.out.trans hb3); clear ho3 hb3)
      have HC := Lib.hid (H2.out w3 (HB1.out.trans (HB3.out.mono hNW)) _ (HO3.out.sl encE_len))
      refine HC.out.mono ?_
      rintro e w4 ⟨v4, v5, rfl, hs4, hi4, hb4⟩
      have HB4 : Hid (Below N1 w1 w4) := Lib.hid (HB3.out.trans (hb4.mono (by have := HB3.out.size; have := HN1.out; omega)))
      have HS4 := Lib.hid hs4
      obtain ⟨a5, c5, rfl, hc5, hm5, _, _⟩ := hi4
      have HS14 := Lib.hid (HS1.out.below HB4.out (Nat.le_of_eq HN1.out.symm))
      have HEQ := Lib.hid (equalSameK w4 A2 _ v4 HS14.out HS4.out)
      clear hs4 hb4 HC HO3 HB3 HEX HO HBW hb0
      unfold maxLen at hm5
      have hle1 : I2.length = I.length + es.length := HLEN.out
      have hlez : (I2.length : Int) = (I.length : Int) + (es.length : Int) := by omega
      have hlew : IntKind.i64.wrap ((I.length : Int) + (es.length : Int)) = (I.length : Int) + (es.length : Int) := IntWalk.i64_in _ (by omega)
      clear hle1
      go_wp2_with (go_at_call 8; refine HEQ.out.mono ?_; rintro e w5 ⟨rfl, hb5⟩; have HB5 := Lib.hid (HB4.out.trans (hb5.mono (by have := HB4.out.size; have := HN1.out; omega))); clear hb5)
      go_wp2
      go_loopg [12] A2.length (fun gg s12 wr => ∃ i : Nat, i ≤ A2.length ∧ A2.length - i ≤ gg ∧ s12 = .int .i64 i ∧ ∃ n, wr = w5.drewN n)
      case atStart => exact ⟨0, by omega, by omega, rfl, 0, rfl⟩
      case round =>
        obtain ⟨i, hi, hgi, rfl, n, rfl⟩ := hrel
        by_cases hia : i < A2.length
        · have hiz : (i : Int) < (A2.length : Int) := by omega
          obtain ⟨c, hcx⟩ : ∃ c, A2[i]? = some c := ⟨A2[i], by simp [hia]⟩
          obtain ⟨b, off, rfl, hc⟩ := HEL1.out i c hcx
          have hlt0 : b < w1.heap.size := World.block_lt_of_cell? w1 _ (hc 0 _ rfl)
          have hltN : b < N1 := by have := HN1.out; omega
          have x0 : w5.cell? ⟨b, off + i * 6 + 1, none⟩ = some (.int .i64 c.k0) := (HB5.out.cell (p := ⟨b, off + i * 6 + 1, none⟩) hltN).trans (hc 1 _ rfl)
          have x1 : w5.cell? ⟨b, off + i * 6 + 2, none⟩ = some (.int .i64 c.k1) := (HB5.out.cell (p := ⟨b, off + i * 6 + 2, none⟩) hltN).trans (hc 2 _ rfl)
          have x2 : w5.cell? ⟨b, off + i * 6 + 3, none⟩ = some (.int .i64 c.k2) := (HB5.out.cell (p := ⟨b, off + i * 6 + 3, none⟩) hltN).trans (hc 3 _ rfl)
          have x3 : w5.cell? ⟨b, off + i * 6 + 4, none⟩ = some (.int .i64 c.k3) := (HB5.out.cell (p := ⟨b, off + i * 6 + 4, none⟩) hltN).trans (hc 4 _ rfl)
          have x4 : w5.cell? ⟨b, off + i * 6 + 5, none⟩ = some (.int .i64 c.k4) := (HB5.out.cell (p := ⟨b, off + i * 6 + 5, none⟩) hltN).trans (hc 5 _ rfl)
          obtain ⟨d1, d2, d3, d4⟩ := HKD.out c (List.mem_of_getElem? hcx)
          have e1 : ¬ c.k0 < c.k1 := by omega
          have e2 : ¬ c.k1 < c.k2 := by omega
          have e3 : ¬ c.k2 < c.k3 := by omega
          have e4 : ¬ c.k3 < c.k4 := by omega
          clear hcx hc d1 d2 d3 d4
          go_wp2
          go_loopg [13] 5 (fun g3 s13 wr => ∃ k : Nat, 1 ≤ k ∧ k ≤ 5 ∧ 5 - k ≤ g3 ∧ s13 = .int .i64 k ∧ ∃ n, wr = w5.drewN n)
          case atStart => exact ⟨1, by omega, by omega, by omega, rfl, n, rfl⟩
          case round =>
            obtain ⟨k, hk1, hk5, hg3, rfl, n2, rfl⟩ := hrel
            have hkk : k = 1 ∨ k = 2 ∨ k = 3 ∨ k = 4 ∨ k = 5 := by omega
            rcases hkk with rfl | rfl | rfl | rfl | rfl
            · have hkz : IntKind.i64.wrap (((1 : Nat) : Int) - 1) = 0 := rfl
              go_upto_region 18 with (fail)
              go_quiet (fail)
              go_wp2
              go_roundg (5 - 2)
              case measure => omega
              case rel => exact ⟨2, by omega, by omega, by omega, by go_num, _, rfl⟩
            · have hkz : IntKind.i64.wrap (((2 : Nat) : Int) - 1) = 1 := rfl
              go_upto_region 18 with (fail)
              go_quiet (fail)
              go_wp2
              go_roundg (5 - 3)
              case measure => omega
              case rel => exact ⟨3, by omega, by omega, by omega, by go_num, _, rfl⟩
            · have hkz : IntKind.i64.wrap (((3 : Nat) : Int) - 1) = 2 := rfl
              go_upto_region 18 with (fail)
              go_quiet (fail)
              go_wp2
              go_roundg (5 - 4)
              case measure => omega
              case rel => exact ⟨4, by omega, by omega, by omega, by go_num, _, rfl⟩
            · have hkz : IntKind.i64.wrap (((4 : Nat) : Int) - 1) = 3 := rfl
              go_upto_region 18 with (fail)
              go_quiet (fail)
              go_wp2
              go_roundg (5 - 5)
              case measure => omega
              case rel => exact ⟨5, by omega, by omega, by omega, by go_num, _, rfl⟩
            · go_wp2
              go_roundg (A2.length - (i + 1))
              case measure => omega
              case rel => exact ⟨i + 1, by omega, by omega, by go_num, _, rfl⟩
        · have hiz : ¬ (i : Int) < (A2.length : Int) := by omega
          obtain rfl : i = A2.length := by omega
          have HB6 : Hid (Below w.heap.size w (w5.drewN n)) := Lib.hid (below_drewN (HB1.out.trans (HB5.out.mono hNW)) _)
          go_wp2_with (go_at_call 10; refine (awake_any _).mono ?_; rintro e w6 ⟨rfl, hb6⟩)
          go_ret
          exact ⟨rfl, HB6.out.thru hb6⟩
end Go.Proofs.Ytaoamechajffbaa

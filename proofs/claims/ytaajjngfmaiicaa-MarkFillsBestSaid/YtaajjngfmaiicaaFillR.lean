/- Fill of the reference. -/
import Derived.Test.YtaajjngfmaiicaaFillP
import Derived.Test.YtaajjngfmaiicaaAdsR
import Derived.Test.YtaajjngfmaiicaaChos
import Derived.Test.YtaajjngfmaiicaaBetR
namespace Go.Proofs.Ytaajjngfmaiicaa
open Go.RowKit

/-- The best set so far, in its box. -/
def BestAt (w : World) (b : Nat) (l : List Adv) (m : Int) (s : Nat) (wr : World) : Prop :=
  ∃ v r fd B, wr.heap[b]? = some (.cells #[v, .int .i64 (selL l B), .int .i64 (selV l B), .bool r, .bool fd] 45 (0, 0)) ∧ Sl wr 1 encI v B ∧ offB b v ∧ Below w.heap.size w wr ∧ bestTo l m s B ∧ (fd = false → s = 0 ∧ B = [])

theorem bestTo_zero (l : List Adv) {m : Int} (hm : 0 ≤ m) : bestTo l m 0 [] := ⟨okL_nil l hm, fun _ hj => absurd hj (Nat.not_lt_zero _)⟩
theorem natBit_int (k j : Nat) : natBit k j = !((k : Int) / 2 ^ j % 2 == 0) := by
  rw [← intBit_nat]
  unfold intBit
  by_cases h : (k : Int) / 2 ^ j % 2 = 0
  · simp [h]
  · simp [h]
theorem shl_len {n : Nat} (h : n ≤ 16) : IntKind.i64.wrap (1 * 2 ^ n) = ((2 ^ n : Nat) : Int) := by
  have h1 : (2 : Nat) ^ n ≤ 2 ^ 16 := Nat.pow_le_pow_right (by decide) h
  have e : (1 * 2 ^ n : Int) = ((2 ^ n : Nat) : Int) := by rw [Int.one_mul, Int.natCast_pow]; rfl
  rw [e]
  generalize 2 ^ n = z at h1
  rw [IntWalk.i64_in _ (by omega)]
theorem bits_zero : ∀ n, bitsL (natBit 0) n = []
  | 0 => rfl
  | n + 1 => by
    have h : natBit 0 n = false := by simp [natBit]
    simp only [bitsL, h, bits_zero n]; rfl

set_option maxRecDepth 100000 in
set_option maxHeartbeats 4000000 in
theorem FillR_any (w : World) (l : List Adv) (v : Value) (m : Int) (hl : Sl w 4 encA v l) (hw : ∀ x, x ∈ l → WfA x) :
    Calls Try.prog 7 #[v, .int .i64 m] w (FlP w l m) := by
  have HCA := Lib.hid (fun (W : World) (hb : Below w.heap.size w W) (k : Nat) (hk : k < l.length) => checkAd_any W l v k hk (hl.below hb (Nat.le_refl _)) hw)
  have HF : Hid (fillF l m = if adsF l ≠ 0 then adsF l else if outB m 0 1000000000000000 = true then 1 else 0) := Lib.hid rfl
  have HA : Hid (adsF l = if 16 < l.length then 2 else FF (afAt l) l.length) := Lib.hid rfl
  have HOK := Lib.hid (fun (h : adsF l = 0) => AdsOk.of h)
  have HL := Lib.hid hl
  have hlen : (l.length : Int) ≤ 9223372036854775807 := by
    obtain ⟨ao, cap, rfl, h1, h2, _⟩ := hl
    unfold maxLen at h2
    omega
  obtain ⟨ao, cap, rfl⟩ : ∃ ao cap, v = .slice ao l.length cap := by obtain ⟨ao, cap, rfl, _⟩ := hl; exact ⟨_, _, rfl⟩
  clear hl hw
  by_cases hbig : 16 < l.length
  · have hv : Hid (2 = fillF l m) := Lib.hid (by rw [HF.out, HA.out, if_pos hbig]; rfl)
    clear hlen
    go_enter Try.func7, Try.ntmps7
    go_wp2
    go_ret3
    exact FlP.bad (Below.refl _ _) hv.out (by decide)
  have HA2 : Hid (adsF l = FF (afAt l) l.length) := Lib.hid (by rw [HA.out, if_neg hbig])
  clear HA
  go_enter Try.func7, Try.ntmps7
  go_wp2
  go_loopg [7, 8] l.length (fun gg s7 _ wr => ∃ k : Nat, k ≤ l.length ∧ l.length - k ≤ gg ∧ s7 = .int .i64 k ∧ Aside (Below w.heap.size w wr) ∧ Aside (∀ j, j < k → afAt l j = 0))
  case atStart => exact ⟨0, Nat.zero_le _, by omega, rfl, Below.refl _ w, fun j hj => absurd hj (Nat.not_lt_zero _)⟩
  case round =>
    obtain ⟨k, hk, hg, rfl, BW, A⟩ := hrel
    by_cases hlt : k < l.length
    · have hltz : (k : Int) < (l.length : Int) := by omega
      have HC := Lib.hid (HCA.out wr BW.out k hlt)
      have HS : Hid (∀ z, afAt l k = z → z ≠ 0 → z = fillF l m) := Lib.hid (fun z h hz => by
        have h1 := FF_hit hlt A.out (by rw [h]; exact hz)
        rw [HF.out, HA2.out, h1, h, if_pos hz])
      obtain ⟨z, hz⟩ : ∃ z, z = afAt l k := ⟨_, rfl⟩
      rw [← hz] at HC HS
      have HZ := Lib.hid hz
      clear hz
      cases e1 : (z != 0)
      case true =>
        have hne : z ≠ 0 := by simpa using e1
        have hv := Lib.hid (HS.out z rfl hne)
        have HNE := Lib.hid hne
        clear hne
        go_wp2_with (go_at_call 13; refine HC.out.mono ?_; rintro e w2 ⟨rfl, hb⟩)
        go_ret3
        exact FlP.bad (BW.out.thru hb) hv.out HNE.out
      case false =>
        obtain rfl : z = 0 := by simpa using e1
        clear e1
        go_wp2_with (go_at_call 13; refine HC.out.mono ?_; rintro e w2 ⟨rfl, hb⟩)
        go_roundg (l.length - (k + 1))
        case measure => omega
        case rel =>
          refine ⟨k + 1, by omega, by omega, by go_num, BW.out.thru hb, (show Aside _ from fun j hj => ?_)⟩
          by_cases e : j = k
          · rw [e, ← HZ.out]
          · exact A.out j (by omega)
    · obtain rfl : k = l.length := by omega
      have hz : Hid (adsF l = 0) := Lib.hid (by rw [HA2.out, FF_zero A.out])
      have ha := Lib.hid (HOK.out hz.out)
      cases o1 : outB m 0 1000000000000000
      case true =>
        have hv : Hid (1 = fillF l m) := Lib.hid (by rw [HF.out, hz.out, o1]; rfl)
        go_wp2_with (go_at_call 14; refine (within_any _ _ _ _).mono ?_; rintro e w' ⟨rfl, rfl⟩)
        go_ret3
        exact FlP.bad BW.out hv.out (by decide)
      have hv : Hid (fillF l m = 0) := Lib.hid (by rw [HF.out, hz.out, o1]; rfl)
      have hm := outB_no o1
      have hlen16 : l.length ≤ 16 := by omega
      clear A hz HOK HA2 HF HCA hk hg hlt
      go_wp2_with (go_at_call 14; refine (within_any _ _ _ _).mono ?_; rintro e w' ⟨rfl, rfl⟩)
      have HB0 : Hid (BestAt w wr.heap.size l m 0 (wr.alloc (.cells #[.slice none 0 0, .int .i64 0, .int .i64 0, .bool false, .bool false] 45))) := Lib.hid
        ⟨_, _, _, [], block_new wr _, Sl.nil, .nil _, BW.out.alloc BW.out.size _, bestTo_zero l hm.1, fun _ => ⟨rfl, rfl⟩⟩
      have hb9 := BW.out.size
      obtain ⟨b9, hb9'⟩ : ∃ b9, b9 = wr.heap.size := ⟨_, rfl⟩
      rw [← hb9'] at HB0 hb9 ⊢
      obtain ⟨w2, hw2⟩ : ∃ w2, w2 = wr.alloc (.cells #[.slice none 0 0, .int .i64 0, .int .i64 0, .bool false, .bool false] 45) := ⟨_, rfl⟩
      rw [← hw2] at HB0 ⊢
      clear hw2 hb9' BW
      have hpw : (2 : Nat) ^ l.length ≤ 2 ^ 16 := Nat.pow_le_pow_right (by decide) hlen16
      obtain ⟨N, hN⟩ : ∃ N, N = 2 ^ l.length := ⟨_, rfl⟩
      rw [← hN] at hpw
      have hNi : IntKind.i64.wrap (1 * 2 ^ l.length) = (N : Int) := by rw [shl_len hlen16, hN]
      have hNj : IntKind.i64.wrap (2 ^ l.length) = (N : Int) := by rw [← hNi, Int.one_mul]
      have HN := Lib.hid hN
      clear hN
      go_loopg [10, 11] N (fun gg s10 _ wx => ∃ k : Nat, k ≤ N ∧ N - k ≤ gg ∧ s10 = .int .i64 k ∧ Aside (BestAt w b9 l m k wx))
      case atStart => exact ⟨0, Nat.zero_le _, by omega, rfl, HB0.out⟩
      case round =>
        obtain ⟨k, hk, hg, rfl, HR⟩ := hrel
        by_cases hlt : k < N
        · have hltz : (k : Int) < (N : Int) := by omega
          obtain ⟨vb, r, fd, B, hblk, hsB, hoB, hbB, hbest, hfd⟩ := HR.out
          have HBLK := Lib.hid hblk
          have HSB := Lib.hid hsB
          have HOB := Lib.hid hoB
          have HBB := Lib.hid hbB
          have HBST := Lib.hid hbest
          have HFD := Lib.hid hfd
          have HCH := Lib.hid (chosen_any wr l _ (k : Int) (natBit k) ha.out (HL.out.below HBB.out (Nat.le_refl _)) (by omega) (fun j _ => natBit_int k j))
          have hlb := lt_of_blk hblk
          unfold ChP at HCH
          have HCC : Hid (rgtB l (natBit k) l.length = true → selL l (bitsL (natBit k) l.length) ≤ m → okL l m (bitsL (natBit k) l.length)) := Lib.hid bitsL_ok
          have HCD : Hid (okL l m (bitsL (natBit k) l.length) → rgtB l (natBit k) l.length = true ∧ selL l (bitsL (natBit k) l.length) ≤ m) := Lib.hid (fun h => ⟨(rgtB_iff l (natBit k) l.length).2 h.riv, h.len⟩)
          have HZ : Hid (fd = false → bitsL (natBit k) l.length = [] ∧ B = []) := Lib.hid (fun h => by
            obtain ⟨rfl, rfl⟩ := hfd h
            exact ⟨bits_zero _, rfl⟩)
          have HNXT : Hid (∀ B', upB l B B' → okL l m B' → (okL l m (bitsL (natBit k) l.length) → betB l (bitsL (natBit k) l.length) B' = false) → bestTo l m (k + 1) B') := Lib.hid (fun B' h1 h2 h3 => hbest.next h1 h2 h3)
          obtain ⟨C, hC⟩ : ∃ C, C = bitsL (natBit k) l.length := ⟨_, rfl⟩
          obtain ⟨rg, hrg⟩ : ∃ rg, rg = rgtB l (natBit k) l.length := ⟨_, rfl⟩
          rw [← hC, ← hrg] at HCC HCD HCH
          rw [← hC] at HZ HNXT
          clear hC hrg hsB hoB hbB hbest hfd hblk
          go_upto_region 16 with (go_at_call 15; refine HCH.out.mono ?_; rintro e w3 ⟨vc, rfl, ho3, hb3⟩; obtain ⟨co, cL, cc, rfl⟩ := Own.slv encI_len ho3; have HO3 := Lib.hid ho3; have HB3 := Lib.hid hb3; clear ho3 hb3)
          obtain ⟨bo, bL, bcap, rfl⟩ : ∃ ao L cap, vb = .slice ao L cap := by obtain ⟨ao, cap, rfl, _⟩ := HSB.out; exact ⟨_, _, _, rfl⟩
          have HKC := Lib.hid (block_new w3 (.cells #[.slice co cL cc, .int .i64 (selL l C), .int .i64 (selV l C), .bool rg, .bool false] 45))
          have HB4 := Lib.hid (HB3.out.alloc HB3.out.size (.cells #[.slice co cL cc, .int .i64 (selL l C), .int .i64 (selV l C), .bool rg, .bool false] 45))
          have HSC := Lib.hid ((HO3.out.sl encI_len).below ((Below.refl _ _).alloc (Nat.le_refl _) (.cells #[.slice co cL cc, .int .i64 (selL l C), .int .i64 (selV l C), .bool rg, .bool false] 45)) (Nat.le_refl _))
          have hz3 := HB3.out.size
          obtain ⟨w4, hw4⟩ : ∃ w4, w4 = w3.alloc (.cells #[.slice co cL cc, .int .i64 (selL l C), .int .i64 (selV l C), .bool rg, .bool false] 45) := ⟨_, rfl⟩
          have HZ4 : Hid (w4.heap.size = w3.heap.size + 1) := Lib.hid (by rw [hw4]; simp)
          rw [← hw4] at HKC HB4 HSC ⊢
          have HK9 := Lib.hid ((HB4.out.block b9 hlb).trans HBLK.out)
          have HOC := Lib.hid (HO3.out.offB (P := b9) (by omega))
          have HSB4 := Lib.hid (HSB.out.below HB4.out (Nat.le_refl _))
          have b0 := (cell_of_block (i := 0) HK9.out).trans rfl
          have b1 := (cell_of_block (i := 1) HK9.out).trans rfl
          have b2 := (cell_of_block (i := 2) HK9.out).trans rfl
          have b3 := (cell_of_block (i := 3) HK9.out).trans rfl
          have b4 := (cell_of_block (i := 4) HK9.out).trans rfl
          have c0 := (cell_of_block (i := 0) HKC.out).trans rfl
          have c1 := (cell_of_block (i := 1) HKC.out).trans rfl
          have c2 := (cell_of_block (i := 2) HKC.out).trans rfl
          have c3 := (cell_of_block (i := 3) HKC.out).trans rfl
          have c4 := (cell_of_block (i := 4) HKC.out).trans rfl
          have hl4 : w3.heap.size < w4.heap.size := lt_of_blk HKC.out
          have hl9 : b9 < w4.heap.size := lt_of_blk HK9.out
          have HBET : Hid (Calls Try.prog 16 #[.agg #[.slice co cL cc, .int .i64 (selL l C), .int .i64 (selV l C), .bool rg, .bool false], .agg #[.slice bo bL bcap, .int .i64 (selL l B), .int .i64 (selV l B), .bool r, .bool fd]] w4 fun e w' => e = .returned (.bool (betB l C B)) ∧ Below w4.heap.size w4 w') :=
            Lib.hid (betterR_any w4 _ _ _ _ C B _ _ rg false r fd HSC.out HSB4.out)
          obtain ⟨be, hbe⟩ : ∃ be, be = betB l C B := ⟨_, rfl⟩
          rw [← hbe] at HBET
          have HBE := Lib.hid hbe
          clear hw4 hbe
          go_cut [58] (fun s58 w5 => s58 = .bool (rg && decide (selL l C ≤ m) && (!fd || be)) ∧ Aside (Below w4.heap.size w4 w5))
          case first =>
            cases rg
            case false =>
              go_wp2
              go_meet
              exact ⟨by simp, Below.refl _ _⟩
            by_cases hlm : selL l C ≤ m
            · have hd : decide (selL l C ≤ m) = true := decide_eq_true hlm
              cases fd
              · go_wp2
                go_meet
                exact ⟨by rw [hd]; rfl, Below.refl _ _⟩
              · go_wp2_with (go_at_call 16; refine HBET.out.mono ?_; rintro e w5 ⟨rfl, hb5⟩)
                go_meet
                exact ⟨by rw [hd]; simp, hb5⟩
            · have hd : decide (selL l C ≤ m) = false := decide_eq_false hlm
              go_wp2
              go_meet
              exact ⟨by rw [hd]; simp, Below.refl _ _⟩
          obtain ⟨rfl, HW5⟩ := hcut
          have HT : Hid ((rg && decide (selL l C ≤ m) && (!fd || be)) = true → okL l m C ∧ upB l B C) := Lib.hid (fun h => by
            simp only [Bool.and_eq_true, decide_eq_true_eq] at h
            obtain ⟨⟨h1, h2⟩, h3⟩ := h
            refine ⟨HCC.out h1 h2, ?_⟩
            cases fd
            · obtain ⟨h4, h5⟩ := HZ.out rfl
              exact .inl (by rw [h4, h5])
            · exact .inr (by rw [← HBE.out]; simpa using h3))
          have HU : Hid ((rg && decide (selL l C ≤ m) && (!fd || be)) = false → fd = true ∧ (okL l m C → betB l C B = false)) := Lib.hid (fun h => by
            have h3 : okL l m C → (!fd || be) = false := fun hc => by
              obtain ⟨h1, h2⟩ := HCD.out hc
              rw [h1, decide_eq_true h2] at h
              simpa using h
            cases fd
            · obtain ⟨h4, h5⟩ := HZ.out rfl
              have := h3 (by rw [h4]; exact okL_nil l hm.1)
              simp at this
            · exact ⟨rfl, fun hc => by rw [← HBE.out]; simpa using h3 hc⟩)
          generalize (rg && decide (selL l C ≤ m) && (!fd || be)) = tk at HT HU ⊢
          have HB5 := Lib.hid (HB4.out.thru HW5.out)
          have k9 := (HW5.out.block b9 hl9).trans HK9.out
          have kc := (HW5.out.block w3.heap.size hl4).trans HKC.out
          have HK9' := Lib.hid k9
          clear b0 b1 b2 b3 b4 c0 c1 c2 c3 c4 hz3
          cases tk
          case false =>
            obtain ⟨hfd, hno⟩ := HU.out rfl
            have HE : Hid (BestAt w b9 l m (k + 1) wc) := Lib.hid ⟨_, r, fd, B, k9, HSB4.out.below HW5.out (Nat.le_refl _), HOB.out, HBB.out.thru HB5.out, HNXT.out B (.refl l B) HBST.out.1 hno, fun h => by rw [hfd] at h; cases h⟩
            clear k9 kc hfd hno
            go_wp2
            go_roundg (N - (k + 1))
            case measure => omega
            case rel => exact ⟨k + 1, by omega, by omega, by go_num, HE.out⟩
          case true =>
            obtain ⟨hok, hup⟩ := HT.out rfl
            have HOK2 := Lib.hid hok
            have HUP2 := Lib.hid hup
            have c0 := (cell_of_block (i := 0) kc).trans rfl
            have c1 := (cell_of_block (i := 1) kc).trans rfl
            have c2 := (cell_of_block (i := 2) kc).trans rfl
            have c3 := (cell_of_block (i := 3) kc).trans rfl
            have c4 := (cell_of_block (i := 4) kc).trans rfl
            have b0 := (cell_of_block (i := 0) k9).trans rfl
            have b1 := (cell_of_block (i := 1) k9).trans rfl
            have b2 := (cell_of_block (i := 2) k9).trans rfl
            have b3 := (cell_of_block (i := 3) k9).trans rfl
            have b4 := (cell_of_block (i := 4) k9).trans rfl
            have z : ∀ i, wc.frozen? ⟨b9, i, none⟩ = false := fun i => by simp [World.frozen?, k9]
            have z0 := z 0
            have z1 := z 1
            have z2 := z 2
            have z3 := z 3
            have z4 := z 4
            have h5a := heap_setCell_same wc b9 0 _ _ (.slice co cL cc) k9
            have h5b := heap_setCell_same _ b9 1 _ _ (.int .i64 (selL l C)) h5a
            have h5c := heap_setCell_same _ b9 2 _ _ (.int .i64 (selV l C)) h5b
            have h5d := heap_setCell_same _ b9 3 _ _ (.bool rg) h5c
            have h5e := heap_setCell_same _ b9 4 _ _ (.bool false) h5d
            have h5f := heap_setCell_same _ b9 4 _ _ (.bool true) h5e
            have HE := Lib.hid (show BestAt w b9 l m (k + 1) _ from ⟨.slice co cL cc, rg, true, C, h5f,
              (HSC.out.below HW5.out (Nat.le_refl _)).onl HOC.out ((((((Onl.set b9 _ 0 _).trans (Onl.set b9 _ 1 _)).trans (Onl.set b9 _ 2 _)).trans (Onl.set b9 _ 3 _)).trans (Onl.set b9 _ 4 _)).trans (Onl.set b9 _ 4 _)),
              HOC.out, ((((((HBB.out.thru HB5.out).setCell hb9 _).setCell hb9 _).setCell hb9 _).setCell hb9 _).setCell hb9 _).setCell hb9 _, HNXT.out C HUP2.out HOK2.out (fun _ => betB_irr l C), fun h => by cases h⟩)
            clear h5a h5b h5c h5d h5e h5f k9 kc z hok hup
            go_wp2
            go_roundg (N - (k + 1))
            case measure => omega
            case rel => exact ⟨k + 1, by omega, by omega, by go_num, HE.out⟩
        · obtain rfl : k = N := by omega
          have hltz : ¬ (k : Int) < (k : Int) := by omega
          obtain ⟨vb, r, fd, B, hblk, hsB, hoB, hbB, hbest, hfd⟩ := HR.out
          obtain ⟨bo, bL, bcap, rfl⟩ : ∃ ao L cap, vb = .slice ao L cap := by obtain ⟨ao, cap, rfl, _⟩ := hsB; exact ⟨_, _, _, rfl⟩
          have g0 := (cell_of_block (i := 0) hblk).trans rfl
          have g2 := (cell_of_block (i := 2) hblk).trans rfl
          have hlt9 := lt_of_blk hblk
          have HS := Lib.hid hsB
          have HBB := Lib.hid hbB
          have HD := Lib.hid (hbest.done (Nat.le_of_eq HN.out.symm))
          clear hsB hbB hbest hfd hblk hoB
          go_wp2
          go_quiet (fail)
          go_wp2
          go_ret3
          exact FlP.good (below_drewN HBB.out _) hv.out HD.out HS.out
end Go.Proofs.Ytaajjngfmaiicaa

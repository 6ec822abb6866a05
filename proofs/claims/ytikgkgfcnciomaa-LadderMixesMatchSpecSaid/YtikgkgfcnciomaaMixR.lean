/- Mixed of the reference. -/
import Derived.Test.YtikgkgfcnciomaaMixW
namespace Go.Proofs.Ytikgkgfcnciomaa
open Go.RowKit

/-- A block that holds a ratio. -/
def Pr (w : World) (g : Nat) (n d : Int) : Prop := w.heap[g]? = some (.cells #[.int .i64 n, .int .i64 d] 36 (0, 0))
theorem Pr.lt {w : World} {g : Nat} {n d : Int} (h : Pr w g n d) : g < w.heap.size := lt_of_block h
theorem Pr.set {w : World} {g : Nat} {n d : Int} (h : Pr w g n d) (n' d' : Int) : Pr ((w.setCell ⟨g, 0, none⟩ (.int .i64 n')).setCell ⟨g, 1, none⟩ (.int .i64 d')) g n' d' := by
  have h1 := heap_setCell_same w g 0 _ _ (.int .i64 n') h
  have h2 := heap_setCell_same _ g 1 _ _ (.int .i64 d') h1
  unfold Pr
  rw [h2]
  rfl
theorem Pr.below {w w' : World} {g B : Nat} {n d : Int} (h : Pr w g n d) (hb : Below B w w') (hB : w.heap.size ≤ B) : Pr w' g n d := (hb.block g (Nat.lt_of_lt_of_le h.lt hB)).trans h
theorem blk_set {w : World} {g k : Nat} {o : Obj} {v u : Value} (h : w.heap[k]? = some o) (hne : k ≠ g) : ((w.setCell ⟨g, 0, none⟩ v).setCell ⟨g, 1, none⟩ u).heap[k]? = some o :=
  (Below.heap_setCell _ ⟨g, 1, none⟩ u k hne).trans ((Below.heap_setCell w ⟨g, 0, none⟩ v k hne).trans h)
/-- Within what less compares. -/
def Bdd (n d : Int) : Prop := (n = -1 ∧ d = 1) ∨ ((0 ≤ n ∧ n ≤ 10000000000000000) ∧ (0 < d ∧ d ≤ 1000000000))
theorem less_any (an ad bn bd : Int) (w : World) (h1 : Bdd an ad) (h3 : 0 ≤ bn ∧ bn ≤ 10000000000000000) (h4 : 0 < bd ∧ bd ≤ 1000000000) :
    Calls Try.prog 35 #[.agg #[.int .i64 an, .int .i64 ad], .agg #[.int .i64 bn, .int .i64 bd]] w fun e w' => e = .returned (.bool (lesP (an, ad) (bn, bd))) ∧ Below w.heap.size w w' := by
  rcases h1 with ⟨rfl, rfl⟩ | ⟨h1, h2⟩
  · exact less_neg bn bd w h3 h4
  · exact less_nn an ad bn bd w h1 h2 h3 h4
theorem red_bd {n d : Int} (hn : 0 ≤ n) (hd : 0 < d) : redN n d ≤ n ∧ redD n d ≤ d := ⟨Int.ediv_le_self _ hn, Int.ediv_le_self _ (Int.le_of_lt hd)⟩
/-- The state of the search. -/
structure MxI (w wr : World) (Bb : Nat) (n d : Int) (p : Int × Int) : Prop where
  val : (n, d) = p
  bd : Bdd n d
  pr : Pr wr Bb n d
  zero : Pr wr w.heap.size 0 0
  bel : Below w.heap.size w wr
theorem MxI.step {w wr w' : World} {Bb : Nat} {n d : Int} {p : Int × Int} (h : MxI w wr Bb n d p) {B : Nat} (hb : Below B wr w') (hB : wr.heap.size ≤ B) : MxI w w' Bb n d p :=
  ⟨h.val, h.bd, h.pr.below hb hB, h.zero.below hb hB, h.bel.thru (hb.mono hB)⟩
theorem MxI.store {w wr : World} {Bb : Nat} {n d : Int} {p : Int × Int} (h : MxI w wr Bb n d p) (hne : w.heap.size < Bb) (n' d' : Int) (hbd : Bdd n' d') : MxI w ((wr.setCell ⟨Bb, 0, none⟩ (.int .i64 n')).setCell ⟨Bb, 1, none⟩ (.int .i64 d')) Bb n' d' (n', d') :=
  ⟨rfl, hbd, h.pr.set n' d', blk_set h.zero (by omega), (h.bel.setCell (p := ⟨Bb, 0, none⟩) (Nat.le_of_lt hne) _).setCell (p := ⟨Bb, 1, none⟩) (Nat.le_of_lt hne) _⟩

set_option maxRecDepth 100000 in
set_option maxHeartbeats 4000000 in
theorem MixedR_any (w : World) (l : List Rng) (v : Value) (r : Int) (hl : Sl w 4 encR v l) (hw : ∀ x, x ∈ l → WfR x) :
    Calls Try.prog 18 #[v, .int .i64 r] w (MxP w (mixN l r) (mixD l r) (mixB l r) (mixF l r)) := by
  have HC := Lib.hid (fun (W : World) (hb : Below w.heap.size w W) => checkRenR_any W l v (hl.below hb (Nat.le_refl _)) hw)
  have HSL := Lib.hid hl
  have HF : Hid (mixF l r = if checkR l ≠ 0 then checkR l else if outB r 0 1000000000 = true then 1 else 0) := Lib.hid rfl
  have HBD := Lib.hid (fun h => mix_bad (l := l) (r := r) h)
  have HNO := Lib.hid (fun h => mix_none (l := l) (r := r) h)
  have HSM := Lib.hid (fun n d h0 h hn => mix_some (l := l) (r := r) (n := n) (d := d) h0 h hn)
  have HLE := Lib.hid (fun (h : checkR l = 0) => (checkR_zero h).1)
  have HIN := Lib.hid (fun (h : checkR l = 0) => inR_of h)
  have HMV := Lib.hid (fun (h : checkR l = 0) => mix_ok h r)
  have HLN := Lib.hid (fun (h : checkR l = 0) a b h1 h2 h3 h4 => linN_pos (l := l) (r := r) (a := a) (b := b) h h1 h2 h3 h4)
  obtain ⟨C, hC⟩ : ∃ C, C = checkR l := ⟨_, rfl⟩
  rw [← hC] at HC HF HLE HIN HMV HLN
  generalize mixN l r = MN at HBD HNO HSM ⊢
  generalize mixD l r = MD at HBD HNO HSM ⊢
  generalize mixB l r = MB at HBD HNO HSM ⊢
  generalize mixF l r = MF at HF HBD HSM ⊢
  generalize mixV l r = MV at HNO HSM HMV
  have HBK := Lib.hid (block_new w (.cells #[.int .i64 0, .int .i64 0] 36))
  have HB0 := Lib.hid ((Below.refl w.heap.size w).alloc (Nat.le_refl _) (.cells #[.int .i64 0, .int .i64 0] 36))
  clear hC hl hw
  go_enter Try.func18, Try.ntmps18
  go_wp2_with fail
  refine (HC.out _ HB0.out).mono ?_
  rintro e w1 ⟨rfl, hb⟩
  have HB1 := Lib.hid (HB0.out.thru hb)
  have HK1 := Lib.hid ((hb.block w.heap.size (lt_of_block HBK.out)).trans HBK.out)
  have hlt1 := lt_of_block HK1.out
  clear hb HC
  cases e1 : (C != 0)
  case true =>
    have hne : C ≠ 0 := by simpa using e1
    have hv : C = MF := by rw [HF.out, if_pos hne]
    obtain ⟨hb1, hb2, hb3⟩ := HBD.out (by rw [← hv]; exact hne)
    have HV1 := Lib.hid hv
    have HV2 := Lib.hid hb1
    have HV3 := Lib.hid hb2
    have HV4 := Lib.hid hb3
    have c0 := (cell_of_block (i := 0) HK1.out).trans rfl
    have c1 := (cell_of_block (i := 1) HK1.out).trans rfl
    have f0 := froz_of_block (i := 0) HK1.out
    have f1 := froz_of_block (i := 1) HK1.out
    clear hne hv hb1 hb2 hb3
    go_wp2
    exact bodyPost_ret (v := .tuple #[.agg #[.int .i64 0, .int .i64 0], .bool false, .int .i64 C]) (by simp [results, Try.results18, go_sem, c0, c1]) rfl (MxP.mk HV3.out.symm HV4.out.symm HV2.out.symm HV1.out ((HB1.out.setCell (Nat.le_refl _) _).setCell (Nat.le_refl _) _))
  obtain rfl : C = 0 := by simpa using e1
  have HF2 : Hid (MF = if outB r 0 1000000000 = true then 1 else 0) := Lib.hid (by rw [HF.out]; rfl)
  cases o1 : outB r 0 1000000000
  case true =>
    have hv : 1 = MF := by rw [HF2.out, o1]; rfl
    obtain ⟨hb1, hb2, hb3⟩ := HBD.out (by rw [← hv]; decide)
    have HV1 := Lib.hid hv
    have HV2 := Lib.hid hb1
    have HV3 := Lib.hid hb2
    have HV4 := Lib.hid hb3
    have c0 := (cell_of_block (i := 0) HK1.out).trans rfl
    have c1 := (cell_of_block (i := 1) HK1.out).trans rfl
    have f0 := froz_of_block (i := 0) HK1.out
    have f1 := froz_of_block (i := 1) HK1.out
    clear hv hb1 hb2 hb3
    go_wp2_with (go_at_call 27; refine (within5_any _ _ _ _).mono ?_; rintro e w' ⟨rfl, rfl⟩)
    exact bodyPost_ret (v := .tuple #[.agg #[.int .i64 0, .int .i64 0], .bool false, .int .i64 1]) (by simp [results, Try.results18, go_sem, c0, c1]) rfl (MxP.mk HV3.out.symm HV4.out.symm HV2.out.symm HV1.out ((HB1.out.setCell (Nat.le_refl _) _).setCell (Nat.le_refl _) _))
  case false =>
  have hor := outB_no o1
  have HF3 : Hid (0 = MF) := Lib.hid (by rw [HF2.out, o1]; rfl)
  have hlen := HLE.out rfl
  have IN := Lib.hid (HIN.out rfl)
  have LN := Lib.hid (HLN.out rfl)
  have MVV := Lib.hid (HMV.out rfl)
  obtain ⟨ao, cap, rfl, hcap, hmax, _, hel⟩ := HSL.out
  unfold maxLen at hmax
  have HEL := Lib.hid hel
  have HI0 : Hid (MxI w (w1.alloc (.cells #[.int .i64 (-1), .int .i64 1] 36)) w1.heap.size (-1) 1 (bestA l r 0)) := Lib.hid
    ⟨rfl, .inl ⟨rfl, rfl⟩, block_new w1 _, (Below.heap_alloc _ _ _ hlt1).trans HK1.out, HB1.out.alloc HB1.out.size _⟩
  clear e1 hel HF HF2 HLE HIN HLN HMV HBD
  go_wp2_with (go_at_call 27; refine (within5_any _ _ _ _).mono ?_; rintro e w' ⟨rfl, rfl⟩)
  clear o1
  obtain ⟨Bb, hBb⟩ : ∃ Bb, Bb = w1.heap.size := ⟨_, rfl⟩
  rw [← hBb] at HI0 ⊢
  have hne : w.heap.size < Bb := by omega
  obtain ⟨ww, hww⟩ : ∃ ww, ww = w1.alloc (.cells #[.int .i64 (-1), .int .i64 1] 36) := ⟨_, rfl⟩
  rw [← hww] at HI0 ⊢
  clear hBb hww HK1 HB1 hlt1
  go_loopg [28] l.length (fun gg s28 wr => ∃ i : Nat, ∃ n d : Int, i ≤ l.length ∧ l.length - i ≤ gg ∧ s28 = .int .i64 i ∧ Aside (MxI w wr Bb n d (bestA l r i)))
  case atStart => exact ⟨0, -1, 1, Nat.zero_le _, by omega, rfl, HI0.out⟩
  obtain ⟨i, n, d, hi, hg, rfl, HI⟩ := hrel
  have HI := Lib.hid HI.out
  by_cases hlt : i < l.length
  · have hltz : (i : Int) < (l.length : Int) := by omega
    obtain ⟨x, hx⟩ : ∃ y, l[i]? = some y := ⟨l[i], by simp [hlt]⟩
    obtain ⟨b, off, hao', hc'⟩ := HEL.out i x hx
    subst hao'
    have hblt : b < w.heap.size := World.block_lt_of_cell? w ⟨b, off + i * 4 + 1, none⟩ (hc' 1 _ rfl)
    have x0 : wr.cell? ⟨b, off + i * 4, none⟩ = some (.string x.na) := (HI.out.bel.cell (p := ⟨b, off + i * 4 + 0, none⟩) hblt).trans (hc' 0 _ rfl)
    have x1 := (HI.out.bel.cell (p := ⟨b, off + i * 4 + 1, none⟩) hblt).trans (hc' 1 _ rfl)
    have x2 := (HI.out.bel.cell (p := ⟨b, off + i * 4 + 2, none⟩) hblt).trans (hc' 2 _ rfl)
    have x3 := (HI.out.bel.cell (p := ⟨b, off + i * 4 + 3, none⟩) hblt).trans (hc' 3 _ rfl)
    have hix := IN.out x (List.mem_of_getElem? hx)
    unfold InR at hix
    have hszr := HI.out.bel.size
    have hbw : b < wr.heap.size := by omega
    have erx : rA l i = x.ra := by unfold rA; rw [getD_of hx]
    have eqx : qA l i = x.qu := by unfold qA; rw [getD_of hx]
    have ERX := Lib.hid erx
    have EQX := Lib.hid eqx
    have HI1 := Lib.hid (HI.out.step ((Below.refl wr.heap.size wr).alloc (Nat.le_refl _) (boxR x)) (Nat.le_refl _))
    have HKX := Lib.hid (block_new wr (boxR x))
    clear erx eqx hx hc'
    by_cases hxr : r < x.ra
    · have HBS : Hid (bestA l r (i + 1) = bestA l r i) := Lib.hid (by show (if _ then _ else _) = _; rw [ERX.out, if_pos hxr])
      go_wp2
      go_roundg (l.length - (i + 1))
      case measure => omega
      case rel => exact ⟨i + 1, n, d, by omega, by omega, by go_num, (show MxI _ _ _ _ _ _ by rw [HBS.out]; exact HI1.out)⟩
    · have HBS : Hid (bestA l r (i + 1) = rowA l r i (pick (bestA l r i) (x.qu, 1)) l.length) := Lib.hid (by show (if _ then _ else _) = _; rw [ERX.out, if_neg hxr, EQX.out])
      obtain ⟨wq, rfl⟩ : ∃ wq, wq = wr := ⟨_, rfl⟩
      have HLS := Lib.hid (fun W => less_any n d x.qu 1 W HI.out.bd (by omega) (by omega))
      have HI2 := Lib.hid (HI1.out.step ((Below.refl (wq.alloc (boxR x)).heap.size (wq.alloc (boxR x))).alloc (Nat.le_refl _) (.cells #[.int .i64 x.qu, .int .i64 1] 36)) (Nat.le_refl _))
      have HK2 := Lib.hid ((Below.heap_alloc (wq.alloc (boxR x)) (.cells #[.int .i64 x.qu, .int .i64 1] 36) _ (lt_of_block HKX.out)).trans HKX.out)
      have HKY := Lib.hid (block_new (wq.alloc (boxR x)) (.cells #[.int .i64 x.qu, .int .i64 1] 36))
      have b0 := (cell_of_block (i := 0) HI.out.pr).trans rfl
      have b1 := (cell_of_block (i := 1) HI.out.pr).trans rfl
      have hlb := HI.out.pr.lt
      have hbx : wq.heap.size ≠ Bb := by omega
      have hszq : (wq.alloc (boxR x)).heap.size = wq.heap.size + 1 := by simp
      rw [hszq] at HKY
      have HVL := Lib.hid HI.out.val
      go_upto_if 41 with fail
      refine (HLS.out _).mono ?_
      rintro e w4 ⟨rfl, hb⟩
      have HI3 := Lib.hid (HI2.out.step hb (Nat.le_refl _))
      have HK3 := Lib.hid ((hb.block _ (lt_of_block HK2.out)).trans HK2.out)
      have hky := (hb.block _ (lt_of_block HKY.out)).trans HKY.out
      have HKY3 := Lib.hid hky
      clear hb hky b0 b1 hszq HI1 HKX HK2 HKY HI2 x0 x1 x2 x3
      have HPK : Hid (pick (bestA l r i) (x.qu, 1) = if lesP (n, d) (x.qu, 1) = true then (x.qu, 1) else bestA l r i) := Lib.hid (by rw [← HVL.out]; rfl)
      generalize lesP (n, d) (x.qu, 1) = LB at HPK
      go_upto_if 41 with fail
      go_cut [41] (fun s41 w5 => s41 = .bool LB ∧ ∃ n2 d2 : Int, Aside (MxI w w5 Bb n2 d2 (pick (bestA l r i) (x.qu, 1))) ∧ Aside (w5.heap[wq.heap.size]? = some (boxR x)))
      case first =>
        cases LB
        case false =>
          go_wp2
          go_meet
          exact ⟨rfl, n, d, (show MxI _ _ _ _ _ _ by rw [HPK.out]; exact HI3.out), HK3.out⟩
        case true =>
          have b0 := (cell_of_block (i := 0) HI3.out.pr).trans rfl
          have b1 := (cell_of_block (i := 1) HI3.out.pr).trans rfl
          have f0 := froz_of_block (i := 0) HI3.out.pr
          have f1 := froz_of_block (i := 1) HI3.out.pr
          have y0 := (cell_of_block (i := 0) HKY3.out).trans rfl
          have y1 := (cell_of_block (i := 1) HKY3.out).trans rfl
          go_wp2
          go_meet
          exact ⟨rfl, x.qu, 1, (show MxI _ _ _ _ _ _ by rw [HPK.out]; exact HI3.out.store hne x.qu 1 (.inr ⟨by omega, by omega⟩)), (show _ = _ from blk_set HK3.out hbx)⟩
      obtain ⟨rfl, n2, d2, HJ, HKJ⟩ := hcut
      have HJ := Lib.hid HJ.out
      have HKJ := Lib.hid HKJ.out
      have HRW : Hid (pick (bestA l r i) (x.qu, 1) = rowA l r i (pick (bestA l r i) (x.qu, 1)) 0) := Lib.hid rfl
      generalize pick (bestA l r i) (x.qu, 1) = bp at HJ HRW HBS
      have HJ2 : Hid (MxI w wc Bb n2 d2 (rowA l r i bp 0)) := Lib.hid (by rw [← HRW.out]; exact HJ.out)
      obtain ⟨ws, rfl⟩ : ∃ ws, ws = wc := ⟨_, rfl⟩
      clear HI3 HK3 HKY3 HPK HLS HJ HRW HI
      go_wp2
      go_loopg [45] l.length (fun gg s45 wr => ∃ k : Nat, ∃ n d : Int, k ≤ l.length ∧ l.length - k ≤ gg ∧ s45 = .int .i64 k ∧ Aside (MxI w wr Bb n d (rowA l r i bp k)) ∧ Aside (wr.heap[wq.heap.size]? = some (boxR x)))
      case atStart => exact ⟨0, n2, d2, Nat.zero_le _, by omega, rfl, HJ2.out, HKJ.out⟩
      obtain ⟨k, n, d, hk, hgk, rfl, HI, HKX⟩ := hrel
      have HI := Lib.hid HI.out
      have HKX := Lib.hid HKX.out
      by_cases hltk : k < l.length
      · have hltkz : (k : Int) < (l.length : Int) := by omega
        obtain ⟨y, hy⟩ : ∃ y, l[k]? = some y := ⟨l[k], by simp [hltk]⟩
        obtain ⟨b', off', hao', hd'⟩ := HEL.out k y hy
        simp only [Option.some.injEq, Addr.mk.injEq, and_true] at hao'
        obtain ⟨rfl, rfl⟩ := hao'
        have y0 : wr.cell? ⟨b, off + k * 4, none⟩ = some (.string y.na) := (HI.out.bel.cell (p := ⟨b, off + k * 4 + 0, none⟩) hblt).trans (hd' 0 _ rfl)
        have y1 := (HI.out.bel.cell (p := ⟨b, off + k * 4 + 1, none⟩) hblt).trans (hd' 1 _ rfl)
        have y2 := (HI.out.bel.cell (p := ⟨b, off + k * 4 + 2, none⟩) hblt).trans (hd' 2 _ rfl)
        have y3 := (HI.out.bel.cell (p := ⟨b, off + k * 4 + 3, none⟩) hblt).trans (hd' 3 _ rfl)
        have hiy := IN.out y (List.mem_of_getElem? hy)
        unfold InR at hiy
        have hszk := HI.out.bel.size
        have hbw2 : b < wr.heap.size := by omega
        have ery : rA l k = y.ra := by unfold rA; rw [getD_of hy]
        have eqy : qA l k = y.qu := by unfold qA; rw [getD_of hy]
        have ERY := Lib.hid ery
        have EQY := Lib.hid eqy
        have HI1 := Lib.hid (HI.out.step ((Below.refl wr.heap.size wr).alloc (Nat.le_refl _) (boxR y)) (Nat.le_refl _))
        have HKX1 := Lib.hid ((Below.heap_alloc wr (boxR y) _ (lt_of_block HKX.out)).trans HKX.out)
        have hkxl := lt_of_block HKX.out
        clear ery eqy hy hd'
        by_cases hyr : y.ra ≤ r
        · have HBR : Hid (rowA l r i bp (k + 1) = rowA l r i bp k) := Lib.hid (by show (if _ then _ else _) = _; rw [ERY.out, if_pos hyr])
          go_wp2
          go_roundg (l.length - (k + 1))
          case measure => omega
          case rel => exact ⟨k + 1, n, d, by omega, by omega, by go_num, (show MxI _ _ _ _ _ _ by rw [HBR.out]; exact HI1.out), HKX1.out⟩
        · have hin : i < l.length := hlt
          have hnp := LN.out i k hlt hltk (by rw [ERX.out]; omega) (by rw [ERY.out]; omega)
          have hnum : linN l r i k = x.qu * (y.ra - r) + y.qu * (r - x.ra) := by unfold linN; rw [ERX.out, EQX.out, ERY.out, EQY.out]
          have hden : linD l i k = y.ra - x.ra := by unfold linD; rw [ERX.out, ERY.out]
          have HBR : Hid (rowA l r i bp (k + 1) = pick (rowA l r i bp k) (redN (x.qu * (y.ra - r) + y.qu * (r - x.ra)) (y.ra - x.ra), redD (x.qu * (y.ra - r) + y.qu * (r - x.ra)) (y.ra - x.ra))) := Lib.hid (by
            show (if _ then _ else _) = _
            rw [ERY.out, if_neg hyr, hnum, hden])
          rw [hnum] at hnp
          have hdp : 0 < y.ra - x.ra := by omega
          have q1 := mul_bd (a := x.qu) (b := y.ra - r) (A := 1000000) (B := 1000000000) (by omega) (by omega) (by omega) (by omega)
          have q2 := mul_bd (a := y.qu) (b := r - x.ra) (A := 1000000) (B := 1000000000) (by omega) (by omega) (by omega) (by omega)
          have m1 : IntKind.i64.wrap (y.ra - r) = y.ra - r := IntWalk.i64_in _ (by omega)
          have m2 : IntKind.i64.wrap (r - x.ra) = r - x.ra := IntWalk.i64_in _ (by omega)
          have m3 : IntKind.i64.wrap (y.ra - x.ra) = y.ra - x.ra := IntWalk.i64_in _ (by omega)
          have m4 : IntKind.i64.wrap (x.qu * (y.ra - r)) = x.qu * (y.ra - r) := IntWalk.i64_in _ (by omega)
          have m5 : IntKind.i64.wrap (y.qu * (r - x.ra)) = y.qu * (r - x.ra) := IntWalk.i64_in _ (by omega)
          have m6 : IntKind.i64.wrap (x.qu * (y.ra - r) + y.qu * (r - x.ra)) = x.qu * (y.ra - r) + y.qu * (r - x.ra) := IntWalk.i64_in _ (by omega)
          have HLO := Lib.hid (fun W => lowest_any (x.qu * (y.ra - r) + y.qu * (r - x.ra)) (y.ra - x.ra) W hnp (by omega) hdp (by omega))
          have hrb := red_bd hnp hdp
          have hlow := (red_ok hnp hdp).1
          generalize redN (x.qu * (y.ra - r) + y.qu * (r - x.ra)) (y.ra - x.ra) = RN at HLO HBR hrb hlow
          generalize redD (x.qu * (y.ra - r) + y.qu * (r - x.ra)) (y.ra - x.ra) = RD at HLO HBR hrb hlow
          obtain ⟨l1, l2, _⟩ := hlow
          obtain ⟨l3, l4⟩ := hrb
          simp only at l1 l2
          have hc1 : RN ≤ 10000000000000000 := by omega
          have hc2 : RD ≤ 1000000000 := by omega
          have HLS := Lib.hid (fun W => less_any n d RN RD W HI.out.bd ⟨l1, hc1⟩ ⟨l2, hc2⟩)
          have b0 := (cell_of_block (i := 0) HI.out.pr).trans rfl
          have b1 := (cell_of_block (i := 1) HI.out.pr).trans rfl
          have k1 := (cell_of_block (i := 1) HKX.out).trans rfl
          have k3 := (cell_of_block (i := 3) HKX.out).trans rfl
          have hlb := HI.out.pr.lt
          have HVL := Lib.hid HI.out.val
          clear q1 q2 hnum hden l3 l4 hnp hdp
          obtain ⟨wp, rfl⟩ : ∃ wp, wp = wr := ⟨_, rfl⟩
          go_wp2_with fail
          refine (HLO.out _).mono ?_
          rintro e w6 ⟨rfl, hb⟩
          have HI4 := Lib.hid (HI1.out.step hb (Nat.le_refl _))
          have HKX4 := Lib.hid ((hb.block _ (lt_of_block HKX1.out)).trans HKX1.out)
          have HI5 := Lib.hid (HI4.out.step ((Below.refl w6.heap.size w6).alloc (Nat.le_refl _) (.cells #[.int .i64 RN, .int .i64 RD] 36)) (Nat.le_refl _))
          have HKX5 := Lib.hid ((Below.heap_alloc w6 (.cells #[.int .i64 RN, .int .i64 RD] 36) _ (lt_of_block HKX4.out)).trans HKX4.out)
          have HKY5 := Lib.hid (block_new w6 (.cells #[.int .i64 RN, .int .i64 RD] 36))
          have e0 := (cell_of_block (i := 0) HI4.out.pr).trans rfl
          have e1 := (cell_of_block (i := 1) HI4.out.pr).trans rfl
          have hlb4 := HI4.out.pr.lt
          clear hb b0 b1 k1 k3 m1 m2 m3 m4 m5 m6 y0 y1 y2 y3
          go_upto_if 76 with fail
          refine (HLS.out _).mono ?_
          rintro e w7 ⟨rfl, hb⟩
          have HI6 := Lib.hid (HI5.out.step hb (Nat.le_refl _))
          have HKX6 := Lib.hid ((hb.block _ (lt_of_block HKX5.out)).trans HKX5.out)
          have HKY6 := Lib.hid ((hb.block _ (lt_of_block HKY5.out)).trans HKY5.out)
          have HPK : Hid (pick (rowA l r i bp k) (RN, RD) = if lesP (n, d) (RN, RD) = true then (RN, RD) else rowA l r i bp k) := Lib.hid (by rw [← HVL.out]; rfl)
          generalize lesP (n, d) (RN, RD) = LB at HPK
          clear hb e0 e1 HI4 HI5 HKX4 HKX5 HKY5 HI1 HKX1 HI HKX
          go_upto_if 76 with fail
          cases LB
          case false =>
            go_wp2
            go_roundg (l.length - (k + 1))
            case measure => omega
            case rel => exact ⟨k + 1, n, d, by omega, by omega, by go_num, (show MxI _ _ _ _ _ _ by rw [HBR.out, HPK.out]; exact HI6.out), HKX6.out⟩
          case true =>
            have b0 := (cell_of_block (i := 0) HI6.out.pr).trans rfl
            have b1 := (cell_of_block (i := 1) HI6.out.pr).trans rfl
            have f0 := froz_of_block (i := 0) HI6.out.pr
            have f1 := froz_of_block (i := 1) HI6.out.pr
            have y0 := (cell_of_block (i := 0) HKY6.out).trans rfl
            have y1 := (cell_of_block (i := 1) HKY6.out).trans rfl
            have hlb6 := HI6.out.pr.lt
            go_wp2
            go_roundg (l.length - (k + 1))
            case measure => omega
            case rel => exact ⟨k + 1, RN, RD, by omega, by omega, by go_num, (show MxI _ _ _ _ _ _ by rw [HBR.out, HPK.out]; exact HI6.out.store hne RN RD (.inr ⟨⟨l1, hc1⟩, ⟨l2, hc2⟩⟩)), (show _ = _ from blk_set HKX6.out hbx)⟩
      · obtain rfl : k = l.length := by omega
        go_wp2
        go_roundg (l.length - (i + 1))
        case measure => omega
        case rel => exact ⟨i + 1, n, d, by omega, by omega, by go_num, (show MxI _ _ _ _ _ _ by rw [HBS.out]; exact HI.out)⟩
  · obtain rfl : i = l.length := by omega
    have hv := HI.out.val
    rw [MVV.out] at hv
    have b0 := (cell_of_block (i := 0) HI.out.pr).trans rfl
    have b1 := (cell_of_block (i := 1) HI.out.pr).trans rfl
    have z0 := (cell_of_block (i := 0) HI.out.zero).trans rfl
    have z1 := (cell_of_block (i := 1) HI.out.zero).trans rfl
    have f0 := froz_of_block (i := 0) HI.out.zero
    have f1 := froz_of_block (i := 1) HI.out.zero
    have hlb := HI.out.pr.lt
    have hlz := HI.out.zero.lt
    have hne2 : Bb ≠ w.heap.size := by omega
    by_cases hneg : n < 0
    · obtain ⟨hb1, hb2, hb3⟩ := HNO.out (by rw [← hv]; exact hneg)
      have HV2 := Lib.hid hb1
      have HV3 := Lib.hid hb2
      have HV4 := Lib.hid hb3
      clear hv hb1 hb2 hb3
      go_wp2
      exact bodyPost_ret (v := .tuple #[.agg #[.int .i64 0, .int .i64 0], .bool false, .int .i64 0]) (by simp [results, Try.results18, go_sem, z0, z1]) rfl (MxP.mk HV3.out.symm HV4.out.symm HV2.out.symm HF3.out ((HI.out.bel.setCell (Nat.le_refl _) _).setCell (Nat.le_refl _) _))
    · obtain ⟨hb1, hb2, hb3⟩ := HSM.out _ _ HF3.out.symm hv.symm (by omega)
      have HV2 := Lib.hid hb1
      have HV3 := Lib.hid hb2
      have HV4 := Lib.hid hb3
      clear hv hb1 hb2 hb3
      go_wp2
      exact bodyPost_ret (v := .tuple #[.agg #[.int .i64 n, .int .i64 d], .bool true, .int .i64 0]) (by simp [results, Try.results18, go_sem, z0, z1]) rfl (MxP.mk HV3.out.symm HV4.out.symm HV2.out.symm HF3.out ((HI.out.bel.setCell (Nat.le_refl _) _).setCell (Nat.le_refl _) _))
end Go.Proofs.Ytikgkgfcnciomaa

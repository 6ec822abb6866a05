/- OnHull. -/
import Derived.Test.YtikgkgfcnciomaaMixR
namespace Go.Proofs.Ytikgkgfcnciomaa
open Go.RowKit

theorem mixV_pos {l : List Rng} (h : checkR l = 0) {r : Int} (hK : kA l (refN l l.length) r (refN l l.length).length ≠ 0) : 0 ≤ (mixV l r).1 := by
  have ho := refN_ok l l.length (Nat.le_refl _)
  have hk := kA_ok l (refN l l.length) r (refN l l.length).length
  unfold mixV
  simp only
  rw [if_neg hK]
  generalize kA l (refN l l.length) r (refN l l.length).length = K at hk hK ⊢
  have hx := (ho.mem _ (hul_get (l := l) (i := K - 1) (by omega))).1
  split
  · exact qA_pos h hx
  · have hy := (ho.mem _ (hul_get (l := l) (i := K) (by omega))).1
    have h1 := hk.2.1 (by omega)
    have h2 := hk.2.2 K (Nat.le_refl _) (by omega)
    exact (red_ok (linN_pos h hx hy h1 h2) (by unfold linD; omega)).1.1

structure OnI (w wr : World) (Bb : Nat) (n d : Int) : Prop where
  pr : Pr wr Bb n d
  zero : Pr wr w.heap.size 0 0
  bel : Below w.heap.size w wr
theorem OnI.step {w wr w' : World} {Bb : Nat} {n d : Int} (h : OnI w wr Bb n d) {B : Nat} (hb : Below B wr w') (hB : wr.heap.size ≤ B) : OnI w w' Bb n d :=
  ⟨h.pr.below hb hB, h.zero.below hb hB, h.bel.thru (hb.mono hB)⟩
theorem OnI.store {w wr : World} {Bb : Nat} {n d : Int} (h : OnI w wr Bb n d) (hne : w.heap.size < Bb) (n' d' : Int) : OnI w ((wr.setCell ⟨Bb, 0, none⟩ (.int .i64 n')).setCell ⟨Bb, 1, none⟩ (.int .i64 d')) Bb n' d' :=
  ⟨h.pr.set n' d', blk_set h.zero (by omega), (h.bel.setCell (p := ⟨Bb, 0, none⟩) (Nat.le_of_lt hne) _).setCell (p := ⟨Bb, 1, none⟩) (Nat.le_of_lt hne) _⟩
def OhP (w : World) (n d : Int) (b : Bool) : Ending → World → Prop := fun e w' => e = .returned (.tuple #[.agg #[.int .i64 n, .int .i64 d], .bool b]) ∧ Below w.heap.size w w'
theorem OhP.mk {w w' : World} {n d n' d' : Int} {b b' : Bool} (hn : n' = n) (hd : d' = d) (hb : b' = b) (hw : Below w.heap.size w w') : OhP w n d b (.returned (.tuple #[.agg #[.int .i64 n', .int .i64 d'], .bool b'])) w' := by
  subst hn hd hb
  exact ⟨rfl, hw⟩
/-- What has been found. -/
def FndI (k K : Nat) (n d : Int) (o : Bool) (MV : Int × Int) : Prop := (k = 0 → n = 0 ∧ d = 0 ∧ o = false) ∧ (0 < k → o = true) ∧ (0 < k → k = K → MV = (n, d))

set_option maxRecDepth 100000 in
set_option maxHeartbeats 4000000 in
theorem onHull_any (w : World) (l : List Rng) (v u : Value) (r : Int) (hl : Sl w 4 encR v l) (hh : Sl w 1 encI u (zL (refN l l.length))) (hf : mixF l r = 0) :
    Calls Try.prog 19 #[v, u, .int .i64 r] w (OhP w (mixN l r) (mixD l r) (mixB l r)) := by
  have hc : checkR l = 0 := by
    unfold mixF at hf
    split at hf
    · rename_i h; exact absurd hf h
    · rename_i h; exact Decidable.not_not.1 h
  have hor : 0 ≤ r ∧ r ≤ 1000000000 := by
    unfold mixF at hf
    rw [if_neg (fun h => h hc)] at hf
    split at hf
    · simp at hf
    · rename_i h; exact outB_no' h
  have HNO := Lib.hid (fun h => mix_none (l := l) (r := r) h)
  have HSM := Lib.hid (fun n d h hn => mix_some (l := l) (r := r) (n := n) (d := d) hf h hn)
  have hlen := (checkR_zero hc).1
  have IN := Lib.hid (inR_of hc)
  have hhl := refN_len l l.length
  have HHM := Lib.hid (refN_mem l l.length)
  have HK := Lib.hid (kA_ok l (refN l l.length) r (refN l l.length).length)
  have HMP := Lib.hid (fun h => mixV_pos hc (r := r) h)
  have HMV : Hid (mixV l r = if kA l (refN l l.length) r (refN l l.length).length = 0 then (-1, 1) else if kA l (refN l l.length) r (refN l l.length).length = (refN l l.length).length then (qA l ((refN l l.length).getD (kA l (refN l l.length) r (refN l l.length).length - 1) 0), 1)
      else (redN (linN l r ((refN l l.length).getD (kA l (refN l l.length) r (refN l l.length).length - 1) 0) ((refN l l.length).getD (kA l (refN l l.length) r (refN l l.length).length) 0)) (linD l ((refN l l.length).getD (kA l (refN l l.length) r (refN l l.length).length - 1) 0) ((refN l l.length).getD (kA l (refN l l.length) r (refN l l.length).length) 0)), redD (linN l r ((refN l l.length).getD (kA l (refN l l.length) r (refN l l.length).length - 1) 0) ((refN l l.length).getD (kA l (refN l l.length) r (refN l l.length).length) 0)) (linD l ((refN l l.length).getD (kA l (refN l l.length) r (refN l l.length).length - 1) 0) ((refN l l.length).getD (kA l (refN l l.length) r (refN l l.length).length) 0)))) := Lib.hid rfl
  have HUP := Lib.hid (fun i j h1 h2 => (hul_up (i := i) (j := j) hc h1 h2).1)
  have HLN := Lib.hid (fun a b h1 h2 h3 h4 => linN_pos (l := l) (r := r) (a := a) (b := b) hc h1 h2 h3 h4)
  generalize refN l l.length = h at hh hhl HHM HK HMV HUP HMP
  generalize mixN l r = MN at HNO HSM ⊢
  generalize mixD l r = MD at HNO HSM ⊢
  generalize mixB l r = MB at HNO HSM ⊢
  generalize mixV l r = MV at HNO HSM HMV HMP
  generalize hKK : kA l h r h.length = K at HK HMV HMP
  obtain ⟨ao, cap, rfl, hcap, hmax, _, hel⟩ := hl
  unfold maxLen at hmax
  have HEL := Lib.hid hel
  obtain ⟨ho, hcp, rfl, hhcap, hhmax, _, hhel⟩ := hh
  rw [zL_len] at hhcap ⊢
  unfold maxLen at hhmax
  have HHE := Lib.hid hhel
  have hKl := HK.out.1
  -- a corner has a Rate not above just where it is among the first K
  have HRK : Hid (∀ k, k < h.length → (rA l (h.getD k 0) ≤ r ↔ k < K)) := Lib.hid (fun k hk => by
    obtain ⟨k1, k2, k3⟩ := HK.out
    constructor
    · intro hr
      rcases Nat.lt_or_ge k K with e | e
      · exact e
      · have := k3 k e hk; omega
    · intro e
      have := k2 (by omega)
      by_cases f : k = K - 1
      · rw [f]; exact this
      · have := HUP.out k (K - 1) (by omega) (by omega)
        omega)
  have hb2 := boxes2 w (.cells #[.int .i64 0, .int .i64 0] 36) (.cells #[.int .i64 0, .int .i64 0] 36)
  have HI0 : Hid (OnI w ((w.alloc (.cells #[.int .i64 0, .int .i64 0] 36)).alloc (.cells #[.int .i64 0, .int .i64 0] 36)) (w.heap.size + 1) 0 0) := Lib.hid ⟨hb2.2.1, hb2.1, hb2.2.2⟩
  clear hel hhel hf hc hKK hb2
  go_enter Try.func19, Try.ntmps19
  go_wp2
  obtain ⟨ww, hww⟩ : ∃ ww, ww = (w.alloc (.cells #[.int .i64 0, .int .i64 0] 36)).alloc (.cells #[.int .i64 0, .int .i64 0] 36) := ⟨_, rfl⟩
  rw [← hww] at HI0 ⊢
  obtain ⟨Bb, hBb⟩ : ∃ Bb, Bb = w.heap.size + 1 := ⟨_, rfl⟩
  rw [← hBb] at HI0 ⊢
  have hne : w.heap.size < Bb := by omega
  clear hww hBb
  go_loopg [9, 17] h.length (fun gg s9 s17 wr => ∃ k : Nat, ∃ n d : Int, ∃ o : Bool, k ≤ h.length ∧ h.length - k ≤ gg ∧ s17 = .int .i64 k ∧ s9 = .bool o ∧ k ≤ K ∧ Aside (FndI k K n d o MV) ∧ Aside (OnI w wr Bb n d))
  case atStart => exact ⟨0, 0, 0, false, Nat.zero_le _, by omega, rfl, rfl, Nat.zero_le _, (show FndI _ _ _ _ _ _ from ⟨fun _ => ⟨rfl, rfl, rfl⟩, fun h => by omega, fun h => by omega⟩), HI0.out⟩
  obtain ⟨k, n, d, o, hk, hg, rfl, rfl, hkK, HFN, HI⟩ := hrel
  have HI := Lib.hid HI.out
  have HFN := Lib.hid HFN.out
  -- the end: all corners with a Rate not above are done
  have hfin : K ≤ k → n = MN ∧ d = MD ∧ o = MB := fun hle => by
    have e : k = K := by omega
    rcases Nat.eq_zero_or_pos K with e0 | e0
    · have hm : MV = (-1, 1) := by rw [HMV.out, if_pos e0]
      obtain ⟨a1, a2, a3⟩ := HNO.out (by rw [hm]; show (-1 : Int) < 0; decide)
      obtain ⟨b1, b2, b3⟩ := HFN.out.1 (by omega)
      exact ⟨by rw [b1, a2], by rw [b2, a3], by rw [b3, a1]⟩
    · have hm := HFN.out.2.2 (by omega) e
      have hp := HMP.out (by omega)
      rw [hm] at hp
      obtain ⟨a1, a2, a3⟩ := HSM.out _ _ hm hp
      exact ⟨a2.symm, a3.symm, by rw [a1]; exact HFN.out.2.1 (by omega)⟩
  have HFIN := Lib.hid hfin
  clear hfin
  by_cases hlt : k < h.length
  · have hltz : (k : Int) < (h.length : Int) := by omega
    obtain ⟨q, hq⟩ : ∃ q, q = h.getD k 0 := ⟨_, rfl⟩
    have hql : q < l.length := HHM.out q (mem_getD.2 ⟨k, hlt, hq.symm⟩)
    obtain ⟨bc, offc, hao, hd⟩ := HHE.out k (q : Int) (by rw [hq]; exact zL_get hlt)
    subst hao
    have e1 : w.cell? ⟨bc, offc + k, none⟩ = some (.int .i64 (q : Int)) := by have := hd 0 _ rfl; simpa using this
    have hbc : bc < w.heap.size := World.block_lt_of_cell? w _ e1
    have cq := (HI.out.bel.cell (p := ⟨bc, offc + k, none⟩) hbc).trans e1
    obtain ⟨x, hx⟩ : ∃ y, l[q]? = some y := ⟨l[q], by simp [hql]⟩
    obtain ⟨b, off, hao', hc'⟩ := HEL.out q x hx
    subst hao'
    have hblt : b < w.heap.size := World.block_lt_of_cell? w ⟨b, off + q * 4 + 1, none⟩ (hc' 1 _ rfl)
    have x0 : wr.cell? ⟨b, off + q * 4, none⟩ = some (.string x.na) := (HI.out.bel.cell (p := ⟨b, off + q * 4 + 0, none⟩) hblt).trans (hc' 0 _ rfl)
    have x1 := (HI.out.bel.cell (p := ⟨b, off + q * 4 + 1, none⟩) hblt).trans (hc' 1 _ rfl)
    have x2 := (HI.out.bel.cell (p := ⟨b, off + q * 4 + 2, none⟩) hblt).trans (hc' 2 _ rfl)
    have x3 := (HI.out.bel.cell (p := ⟨b, off + q * 4 + 3, none⟩) hblt).trans (hc' 3 _ rfl)
    have hqz : (q : Int) < (l.length : Int) := by omega
    have hszr := HI.out.bel.size
    have hbw : b < wr.heap.size := by omega
    have hix := IN.out x (List.mem_of_getElem? hx)
    unfold InR at hix
    have erx : rA l q = x.ra := by unfold rA; rw [getD_of hx]
    have eqx : qA l q = x.qu := by unfold qA; rw [getD_of hx]
    have hrk := HRK.out k hlt
    rw [← hq, erx] at hrk
    have HI1 := Lib.hid (HI.out.step ((Below.refl wr.heap.size wr).alloc (Nat.le_refl _) (boxR x)) (Nat.le_refl _))
    have HKX := Lib.hid (block_new wr (boxR x))
    have HQ := Lib.hid hq
    have ERX := Lib.hid erx
    have EQX := Lib.hid eqx
    have hlb := HI.out.pr.lt
    clear hq hd hx hc' erx eqx
    by_cases hxr : r < x.ra
    · obtain ⟨f1, f2, f3⟩ := HFIN.out (by
        rcases Nat.lt_or_ge k K with e | e
        · have := hrk.2 e; omega
        · exact e)
      have F1 := Lib.hid f1
      have F2 := Lib.hid f2
      have F3 := Lib.hid f3
      have b0 := (cell_of_block (i := 0) HI1.out.pr).trans rfl
      have b1 := (cell_of_block (i := 1) HI1.out.pr).trans rfl
      have z0 := (cell_of_block (i := 0) HI1.out.zero).trans rfl
      have z1 := (cell_of_block (i := 1) HI1.out.zero).trans rfl
      have g0 := froz_of_block (i := 0) HI1.out.zero
      have g1 := froz_of_block (i := 1) HI1.out.zero
      have hlz := HI1.out.zero.lt
      have hne2 : Bb ≠ w.heap.size := by omega
      obtain ⟨w2, hw2⟩ : ∃ w2, w2 = wr.alloc (boxR x) := ⟨_, rfl⟩
      clear f1 f2 f3 hrk
      go_upto_region 12 with (fail)
      rw [show wr.alloc (.cells #[.string x.na, .int .i64 x.ra, .int .i64 x.he, .int .i64 x.qu] 33) = w2 from hw2.symm]
      rw [← hw2] at b0 b1 z0 z1 g0 g1 hlz HI1
      clear hw2
      go_wp2
      exact bodyPost_ret (v := .tuple #[.agg #[.int .i64 n, .int .i64 d], .bool o]) (by simp [results, Try.results19, go_sem, z0, z1]) rfl (OhP.mk F1.out F2.out F3.out ((HI1.out.bel.setCell (Nat.le_refl _) _).setCell (Nat.le_refl _) _))
    · have hkK2 : k < K := hrk.1 (by omega)
      have HS0 := Lib.hid (HI.out.store hne x.qu 1)
      have hz0 : ((wr.setCell ⟨Bb, 0, none⟩ (.int .i64 x.qu)).setCell ⟨Bb, 1, none⟩ (.int .i64 1)).heap.size = wr.heap.size := by simp
      have HST := Lib.hid (HS0.out.step ((Below.refl _ _).alloc (Nat.le_refl _) (boxR x)) (Nat.le_refl _))
      have hKB := Lib.hid (block_new ((wr.setCell ⟨Bb, 0, none⟩ (.int .i64 x.qu)).setCell ⟨Bb, 1, none⟩ (.int .i64 1)) (boxR x))
      rw [hz0] at hKB
      have b0 := (cell_of_block (i := 0) HI.out.pr).trans rfl
      have b1 := (cell_of_block (i := 1) HI.out.pr).trans rfl
      have g0 := froz_of_block (i := 0) HI.out.pr
      have g1 := froz_of_block (i := 1) HI.out.pr
      obtain ⟨w3, hw3⟩ : ∃ w3, w3 = ((wr.setCell ⟨Bb, 0, none⟩ (.int .i64 x.qu)).setCell ⟨Bb, 1, none⟩ (.int .i64 1)).alloc (boxR x) := ⟨_, rfl⟩
      clear hz0
      go_upto_region 8 with (fail)
      rw [show ((wr.setCell ⟨Bb, 0, none⟩ (.int .i64 x.qu)).setCell ⟨Bb, 1, none⟩ (.int .i64 1)).alloc (.cells #[.string x.na, .int .i64 x.ra, .int .i64 x.he, .int .i64 x.qu] 33) = w3 from hw3.symm]
      rw [← hw3] at HST hKB
      obtain ⟨wp, rfl⟩ : ∃ wp, wp = wr := ⟨_, rfl⟩
      have hsz3 := HST.out.bel.size
      have hbw3 : b < w3.heap.size := by omega
      have hbc3 : bc < w3.heap.size := by omega
      clear hw3 b0 b1 g0 g1 x0 x1 x2 x3 cq HKX HS0
      by_cases hlast : k + 1 < h.length
      · obtain ⟨t, ht⟩ : ∃ q, q = h.getD (k + 1) 0 := ⟨_, rfl⟩
        have htl : t < l.length := HHM.out t (mem_getD.2 ⟨k + 1, hlast, ht.symm⟩)
        obtain ⟨bc', offc', hao, hf⟩ := HHE.out (k + 1) (t : Int) (by rw [ht]; exact zL_get hlast)
        simp only [Option.some.injEq, Addr.mk.injEq, and_true] at hao
        obtain ⟨rfl, rfl⟩ := hao
        have e2 : w.cell? ⟨bc, offc + (k + 1), none⟩ = some (.int .i64 (t : Int)) := by have := hf 0 _ rfl; simpa using this
        have ct := (HST.out.bel.cell (p := ⟨bc, offc + (k + 1), none⟩) hbc).trans e2
        obtain ⟨y, hy⟩ : ∃ y, l[t]? = some y := ⟨l[t], by simp [htl]⟩
        obtain ⟨b', off', hao', hg'⟩ := HEL.out t y hy
        simp only [Option.some.injEq, Addr.mk.injEq, and_true] at hao'
        obtain ⟨rfl, rfl⟩ := hao'
        have y0 : w3.cell? ⟨b, off + t * 4, none⟩ = some (.string y.na) := (HST.out.bel.cell (p := ⟨b, off + t * 4 + 0, none⟩) hblt).trans (hg' 0 _ rfl)
        have y1 := (HST.out.bel.cell (p := ⟨b, off + t * 4 + 1, none⟩) hblt).trans (hg' 1 _ rfl)
        have y2 := (HST.out.bel.cell (p := ⟨b, off + t * 4 + 2, none⟩) hblt).trans (hg' 2 _ rfl)
        have y3 := (HST.out.bel.cell (p := ⟨b, off + t * 4 + 3, none⟩) hblt).trans (hg' 3 _ rfl)
        have htz : (t : Int) < (l.length : Int) := by omega
        have hiy := IN.out y (List.mem_of_getElem? hy)
        unfold InR at hiy
        have ery : rA l t = y.ra := by unfold rA; rw [getD_of hy]
        have eqy : qA l t = y.qu := by unfold qA; rw [getD_of hy]
        have hrk2 := HRK.out (k + 1) hlast
        rw [← ht, ery] at hrk2
        have d1 : (k : Int) + 1 < (h.length : Int) := by omega
        have d2 : ((k : Int) + 1).toNat = k + 1 := by omega
        have d3 : (0 : Int) ≤ (k : Int) + 1 := by omega
        have hrk3 := hrk2
        have HT := Lib.hid ht
        have ERY := Lib.hid ery
        have EQY := Lib.hid eqy
        clear hrk ht hf e2 hy hg' ery eqy
        by_cases hyr : r < y.ra
        · have hKe : K = k + 1 := by
            rcases Nat.lt_or_ge (k + 1) K with e | e
            · have := hrk2.2 e; omega
            · omega
          have hm : MV = (redN (x.qu * (y.ra - r) + y.qu * (r - x.ra)) (y.ra - x.ra), redD (x.qu * (y.ra - r) + y.qu * (r - x.ra)) (y.ra - x.ra)) := by
            rw [HMV.out, if_neg (by omega), if_neg (by omega), hKe, Nat.add_sub_cancel, ← HQ.out, ← HT.out]
            unfold linN linD
            rw [ERX.out, EQX.out, ERY.out, EQY.out]
          have hnp := HLN.out q t hql htl (by rw [ERX.out]; omega) (by rw [ERY.out]; exact hyr)
          have hnum : linN l r q t = x.qu * (y.ra - r) + y.qu * (r - x.ra) := by unfold linN; rw [ERX.out, EQX.out, ERY.out, EQY.out]
          rw [hnum] at hnp
          have hdp : 0 < y.ra - x.ra := by omega
          have q1 := mul_bd (a := x.qu) (b := y.ra - r) (A := 1000000) (B := 1000000000) (by omega) (by omega) (by omega) (by omega)
          have q2 := mul_bd (a := y.qu) (b := r - x.ra) (A := 1000000) (B := 1000000000) (by omega) (by omega) (by omega) (by omega)
          have m1 : IntKind.i64.wrap (y.ra - r) = y.ra - r := IntWalk.i64_in _ (by omega)
          have m2 : IntKind.i64.wrap (r - x.ra) = r - x.ra := IntWalk.i64_in _ (by omega)
          have m3 : IntKind.i64.wrap (y.ra - x.ra) = y.ra - x.ra := IntWalk.i64_in _ (by omega)
          have m4 : IntKind.i64.wrap (x.qu * (y.ra - r)) = x.qu * (y.ra - r) := IntWalk.i64_in _ (by omega)
          have m5 : IntKind.i64.wrap (y.qu * (r - x.ra)) = y.qu * (r - x.ra) := IntWalk.i64_in _ (by omega)
          have m6 : IntKind.i64.wrap (x.qu * (y.ra - r) + y.qu * (r - x.ra)) = x.qu * (y.ra - r) + y.qu * (r - x.ra) := IntWalk.i64_in _ (by omega)
          have HLO := Lib.hid (fun W => lowest_any (x.qu * (y.ra - r) + y.qu * (r - x.ra)) (y.ra - x.ra) W hnp (by omega) hdp (by omega))
          generalize redN (x.qu * (y.ra - r) + y.qu * (r - x.ra)) (y.ra - x.ra) = RN at HLO hm
          generalize redD (x.qu * (y.ra - r) + y.qu * (r - x.ra)) (y.ra - x.ra) = RD at HLO hm
          have HM := Lib.hid hm
          have HA := Lib.hid (HST.out.step ((Below.refl w3.heap.size w3).alloc (Nat.le_refl _) (boxR y)) (Nat.le_refl _))
          have k1 := (cell_of_block (i := 1) hKB.out).trans rfl
          have k3 := (cell_of_block (i := 3) hKB.out).trans rfl
          have hkl := lt_of_block hKB.out
          clear hnum hnp hdp q1 q2 hrk2 hrk3 hm
          go_wp2_with fail
          refine (HLO.out _).mono ?_
          rintro e w6 ⟨rfl, hb⟩
          have HI6 := Lib.hid (HA.out.step hb (Nat.le_refl _))
          have HI7 := Lib.hid (HI6.out.store hne RN RD)
          have b0 := (cell_of_block (i := 0) HI6.out.pr).trans rfl
          have b1 := (cell_of_block (i := 1) HI6.out.pr).trans rfl
          have g0 := froz_of_block (i := 0) HI6.out.pr
          have g1 := froz_of_block (i := 1) HI6.out.pr
          have hl6 := HI6.out.pr.lt
          clear hb k1 k3 y0 y1 y2 y3 ct m1 m2 m3 m4 m5 m6 HA HST
          go_wp2
          go_roundg (h.length - (k + 1))
          case measure => omega
          case rel => exact ⟨k + 1, RN, RD, true, by omega, by omega, by go_num, rfl, by omega, (show FndI _ _ _ _ _ _ from ⟨fun h => by omega, fun _ => rfl, fun _ _ => HM.out⟩), HI7.out⟩
        · have hKe : k + 1 < K := hrk2.1 (by omega)
          clear hrk2 hrk3
          go_wp2
          go_roundg (h.length - (k + 1))
          case measure => omega
          case rel => exact ⟨k + 1, x.qu, 1, true, by omega, by omega, by go_num, rfl, by omega, (show FndI _ _ _ _ _ _ from ⟨fun h => by omega, fun _ => rfl, fun _ e => by omega⟩), HST.out⟩
      · have hKe : K = h.length := by omega
        have hm : MV = (x.qu, 1) := by
          rw [HMV.out, if_neg (by omega), if_pos hKe, hKe, show h.length - 1 = k by omega, ← HQ.out, EQX.out]
        have HM := Lib.hid hm
        have d1 : ¬ (k : Int) + 1 < (h.length : Int) := by omega
        clear hm hrk
        go_wp2
        go_roundg (h.length - (k + 1))
        case measure => omega
        case rel => exact ⟨k + 1, x.qu, 1, true, by omega, by omega, by go_num, rfl, by omega, (show FndI _ _ _ _ _ _ from ⟨fun h => by omega, fun _ => rfl, fun _ _ => HM.out⟩), HST.out⟩
  · obtain rfl : k = h.length := by omega
    obtain ⟨f1, f2, f3⟩ := HFIN.out (by omega)
    have F1 := Lib.hid f1
    have F2 := Lib.hid f2
    have F3 := Lib.hid f3
    have b0 := (cell_of_block (i := 0) HI.out.pr).trans rfl
    have b1 := (cell_of_block (i := 1) HI.out.pr).trans rfl
    have z0 := (cell_of_block (i := 0) HI.out.zero).trans rfl
    have z1 := (cell_of_block (i := 1) HI.out.zero).trans rfl
    have g0 := froz_of_block (i := 0) HI.out.zero
    have g1 := froz_of_block (i := 1) HI.out.zero
    have hlz := HI.out.zero.lt
    have hlb := HI.out.pr.lt
    have hne2 : Bb ≠ w.heap.size := by omega
    clear f1 f2 f3
    go_wp2
    exact bodyPost_ret (v := .tuple #[.agg #[.int .i64 n, .int .i64 d], .bool o]) (by simp [results, Try.results19, go_sem, z0, z1]) rfl (OhP.mk F1.out F2.out F3.out ((HI.out.bel.setCell (Nat.le_refl _) _).setCell (Nat.le_refl _) _))
end Go.Proofs.Ytikgkgfcnciomaa

/- Mixed of the program. -/
import Derived.Test.YtikgkgfcnciomaaLesR
namespace Go.Proofs.Ytikgkgfcnciomaa
open Go.RowKit

def mixF (l : List Rng) (r : Int) : Int := if checkR l ≠ 0 then checkR l else if outB r 0 1000000000 = true then 1 else 0
/-- The answer: the ratio, and whether there is one. -/
def mixB (l : List Rng) (r : Int) : Bool := decide (mixF l r = 0) && decide (0 ≤ (mixV l r).1)
def mixN (l : List Rng) (r : Int) : Int := if mixB l r = true then (mixV l r).1 else 0
def mixD (l : List Rng) (r : Int) : Int := if mixB l r = true then (mixV l r).2 else 0
def MxP (w : World) (n d : Int) (b : Bool) (f : Int) : Ending → World → Prop := fun e w' => e = .returned (.tuple #[.agg #[.int .i64 n, .int .i64 d], .bool b, .int .i64 f]) ∧ Below w.heap.size w w'
theorem MxP.mk {w w' : World} {n d f n' d' f' : Int} {b b' : Bool} (hn : n' = n) (hd : d' = d) (hb : b' = b) (hf : f' = f) (hw : Below w.heap.size w w') : MxP w n d b f (.returned (.tuple #[.agg #[.int .i64 n', .int .i64 d'], .bool b', .int .i64 f'])) w' := by
  subst hn hd hb hf
  exact ⟨rfl, hw⟩
theorem mix_bad {l : List Rng} {r : Int} (h : mixF l r ≠ 0) : mixB l r = false ∧ mixN l r = 0 ∧ mixD l r = 0 := by
  have : mixB l r = false := by unfold mixB; rw [decide_eq_false h]; rfl
  exact ⟨this, by unfold mixN; rw [this]; rfl, by unfold mixD; rw [this]; rfl⟩
theorem mix_none {l : List Rng} {r : Int} (h : (mixV l r).1 < 0) : mixB l r = false ∧ mixN l r = 0 ∧ mixD l r = 0 := by
  have : mixB l r = false := by unfold mixB; rw [decide_eq_false (by omega : ¬ 0 ≤ (mixV l r).1)]; simp
  exact ⟨this, by unfold mixN; rw [this]; rfl, by unfold mixD; rw [this]; rfl⟩
theorem mix_some {l : List Rng} {r n d : Int} (h0 : mixF l r = 0) (h : mixV l r = (n, d)) (hn : 0 ≤ n) : mixB l r = true ∧ mixN l r = n ∧ mixD l r = d := by
  have : mixB l r = true := by unfold mixB; rw [h, decide_eq_true h0, decide_eq_true hn]; rfl
  exact ⟨this, by unfold mixN; rw [this, h]; rfl, by unfold mixD; rw [this, h]; rfl⟩
theorem red_one (q : Int) : redN q 1 = q ∧ redD q 1 = 1 := by
  unfold redN redD
  simp
theorem kA_step (l : List Rng) (h : List Nat) (r : Int) (k : Nat) : kA l h r (k + 1) = if rA l (h.getD k 0) ≤ r then k + 1 else kA l h r k := rfl

set_option maxRecDepth 100000 in
set_option maxHeartbeats 4000000 in
theorem Mixed_any (w : World) (l : List Rng) (v : Value) (r : Int) (hl : Sl w 4 encR v l) (hw : ∀ x, x ∈ l → WfR x) :
    Calls Try.prog 17 #[v, .int .i64 r] w (MxP w (mixN l r) (mixD l r) (mixB l r) (mixF l r)) := by
  have HH := Lib.hid (fun (W : World) (hb : Below w.heap.size w W) => Hull_any W l v (hl.below hb (Nat.le_refl _)) hw)
  have HV : Hid (hulR l = if checkR l = 0 then zL (refN l l.length) else []) := Lib.hid (by
    unfold hulR
    split
    · rename_i h; rw [hulN_ref h]
    · rfl)
  have HSL := Lib.hid hl
  have HF : Hid (mixF l r = if checkR l ≠ 0 then checkR l else if outB r 0 1000000000 = true then 1 else 0) := Lib.hid rfl
  have HBD := Lib.hid (fun h => mix_bad (l := l) (r := r) h)
  have HNO := Lib.hid (fun h => mix_none (l := l) (r := r) h)
  have HSM := Lib.hid (fun n d h0 h hn => mix_some (l := l) (r := r) (n := n) (d := d) h0 h hn)
  have HLE := Lib.hid (fun (h : checkR l = 0) => (checkR_zero h).1)
  have HIN := Lib.hid (fun (h : checkR l = 0) => inR_of h)
  have hhl := refN_len l l.length
  have HHM := Lib.hid (refN_mem l l.length)
  have HK := Lib.hid (kA_ok l (refN l l.length) r (refN l l.length).length)
  have HMV : Hid (mixV l r = if kA l (refN l l.length) r (refN l l.length).length = 0 then (-1, 1) else if kA l (refN l l.length) r (refN l l.length).length = (refN l l.length).length then (qA l ((refN l l.length).getD (kA l (refN l l.length) r (refN l l.length).length - 1) 0), 1)
      else (redN (linN l r ((refN l l.length).getD (kA l (refN l l.length) r (refN l l.length).length - 1) 0) ((refN l l.length).getD (kA l (refN l l.length) r (refN l l.length).length) 0)) (linD l ((refN l l.length).getD (kA l (refN l l.length) r (refN l l.length).length - 1) 0) ((refN l l.length).getD (kA l (refN l l.length) r (refN l l.length).length) 0)), redD (linN l r ((refN l l.length).getD (kA l (refN l l.length) r (refN l l.length).length - 1) 0) ((refN l l.length).getD (kA l (refN l l.length) r (refN l l.length).length) 0)) (linD l ((refN l l.length).getD (kA l (refN l l.length) r (refN l l.length).length - 1) 0) ((refN l l.length).getD (kA l (refN l l.length) r (refN l l.length).length) 0)))) := Lib.hid rfl
  have HUP := Lib.hid (fun (h : checkR l = 0) => fun i j h1 h2 => hul_up (i := i) (j := j) h h1 h2)
  have HLN := Lib.hid (fun (h : checkR l = 0) a b h1 h2 h3 h4 => linN_pos (l := l) (r := r) (a := a) (b := b) h h1 h2 h3 h4)
  obtain ⟨C, hC⟩ : ∃ C, C = checkR l := ⟨_, rfl⟩
  rw [← hC] at HH HV HF HLE HIN HUP HLN
  generalize hulR l = H1 at HH HV
  generalize refN l l.length = h at HV hhl HHM HK HMV HUP
  generalize mixN l r = MN at HBD HNO HSM ⊢
  generalize mixD l r = MD at HBD HNO HSM ⊢
  generalize mixB l r = MB at HBD HNO HSM ⊢
  generalize mixF l r = MF at HF HBD HSM ⊢
  generalize mixV l r = MV at HNO HSM HMV
  have HBK := Lib.hid (block_new w (.cells #[.int .i64 0, .int .i64 0] 36))
  have HB0 := Lib.hid ((Below.refl w.heap.size w).alloc (Nat.le_refl _) (.cells #[.int .i64 0, .int .i64 0] 36))
  clear hC hl hw
  go_enter Try.func17, Try.ntmps17
  go_wp2_with fail
  refine (HH.out _ HB0.out).mono ?_
  rintro e w1 ⟨v1, rfl, hs, hb⟩
  have HS1 := Lib.hid hs
  have HB1 := Lib.hid (HB0.out.thru hb)
  have HK1 := Lib.hid ((hb.block w.heap.size (lt_of_block HBK.out)).trans HBK.out)
  have hlt1 := lt_of_block HK1.out
  clear hs hb HH
  cases e1 : (C != 0)
  case true =>
    have hne : C ≠ 0 := by simpa using e1
    have hv : C = MF := by rw [HF.out, if_pos hne]
    obtain ⟨hb1, hb2, hb3⟩ := HBD.out (by rw [← hv]; exact hne)
    have HV1 := Lib.hid hv
    have HV2 := Lib.hid hb1
    have HV3 := Lib.hid hb2
    have HV4 := Lib.hid hb3
    have c0 := (cell_of_block (i := 0) HK1.out).trans rfl
    have c1 := (cell_of_block (i := 1) HK1.out).trans rfl
    have f0 := froz_of_block (i := 0) HK1.out
    have f1 := froz_of_block (i := 1) HK1.out
    clear hne hv hb1 hb2 hb3
    go_wp2
    exact bodyPost_ret (v := .tuple #[.agg #[.int .i64 0, .int .i64 0], .bool false, .int .i64 C]) (by simp [results, Try.results17, go_sem, c0, c1]) rfl (MxP.mk HV3.out.symm HV4.out.symm HV2.out.symm HV1.out ((HB1.out.setCell (Nat.le_refl _) _).setCell (Nat.le_refl _) _))
  obtain rfl : C = 0 := by simpa using e1
  have HF2 : Hid (MF = if outB r 0 1000000000 = true then 1 else 0) := Lib.hid (by rw [HF.out]; rfl)
  cases o1 : outB r 0 1000000000
  case true =>
    have hv : 1 = MF := by rw [HF2.out, o1]; rfl
    obtain ⟨hb1, hb2, hb3⟩ := HBD.out (by rw [← hv]; decide)
    have HV1 := Lib.hid hv
    have HV2 := Lib.hid hb1
    have HV3 := Lib.hid hb2
    have HV4 := Lib.hid hb3
    have c0 := (cell_of_block (i := 0) HK1.out).trans rfl
    have c1 := (cell_of_block (i := 1) HK1.out).trans rfl
    have f0 := froz_of_block (i := 0) HK1.out
    have f1 := froz_of_block (i := 1) HK1.out
    clear hv hb1 hb2 hb3
    go_wp2_with (go_at_call 23; refine (out_any _ _ _ _).mono ?_; rintro e w' ⟨rfl, rfl⟩)
    exact bodyPost_ret (v := .tuple #[.agg #[.int .i64 0, .int .i64 0], .bool false, .int .i64 1]) (by simp [results, Try.results17, go_sem, c0, c1]) rfl (MxP.mk HV3.out.symm HV4.out.symm HV2.out.symm HV1.out ((HB1.out.setCell (Nat.le_refl _) _).setCell (Nat.le_refl _) _))
  case false =>
  have hor := outB_no o1
  have HF3 : Hid (0 = MF) := Lib.hid (by rw [HF2.out, o1]; rfl)
  have hlen := HLE.out rfl
  have IN := Lib.hid (HIN.out rfl)
  have UP := Lib.hid (HUP.out rfl)
  have LN := Lib.hid (HLN.out rfl)
  have HH1 : H1 = zL h := by rw [HV.out]; rfl
  rw [HH1] at HS1
  obtain ⟨ao, cap, rfl, hcap, hmax, _, hel⟩ := HSL.out
  unfold maxLen at hmax
  have HEL := Lib.hid hel
  obtain ⟨ho, hcp, rfl, hhcap, hhmax, _, hhel⟩ := HS1.out
  rw [zL_len] at hhcap ⊢
  unfold maxLen at hhmax
  have HHE := Lib.hid hhel
  clear e1 hel hhel HF HF2 HV HLE HIN HUP HLN HH1 HBD
  go_wp2_with (go_at_call 23; refine (out_any _ _ _ _).mono ?_; rintro e w' ⟨rfl, rfl⟩)
  clear o1
  go_loopg [9, 28] h.length (fun gg s9 s28 wr => ∃ k : Nat, ∃ z : Int, k ≤ h.length ∧ h.length - k ≤ gg ∧ s28 = .int .i64 k ∧ s9 = .int .i64 z ∧ Aside (z = (kA l h r k : Int) - 1) ∧ w1 = wr)
  case atStart => exact ⟨0, -1, Nat.zero_le _, by omega, rfl, rfl, (show Aside (_ = _) from rfl), rfl⟩
  obtain ⟨k, z, hk, hg, rfl, rfl, HZ, rfl⟩ := hrel
  by_cases hlt : k < h.length
  · have hltz : (k : Int) < (h.length : Int) := by omega
    obtain ⟨q, hq⟩ : ∃ q, q = h.getD k 0 := ⟨_, rfl⟩
    have hql : q < l.length := HHM.out q (mem_getD.2 ⟨k, hlt, hq.symm⟩)
    obtain ⟨bc, offc, hao, hd⟩ := HHE.out k (q : Int) (by rw [hq]; exact zL_get hlt)
    subst hao
    have cq : w1.cell? ⟨bc, offc + k, none⟩ = some (.int .i64 (q : Int)) := by have := hd 0 _ rfl; simpa using this
    obtain ⟨x, hx⟩ : ∃ y, l[q]? = some y := ⟨l[q], by simp [hql]⟩
    obtain ⟨b, off, hao', hc'⟩ := HEL.out q x hx
    subst hao'
    have x1 := (HB1.out.cell (p := ⟨b, off + q * 4 + 1, none⟩) (World.block_lt_of_cell? w ⟨b, off + q * 4 + 1, none⟩ (hc' 1 _ rfl))).trans (hc' 1 _ rfl)
    have hqz : (q : Int) < (l.length : Int) := by omega
    have HST : Hid (kA l h r (k + 1) = if x.ra ≤ r then k + 1 else kA l h r k) := Lib.hid (by rw [kA_step, ← hq]; unfold rA; rw [getD_of hx])
    clear hq hd hx hc'
    by_cases hxr : x.ra ≤ r
    · have HZ2 : Hid ((k : Int) = (kA l h r (k + 1) : Int) - 1) := Lib.hid (by rw [HST.out, if_pos hxr]; omega)
      go_wp2
      go_roundg (h.length - (k + 1))
      case measure => omega
      case rel => exact ⟨k + 1, (k : Int), by omega, by omega, by go_num, rfl, HZ2.out, rfl⟩
    · have HZ2 : Hid (z = (kA l h r (k + 1) : Int) - 1) := Lib.hid (by rw [HST.out, if_neg hxr]; exact HZ.out)
      go_wp2
      go_roundg (h.length - (k + 1))
      case measure => omega
      case rel => exact ⟨k + 1, z, by omega, by omega, by go_num, rfl, HZ2.out, rfl⟩
  · obtain rfl : k = h.length := by omega
    have hz := HZ.out
    have hkk := HK.out
    generalize kA l h r h.length = K at hz hkk HMV
    obtain ⟨hk1, hk2, hk3⟩ := hkk
    have HK3 := Lib.hid hk3
    have c0 := (cell_of_block (i := 0) HK1.out).trans rfl
    have c1 := (cell_of_block (i := 1) HK1.out).trans rfl
    have f0 := froz_of_block (i := 0) HK1.out
    have f1 := froz_of_block (i := 1) HK1.out
    clear HZ HK hk3
    by_cases h0 : K = 0
    · have hm : MV = (-1, 1) := by rw [HMV.out, if_pos h0]
      obtain ⟨hb1, hb2, hb3⟩ := HNO.out (by rw [hm]; show (-1 : Int) < 0; decide)
      have HV2 := Lib.hid hb1
      have HV3 := Lib.hid hb2
      have HV4 := Lib.hid hb3
      have hz0 : z < 0 := by omega
      clear hm hb1 hb2 hb3 hz h0 hk2
      go_wp2
      exact bodyPost_ret (v := .tuple #[.agg #[.int .i64 0, .int .i64 0], .bool false, .int .i64 0]) (by simp [results, Try.results17, go_sem, c0, c1]) rfl (MxP.mk HV3.out.symm HV4.out.symm HV2.out.symm HF3.out ((HB1.out.setCell (Nat.le_refl _) _).setCell (Nat.le_refl _) _))
    · obtain ⟨p, rfl⟩ : ∃ p, K = p + 1 := ⟨K - 1, by omega⟩
      obtain rfl : z = p := by omega
      obtain ⟨q, hq⟩ : ∃ q, q = h.getD p 0 := ⟨_, rfl⟩
      have hql : q < l.length := HHM.out q (mem_getD.2 ⟨p, by omega, hq.symm⟩)
      obtain ⟨bc, offc, hao, hd⟩ := HHE.out p (q : Int) (by rw [hq]; exact zL_get (by omega))
      subst hao
      have cq : w1.cell? ⟨bc, offc + p, none⟩ = some (.int .i64 (q : Int)) := by have := hd 0 _ rfl; simpa using this
      obtain ⟨x, hx⟩ : ∃ y, l[q]? = some y := ⟨l[q], by simp [hql]⟩
      obtain ⟨b, off, hao', hc'⟩ := HEL.out q x hx
      subst hao'
      have hblt : b < w.heap.size := World.block_lt_of_cell? w ⟨b, off + q * 4 + 1, none⟩ (hc' 1 _ rfl)
      have x0 : w1.cell? ⟨b, off + q * 4, none⟩ = some (.string x.na) := (HB1.out.cell (p := ⟨b, off + q * 4 + 0, none⟩) hblt).trans (hc' 0 _ rfl)
      have x1 := (HB1.out.cell (p := ⟨b, off + q * 4 + 1, none⟩) hblt).trans (hc' 1 _ rfl)
      have x2 := (HB1.out.cell (p := ⟨b, off + q * 4 + 2, none⟩) hblt).trans (hc' 2 _ rfl)
      have x3 := (HB1.out.cell (p := ⟨b, off + q * 4 + 3, none⟩) hblt).trans (hc' 3 _ rfl)
      have hqz : (q : Int) < (l.length : Int) := by omega
      have hpz : (p : Int) < (h.length : Int) := by omega
      have hpn : ¬ (p : Int) < 0 := by omega
      have hix := IN.out x (List.mem_of_getElem? hx)
      unfold InR at hix
      have hxr : x.ra ≤ r := by
        have := hk2 (by omega)
        rw [Nat.add_sub_cancel, ← hq] at this
        unfold rA at this
        rwa [getD_of hx] at this
      have HA1 := Lib.hid (HB1.out.alloc HB1.out.size (boxR x))
      have hbw1 : b < w1.heap.size := by have := HB1.out.size; omega
      have hbc1 : bc < w1.heap.size := World.block_lt_of_cell? w1 _ cq
      by_cases h1 : p + 1 = h.length
      · have hm : MV = (x.qu, 1) := by
          rw [HMV.out, if_neg (by omega), if_pos h1, Nat.add_sub_cancel, ← hq]
          unfold qA
          rw [getD_of hx]
        obtain ⟨hb1, hb2, hb3⟩ := HSM.out _ _ HF3.out.symm hm (by omega)
        have HV2 := Lib.hid hb1
        have HV3 := Lib.hid hb2
        have HV4 := Lib.hid hb3
        have HR := Lib.hid (fun W => ratio_any x.qu 1 W (by omega) (by omega) (by omega) (by omega))
        rw [(red_one x.qu).1, (red_one x.qu).2] at HR
        have d1 : ((p : Int) + 1 == (h.length : Int)) = true := by simp; omega
        clear hm hb1 hb2 hb3 hz h0 hk2 h1 hq hd hx hc'
        go_wp2_with fail
        refine (HR.out _).mono ?_
        rintro e w2 ⟨rfl, hb⟩
        have HB2 := Lib.hid (HA1.out.thru hb)
        have hK2 := (hb.block w.heap.size (by simp; omega)).trans ((Below.heap_alloc _ _ _ hlt1).trans HK1.out)
        have g0 := (cell_of_block (i := 0) hK2).trans rfl
        have g1 := (cell_of_block (i := 1) hK2).trans rfl
        have i0 := froz_of_block (i := 0) hK2
        have i1 := froz_of_block (i := 1) hK2
        have hlt2 := lt_of_block hK2
        clear hb hK2 c0 c1 f0 f1 x0 x1 x2 x3 cq
        go_wp2
        exact bodyPost_ret (v := .tuple #[.agg #[.int .i64 x.qu, .int .i64 1], .bool true, .int .i64 0]) (by simp [results, Try.results17, go_sem, g0, g1]) rfl (MxP.mk HV3.out.symm HV4.out.symm HV2.out.symm HF3.out ((HB2.out.setCell (Nat.le_refl _) _).setCell (Nat.le_refl _) _))
      · obtain ⟨t, ht⟩ : ∃ q, q = h.getD (p + 1) 0 := ⟨_, rfl⟩
        have htl : t < l.length := HHM.out t (mem_getD.2 ⟨p + 1, by omega, ht.symm⟩)
        obtain ⟨bc', offc', hao, hf⟩ := HHE.out (p + 1) (t : Int) (by rw [ht]; exact zL_get (by omega))
        simp only [Option.some.injEq, Addr.mk.injEq, and_true] at hao
        obtain ⟨rfl, rfl⟩ := hao
        have ct : w1.cell? ⟨bc, offc + (p + 1), none⟩ = some (.int .i64 (t : Int)) := by have := hf 0 _ rfl; simpa using this
        obtain ⟨y, hy⟩ : ∃ y, l[t]? = some y := ⟨l[t], by simp [htl]⟩
        obtain ⟨b', off', hao', hg'⟩ := HEL.out t y hy
        simp only [Option.some.injEq, Addr.mk.injEq, and_true] at hao'
        obtain ⟨rfl, rfl⟩ := hao'
        have y0 : w1.cell? ⟨b, off + t * 4, none⟩ = some (.string y.na) := (HB1.out.cell (p := ⟨b, off + t * 4 + 0, none⟩) hblt).trans (hg' 0 _ rfl)
        have y1 := (HB1.out.cell (p := ⟨b, off + t * 4 + 1, none⟩) hblt).trans (hg' 1 _ rfl)
        have y2 := (HB1.out.cell (p := ⟨b, off + t * 4 + 2, none⟩) hblt).trans (hg' 2 _ rfl)
        have y3 := (HB1.out.cell (p := ⟨b, off + t * 4 + 3, none⟩) hblt).trans (hg' 3 _ rfl)
        have htz : (t : Int) < (l.length : Int) := by omega
        have hiy := IN.out y (List.mem_of_getElem? hy)
        unfold InR at hiy
        have hyr : r < y.ra := by
          have := HK3.out (p + 1) (Nat.le_refl _) (by omega)
          rw [← ht] at this
          unfold rA at this
          rwa [getD_of hy] at this
        have hup := (UP.out p (p + 1) (by omega) (by omega)).2
        rw [← hq, ← ht] at hup
        unfold qA at hup
        rw [getD_of hx, getD_of hy] at hup
        have hm : MV = (redN (linN l r q t) (linD l q t), redD (linN l r q t) (linD l q t)) := by
          rw [HMV.out, if_neg (by omega), if_neg h1, Nat.add_sub_cancel, ← hq, ← ht]
        have hnp := LN.out q t hql htl (by unfold rA; rw [getD_of hx]; exact hxr) (by unfold rA; rw [getD_of hy]; exact hyr)
        have hdp : 0 < linD l q t := by unfold linD rA; rw [getD_of hx, getD_of hy]; omega
        have hlow := (red_ok hnp hdp).1.1
        obtain ⟨hb1, hb2, hb3⟩ := HSM.out _ _ HF3.out.symm hm hlow
        have HV2 := Lib.hid hb1
        have HV3 := Lib.hid hb2
        have HV4 := Lib.hid hb3
        have hnum : linN l r q t = x.qu * (y.ra - x.ra) + (y.qu - x.qu) * (r - x.ra) := by
          unfold linN qA rA
          rw [getD_of hx, getD_of hy]
          generalize x.qu = a1
          generalize x.ra = a2
          generalize y.qu = a3
          generalize y.ra = a4
          grind
        have hden : linD l q t = y.ra - x.ra := by unfold linD rA; rw [getD_of hx, getD_of hy]
        have q1 := mul_bd (a := x.qu) (b := y.ra - x.ra) (A := 1000000) (B := 1000000000) (by omega) (by omega) (by omega) (by omega)
        have q2 := mul_bd (a := y.qu - x.qu) (b := r - x.ra) (A := 1000000) (B := 1000000000) (by omega) (by omega) (by omega) (by omega)
        have m1 : IntKind.i64.wrap (y.ra - x.ra) = y.ra - x.ra := IntWalk.i64_in _ (by omega)
        have m2 : IntKind.i64.wrap (y.qu - x.qu) = y.qu - x.qu := IntWalk.i64_in _ (by omega)
        have m3 : IntKind.i64.wrap (r - x.ra) = r - x.ra := IntWalk.i64_in _ (by omega)
        have m4 : IntKind.i64.wrap (x.qu * (y.ra - x.ra)) = x.qu * (y.ra - x.ra) := IntWalk.i64_in _ (by omega)
        have m5 : IntKind.i64.wrap ((y.qu - x.qu) * (r - x.ra)) = (y.qu - x.qu) * (r - x.ra) := IntWalk.i64_in _ (by omega)
        have m6 : IntKind.i64.wrap (x.qu * (y.ra - x.ra) + (y.qu - x.qu) * (r - x.ra)) = x.qu * (y.ra - x.ra) + (y.qu - x.qu) * (r - x.ra) := IntWalk.i64_in _ (by omega)
        rw [hnum, hden] at HV3 HV4
        rw [hnum] at hnp
        rw [hden] at hdp
        have HR := Lib.hid (fun W => ratio_any (x.qu * (y.ra - x.ra) + (y.qu - x.qu) * (r - x.ra)) (y.ra - x.ra) W hnp (by omega) hdp (by omega))
        generalize redN (x.qu * (y.ra - x.ra) + (y.qu - x.qu) * (r - x.ra)) (y.ra - x.ra) = RN at HR HV3
        generalize redD (x.qu * (y.ra - x.ra) + (y.qu - x.qu) * (r - x.ra)) (y.ra - x.ra) = RD at HR HV4
        have d1 : ((p : Int) + 1 == (h.length : Int)) = false := by simp; omega
        have n1 : (p : Int) + 1 < (h.length : Int) := by omega
        have n2 : ((p : Int) + 1).toNat = p + 1 := by omega
        have n3 : (0 : Int) ≤ (p : Int) + 1 := by omega
        have HA2 := Lib.hid (HA1.out.alloc HA1.out.size (boxR y))
        clear hm hb1 hb2 hb3 hz h0 hk2 h1 hq hd hx hc' ht hf hy hg' hup hnum hden q1 q2 hlow hnp hdp hix hiy
        go_wp2_with fail
        refine (HR.out _).mono ?_
        rintro e w2 ⟨rfl, hb⟩
        have HB2 := Lib.hid (HA2.out.thru hb)
        have hK2 := (hb.block w.heap.size (by simp; omega)).trans ((Below.heap_alloc _ _ _ (by simp; omega)).trans ((Below.heap_alloc _ _ _ hlt1).trans HK1.out))
        have g0 := (cell_of_block (i := 0) hK2).trans rfl
        have g1 := (cell_of_block (i := 1) hK2).trans rfl
        have i0 := froz_of_block (i := 0) hK2
        have i1 := froz_of_block (i := 1) hK2
        have hlt2 := lt_of_block hK2
        clear hb hK2 c0 c1 f0 f1 x0 x1 x2 x3 cq y0 y1 y2 y3 ct m1 m2 m3 m4 m5 m6
        go_wp2
        exact bodyPost_ret (v := .tuple #[.agg #[.int .i64 RN, .int .i64 RD], .bool true, .int .i64 0]) (by simp [results, Try.results17, go_sem, g0, g1]) rfl (MxP.mk HV3.out.symm HV4.out.symm HV2.out.symm HF3.out ((HB2.out.setCell (Nat.le_refl _) _).setCell (Nat.le_refl _) _))
end Go.Proofs.Ytikgkgfcnciomaa

/- weights: the walk. -/
import Derived.Test.YtfkmdojnkdoffaaAlgL
import Derived.StillTailTactics
import Derived.Deep.QuietTactic
namespace Go.Proofs.Ytfkmdojnkdoffaa
open Go.RowKit

/-- The array of rows, of which those below i are done. -/
def RowsD (w : World) (g n m i : Nat) (f : Nat → Nat → Int) : Prop := ∃ V : List Value, V.length = n ∧ ArrV w g V ∧ ∀ j, j < i → ∃ b, V[j]? = some (.slice (some ⟨b, 0, none⟩) m m) ∧ Arr w b (rowF (f j) m)
theorem RowsD.belowB {w w' : World} {g n m i B : Nat} {f : Nat → Nat → Int} (h : RowsD w g n m i f) (hb : Below B w w') (hB : w.heap.size ≤ B) : RowsD w' g n m i f := by
  obtain ⟨V, h1, h2, h3⟩ := h
  refine ⟨V, h1, h2.belowB hb (Nat.lt_of_lt_of_le h2.lt hB), fun j hj => ?_⟩
  obtain ⟨b, h4, h5⟩ := h3 j hj
  exact ⟨b, h4, h5.belowB hb (Nat.lt_of_lt_of_le h5.lt hB)⟩
theorem RowsD.mat {w : World} {g n m : Nat} {f : Nat → Nat → Int} (h : RowsD w g n m n f) : Mat w g n m f := fun i hi => by
  obtain ⟨V, h1, h2, h3⟩ := h
  obtain ⟨b, h4, h5⟩ := h3 i hi
  exact ⟨b, h2.cell h4, h5⟩
def WgtP (w : World) (l : List Rng) (c : List Vw) : Ending → World → Prop := fun e w' => ∃ g, e = .returned (.slice (some ⟨g, 0, none⟩) l.length l.length) ∧ RowsD w' g l.length (l.length + 1) l.length (Wt l c) ∧ Below w.heap.size w w'
theorem WgtP.mk {w w' : World} {l : List Rng} {c : List Vw} {g : Nat} (h : RowsD w' g l.length (l.length + 1) l.length (Wt l c)) (hb : Below w.heap.size w w') : WgtP w l c (.returned (.slice (some ⟨g, 0, none⟩) l.length l.length)) w' := ⟨g, rfl, h, hb⟩
/-- The world in which the next row is laid. -/
def layW (w : World) (g i m : Nat) : World := (w.setCell ⟨g, i, none⟩ (.slice (some ⟨w.heap.size, 0, none⟩) m m)).alloc (.cells (Array.replicate m (Value.int .i64 0)) 3)
theorem RowsD.lay {w : World} {g n m i : Nat} {f : Nat → Nat → Int} (h : RowsD w g n m i f) (hi : i < n) :
    ∃ V : List Value, V.length = n ∧ V[i]? = some (.slice (some ⟨w.heap.size, 0, none⟩) m m) ∧ ArrV (layW w g i m) g V ∧ Arr (layW w g i m) w.heap.size (List.replicate m 0) ∧ g < w.heap.size ∧
      ∀ j, j < i → ∃ b, V[j]? = some (.slice (some ⟨b, 0, none⟩) m m) ∧ b < w.heap.size ∧ Arr (layW w g i m) b (rowF (f j) m) := by
  obtain ⟨V, h1, h2, h3⟩ := h
  have hg := h2.lt
  obtain ⟨W, hW⟩ : ∃ W, W = w.setCell ⟨g, i, none⟩ (.slice (some ⟨w.heap.size, 0, none⟩) m m) := ⟨_, rfl⟩
  have hsz : W.heap.size = w.heap.size := by rw [hW]; simp
  have hal : Below w.heap.size W (layW w g i m) := by unfold layW; rw [← hW]; exact (Below.refl _ W).alloc (by rw [hsz]; exact Nat.le_refl _) _
  refine ⟨V.set i (.slice (some ⟨w.heap.size, 0, none⟩) m m), by simp [h1], by rw [List.getElem?_set_self (by omega)], ?_, ?_, hg, fun j hj => ?_⟩
  · exact ArrV.belowB (by rw [hW]; exact h2.set _ _) hal hg
  · unfold Arr layW
    rw [← hW, ← hsz, block_new]
    simp
  · obtain ⟨b, h4, h5⟩ := h3 j hj
    have hne : b ≠ g := fun e => by
      subst e
      unfold Arr at h5
      unfold ArrV at h2
      rw [h2] at h5
      simp only [Option.some.injEq, Obj.cells.injEq] at h5
      exact absurd h5.2.1 (by decide)
    exact ⟨b, by rw [List.getElem?_set_ne (by omega)]; exact h4, h5.lt, Arr.belowB (by rw [hW]; exact h5.other hne _ _) hal h5.lt⟩
theorem layW_below {a w : World} {g i m : Nat} (h : Below a.heap.size a w) (hg : a.heap.size ≤ g) : Below a.heap.size a (layW w g i m) :=
  (h.setCell hg _).alloc (by simpa using h.size) _
set_option maxRecDepth 100000 in
set_option maxHeartbeats 4000000 in
theorem weights_any (w : World) (l : List Rng) (u : Value) (c : List Vw) (v : Value) (hl : Sl w 4 encR u l) (hc : Sl w 3 encV v c) (hl1 : l.length ≤ 100) (hc1 : c.length ≤ 200) (hcv : ∀ v, v ∈ c → (0 ≤ v.ra ∧ v.ra ≤ 1000000000) ∧ (1 ≤ v.we ∧ v.we ≤ 1000000)) :
    Calls Try.prog 48 #[u, v] w (WgtP w l c) := by
  obtain ⟨ao, cap, rfl, hcap, hmax, _, hel⟩ := hl
  obtain ⟨co, ccap, rfl, hccap, hcmax, _, hcel⟩ := hc
  unfold maxLen at hmax hcmax
  have HEL := Lib.hid hel
  have HCE := Lib.hid hcel
  have HCV := Lib.hid hcv
  have HBD := Lib.hid (fun (lo hi : Int) (t : Nat) (ht : t ≤ c.length) => wgA_bd (lo := lo) (hi := hi) (fun v hv => (hcv v hv).2) t ht)
  clear hel hcel hcv
  have hmr := make_rows l.length (by omega)
  have hmi : ∀ W : World, (Instr.makeSlice 24 (.int .i64 ((l.length : Int) + 1)) (.int .i64 ((l.length : Int) + 1))).run Try.prog W = .ok (.slice (some ⟨W.heap.size, 0, none⟩) (l.length + 1) (l.length + 1)) (W.alloc (.cells ((List.replicate (l.length + 1) (0 : Int)).map (Value.int .i64)).toArray 3)) := fun W => make_ints (l.length + 1) (by omega) W
  have hw1 : IntKind.i64.wrap ((l.length : Int) + 1) = (l.length : Int) + 1 := IntWalk.i64_in _ (by omega)
  obtain ⟨G, hG⟩ : ∃ G, G = w.heap.size := ⟨_, rfl⟩
  have HS0 : Hid (RowsD (w.alloc (.cells (List.replicate l.length (Value.slice none 0 0)).toArray 24)) G l.length (l.length + 1) 0 (Wt l c)) := Lib.hid ⟨List.replicate l.length (Value.slice none 0 0), by simp, (show ArrV _ _ _ from by rw [hG]; exact block_new w _), fun j hj => absurd hj (Nat.not_lt_zero _)⟩
  have HB0 : Hid (Below w.heap.size w (w.alloc (.cells (List.replicate l.length (Value.slice none 0 0)).toArray 24))) := Lib.hid ((Below.refl _ w).alloc (Nat.le_refl _) _)
  go_enter Try.func48, Try.ntmps48
  go_wp2
  rw [← hG]
  have HG := Lib.hid hG
  clear hG
  go_loopg [15] l.length (fun gg s15 wr => ∃ i : Nat, i ≤ l.length ∧ l.length - i ≤ gg ∧ s15 = .int .i64 i ∧ Aside (RowsD wr G l.length (l.length + 1) i (Wt l c)) ∧ Aside (Below w.heap.size w wr))
  case atStart => exact ⟨0, by omega, by omega, rfl, (show Aside _ from HS0.out), (show Aside _ from HB0.out)⟩
  case round =>
    obtain ⟨i, hi, hgi, rfl, RD, BW⟩ := hrel
    by_cases hil : i < l.length
    · have hiz : (i : Int) < (l.length : Int) := by omega
      obtain ⟨x, hx⟩ : ∃ x, l[i]? = some x := ⟨l[i], by simp [hil]⟩
      obtain ⟨b, off, rfl, hcx⟩ := HEL.out i x hx
      have HGX : Hid (l.getD i default = x) := Lib.hid (getD_of hx)
      have hblt : b < w.heap.size := World.block_lt_of_cell? w _ (hcx 0 _ rfl)
      have HX1 : Hid (w.cell? ⟨b, off + i * 4 + 1, none⟩ = some (.int .i64 x.ra)) := Lib.hid (hcx 1 _ rfl)
      obtain ⟨V, hV, hVi, hAV, hAr, hgl, hVj⟩ := RD.out.lay hil
      obtain ⟨V0, hV0, hA0, _⟩ := RD.out
      have g0 := hA0.cell (i := i) (List.getElem?_eq_getElem (by omega))
      have z0 := hA0.free i
      have HBS : Hid (Below w.heap.size w (layW wr G i (l.length + 1))) := Lib.hid (layW_below BW.out (by rw [HG.out]; exact Nat.le_refl _))
      have HAV := Lib.hid hAV
      have HAR := Lib.hid hAr
      have HVJ := Lib.hid hVj
      have HVI := Lib.hid hVi
      have hwb := BW.out.size
      clear hx hcx hA0 hAV hAr hVj hVi
      go_upto_region 6 with (fail)
      change Code.wp _ _ _ _ (layW wr G i (l.length + 1))
      obtain ⟨wI, hwI⟩ : ∃ wI, wI = layW wr G i (l.length + 1) := ⟨_, rfl⟩
      obtain ⟨R, hR⟩ : ∃ R, R = wr.heap.size := ⟨_, rfl⟩
      rw [← hwI] at HBS HAV HAR HVJ ⊢
      rw [← hR] at HVI HAR HVJ hgl hwb
      clear g0 z0 hwI hR RD BW
      have g1 := HAV.out.cell HVI.out
      have hRl := HAR.out.lt
      have HAR0 : Hid (Arr wI R (rowC (Wt l c i) 0 0 (l.length + 1))) := Lib.hid (by rw [← rowC_zero]; exact HAR.out)
      go_wp2
      go_loopg [30] (l.length + 1) (fun g2 s30 wr => ∃ k : Nat, k ≤ l.length + 1 ∧ l.length + 1 - k ≤ g2 ∧ s30 = .int .i64 k ∧ Aside (Arr wr R (rowC (Wt l c i) k 0 (l.length + 1))) ∧ Aside (Below R wI wr))
      case atStart => exact ⟨0, by omega, by omega, rfl, (show Aside _ from HAR0.out), (show Aside _ from Below.refl _ _)⟩
      case round =>
        obtain ⟨k, hk, hgk, rfl, AR, BR⟩ := hrel
        by_cases hkl : k < l.length + 1
        · have hkz : (k : Int) < (l.length : Int) + 1 := by omega
          have HBR : Hid (Below w.heap.size w wr) := Lib.hid (HBS.out.trans (BR.out.mono hwb))
          obtain ⟨wo, hwo⟩ : ∃ wo, wo = wr := ⟨_, rfl⟩
          have HZR : Hid (Arr wo R (rowC (Wt l c i) k (wgA c x.ra (raK l k) 0) (l.length + 1)) ∧ Below R wI wo) := Lib.hid (by rw [hwo]; exact ⟨AR.out, BR.out⟩)
          rw [← hwo] at HBR ⊢
          clear hwo AR BR
          have HWK : Hid (Wt l c i k = wgA c x.ra (raK l k) c.length) := Lib.hid (by unfold Wt wg; rw [HGX.out])
          have HKR : Hid (raK l k = if k < l.length then (l.getD k default).ra else 1000000001) := Lib.hid rfl
          obtain ⟨h, hh⟩ : ∃ h, h = raK l k := ⟨_, rfl⟩
          rw [← hh] at HZR HWK HKR
          clear hh
          go_wp2
          go_loopg [35] c.length (fun g3 s35 wr => ∃ t : Nat, t ≤ c.length ∧ c.length - t ≤ g3 ∧ s35 = .int .i64 t ∧ Aside (Arr wr R (rowC (Wt l c i) k (wgA c x.ra h t) (l.length + 1))) ∧ Aside (Below R wI wr))
          case atStart => exact ⟨0, by omega, by omega, rfl, (show Aside _ from HZR.out.1), (show Aside _ from HZR.out.2)⟩
          case round =>
            obtain ⟨t, ht, hgt, rfl, AR, BR⟩ := hrel
            by_cases htc : t < c.length
            · have htz : (t : Int) < (c.length : Int) := by omega
              obtain ⟨y, hy⟩ : ∃ y, c[t]? = some y := ⟨c[t], by simp [htc]⟩
              obtain ⟨cb, coff, rfl, hcy⟩ := HCE.out t y hy
              have hcl : cb < w.heap.size := World.block_lt_of_cell? w _ (hcy 0 _ rfl)
              have HBT : Hid (Below w.heap.size w wr) := Lib.hid (HBS.out.trans (BR.out.mono hwb))
              have y0 : wr.cell? ⟨cb, coff + t * 3, none⟩ = some (.int .i64 y.ra) := by have h := (HBT.out.cell (p := ⟨cb, coff + t * 3 + 0, none⟩) hcl).trans (hcy 0 _ rfl); simpa using h
              have y1 := (HBT.out.cell (p := ⟨cb, coff + t * 3 + 1, none⟩) hcl).trans (hcy 1 _ rfl)
              have y2 := (HBT.out.cell (p := ⟨cb, coff + t * 3 + 2, none⟩) hcl).trans (hcy 2 _ rfl)
              have HYV := Lib.hid (HCV.out y (List.mem_of_getElem? hy))
              have HNX := Lib.hid (wgA_next (lo := x.ra) (hi := h) hy)
              clear hy hcy
              obtain ⟨⟨hy0, hy1⟩, hy2, hy3⟩ := HYV.out
              have hb1 := HBD.out x.ra h (t + 1) (by omega)
              have hb0 := HBD.out x.ra h t (by omega)
              rw [HNX.out] at hb1
              have x1 : wr.cell? ⟨b, off + i * 4 + 1, none⟩ = some (.int .i64 x.ra) := (HBT.out.cell (p := ⟨b, off + i * 4 + 1, none⟩) hblt).trans HX1.out
              have hwbt := HBT.out.size
              have hb3 : b < wr.heap.size := by omega
              have hRt := AR.out.lt
              have hG3 : G < wr.heap.size := by omega
              have gr := (BR.out.cell (p := ⟨G, i, none⟩) hgl).trans g1
              have rc := AR.out.cell (rowC_get hkl)
              have rz := AR.out.free k
              have HB2 : Hid (Below R wI (wr.alloc (.cells #[.int .i64 y.ra, .int .i64 y.he, .int .i64 y.we] 63))) := Lib.hid (BR.out.alloc (by omega) _)
              have HA2 : Hid (Arr (wr.alloc (.cells #[.int .i64 y.ra, .int .i64 y.he, .int .i64 y.we] 63)) R (rowC (Wt l c i) k (wgA c x.ra h t) (l.length + 1))) := Lib.hid (AR.out.belowB ((Below.refl _ wr).alloc (Nat.le_refl _) _) hRt)
              have HA3 : Hid (∀ z, Arr ((wr.alloc (.cells #[.int .i64 y.ra, .int .i64 y.he, .int .i64 y.we] 63)).setCell ⟨R, k, none⟩ (.int .i64 z)) R (rowC (Wt l c i) k z (l.length + 1))) := Lib.hid (fun z => by have h := HA2.out.set k z; rw [rowC_set] at h; exact h)
              have HB3 : Hid (∀ z, Below R wI ((wr.alloc (.cells #[.int .i64 y.ra, .int .i64 y.he, .int .i64 y.we] 63)).setCell ⟨R, k, none⟩ z)) := Lib.hid (fun z => HB2.out.setCell (Nat.le_refl _) _)
              have HTB : Hid (wg1 x.ra h y = if decide (x.ra ≤ y.ra) && decide (y.ra < h) then y.we else 0) := Lib.hid (by unfold wg1; simp)
              have hk1 : (k = l.length ∧ y.ra < h) ∨ (k < l.length ∧ ∃ z, l[k]? = some z ∧ z.ra = h) := by
                by_cases e : k < l.length
                · right
                  refine ⟨e, l[k], by simp, ?_⟩
                  have h2 := HKR.out
                  rw [if_pos e, getD_of (show l[k]? = some l[k] by simp)] at h2
                  exact h2.symm
                · left
                  have h2 := HKR.out
                  rw [if_neg e] at h2
                  omega
              have HBW2 : Hid (Below w.heap.size w wr) := Lib.hid HBT.out
              clear AR BR HBT
              go_upto_region 12 with (fail)
              have hund : undef = Value.tuple #[] := rfl
              go_cut [62] (fun s62 w2 => s62 = .bool (decide (x.ra ≤ y.ra) && decide (y.ra < h)) ∧ ∃ nq, w2 = (wr.alloc (.cells #[.int .i64 y.ra, .int .i64 y.he, .int .i64 y.we] 63)).drewN nq)
              case first =>
                cases e1 : decide (x.ra ≤ y.ra)
                case true =>
                  have e1' : x.ra ≤ y.ra := of_decide_eq_true e1
                  rcases hk1 with ⟨e2, e3⟩ | ⟨e2, z, hz, rfl⟩
                  · subst e2
                    go_quiet (fail)
                    go_wp2
                    go_meet
                    exact ⟨by simp [e1', e3], _, rfl⟩
                  · obtain ⟨zb, zo, hzo, hzc⟩ := HEL.out k z hz
                    simp only [Option.some.injEq, Addr.mk.injEq, and_true] at hzo
                    obtain ⟨rfl, rfl⟩ := hzo
                    have k1 : wr.cell? ⟨b, off + k * 4 + 1, none⟩ = some (.int .i64 z.ra) := (HBW2.out.cell (p := ⟨b, off + k * 4 + 1, none⟩) hblt).trans (hzc 1 _ rfl)
                    have hkn : ((k : Int) == (l.length : Int)) = false := by rw [beq_eq_false_iff_ne]; omega
                    have hkz2 : (k : Int) < (l.length : Int) := by omega
                    clear hz hzc
                    go_quiet (fail)
                    go_wp2
                    go_meet
                    exact ⟨by simp [e1'], _, rfl⟩
                case false =>
                  have e1' : ¬ x.ra ≤ y.ra := of_decide_eq_false e1
                  go_quiet (fail)
                  go_wp2
                  go_meet
                  exact ⟨by rw [e1]; rfl, _, rfl⟩
              obtain ⟨rfl, nq, rfl⟩ := hcut
              clear hund
              have HTB2 := HTB.out
              cases e1 : (decide (x.ra ≤ y.ra) && decide (y.ra < h))
              case false =>
                rw [e1, if_neg (by simp)] at HTB2
                have HN2 : Hid (wgA c x.ra h (t + 1) = wgA c x.ra h t) := Lib.hid (by rw [HNX.out, HTB2, Int.add_zero])
                clear HTB2
                go_wp2
                go_roundg (c.length - (t + 1))
                case measure => omega
                case rel => exact ⟨t + 1, by omega, by omega, by go_num, (show Aside (Arr _ _ _) from by rw [HN2.out]; exact HA2.out), (show Aside _ from below_drewN HB2.out _)⟩
              case true =>
                rw [e1, if_pos rfl] at HTB2
                have HN2 : Hid (wgA c x.ra h (t + 1) = wgA c x.ra h t + y.we) := Lib.hid (by rw [HNX.out, HTB2])
                rw [HTB2] at hb1
                obtain ⟨z, hz⟩ : ∃ z, z = wgA c x.ra h t := ⟨_, rfl⟩
                rw [← hz] at hb0 hb1 rc HN2
                have hzw : IntKind.i64.wrap (z + y.we) = z + y.we := IntWalk.i64_in _ (by omega)
                clear hz HTB2
                obtain ⟨wv, hwv⟩ : ∃ wv, wv = wr.alloc (.cells #[.int .i64 y.ra, .int .i64 y.he, .int .i64 y.we] 63) := ⟨_, rfl⟩
                have c2 : wv.cell? ⟨wr.heap.size, 2, none⟩ = some (.int .i64 y.we) := by rw [hwv]; exact (cell_of_block (block_new wr _)).trans rfl
                have d1 : wv.cell? ⟨G, i, none⟩ = some (.slice (some ⟨R, 0, none⟩) (l.length + 1) (l.length + 1)) := by rw [hwv]; exact (((Below.refl wr.heap.size wr).alloc (Nat.le_refl _) _).cell (p := ⟨G, i, none⟩) hG3).trans gr
                have d2 : wv.cell? ⟨R, k, none⟩ = some (.int .i64 z) := by rw [hwv]; exact (((Below.refl wr.heap.size wr).alloc (Nat.le_refl _) _).cell (p := ⟨R, k, none⟩) hRt).trans rc
                have d3 : wv.frozen? ⟨R, k, none⟩ = false := by rw [hwv]; exact (((Below.refl wr.heap.size wr).alloc (Nat.le_refl _) _).frozen (p := ⟨R, k, none⟩) hRt).trans rz
                have hRv : R < wv.heap.size := by rw [hwv]; simp; omega
                rw [← hwv] at HA3 HB3 ⊢
                obtain ⟨wz, hwz⟩ : ∃ wz, wz = wv.drewN nq := ⟨_, rfl⟩
                have HA4 : Hid (∀ z, Arr (wz.drew.setCell ⟨R, k, none⟩ (.int .i64 z)) R (rowC (Wt l c i) k z (l.length + 1))) := Lib.hid (by rw [hwz]; exact fun z => HA3.out z)
                have HB4 : Hid (∀ z, Below R wI (wz.drew.setCell ⟨R, k, none⟩ z)) := Lib.hid (by rw [hwz]; exact fun z => (below_drewN (HB3.out z) (nq + 1)))
                have c2 : wz.cell? ⟨wr.heap.size, 2, none⟩ = some (.int .i64 y.we) := by rw [hwz]; exact c2
                have d1 : wz.cell? ⟨G, i, none⟩ = some (.slice (some ⟨R, 0, none⟩) (l.length + 1) (l.length + 1)) := by rw [hwz]; exact d1
                have d2 : wz.cell? ⟨R, k, none⟩ = some (.int .i64 z) := by rw [hwz]; exact d2
                have d3 : wz.frozen? ⟨R, k, none⟩ = false := by rw [hwz]; exact d3
                have hRv : R < wz.heap.size := by rw [hwz]; exact hRv
                rw [← hwz]
                clear y0 y1 y2 x1 gr rc rz hwv hwz HA2 HB2 HA3 HB3
                go_upto_region 13 with (fail)
                go_still_tail 11, (by kernel_rfl)
                change wpList _ _ _ _ _ wz.drew
                go_wp2
                go_roundg (c.length - (t + 1))
                case measure => omega
                case rel => exact ⟨t + 1, by omega, by omega, by go_num, (show Aside (Arr _ _ _) from by rw [HN2.out]; exact HA4.out _), (show Aside _ from HB4.out _)⟩
            · obtain rfl : t = c.length := by omega
              rw [← HWK.out, rowC_next] at AR
              go_wp2
              go_roundg (l.length + 1 - (k + 1))
              case measure => omega
              case rel => exact ⟨k + 1, by omega, by omega, by go_num, AR, BR⟩
        · obtain rfl : k = l.length + 1 := by omega
          have HRD : Hid (RowsD wr G l.length (l.length + 1) (i + 1) (Wt l c)) := Lib.hid (by
            refine ⟨V, hV, HAV.out.belowB BR.out hgl, fun j hj => ?_⟩
            by_cases e : j = i
            · subst e
              refine ⟨R, HVI.out, ?_⟩
              have h := AR.out
              rw [rowC_all] at h
              exact h
            · obtain ⟨b2, h1, h2, h3⟩ := HVJ.out j (by omega)
              exact ⟨b2, h1, h3.belowB BR.out h2⟩)
          have HBF : Hid (Below w.heap.size w wr) := Lib.hid (HBS.out.trans (BR.out.mono hwb))
          go_wp2
          go_roundg (l.length - (i + 1))
          case measure => omega
          case rel => exact ⟨i + 1, by omega, by omega, by go_num, (show Aside _ from HRD.out), (show Aside _ from HBF.out)⟩
    · obtain rfl : i = l.length := by omega
      go_wp2
      go_ret
      exact WgtP.mk RD.out BW.out
end Go.Proofs.Ytfkmdojnkdoffaa

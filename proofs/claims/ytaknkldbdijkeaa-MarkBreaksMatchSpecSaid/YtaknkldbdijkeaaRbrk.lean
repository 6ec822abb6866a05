/- Breaks of the reference. -/
import Derived.Test.YtaknkldbdijkeaaPbrk
import Derived.Test.YtaknkldbdijkeaaCueR
namespace Go.Proofs.Ytaknkldbdijkeaa
open Go.RowKit

theorem gaps_take {E : List Evn} {k : Nat} {x : Evn} (hx : E[k]? = some x) : gapsE (E.take (k + 1)) = if x.ca = true then gapsE (E.take k) else gapsE (E.take k) ++ [x] := by
  rw [take_next hx]
  by_cases h : x.ca = true
  · rw [if_pos h, gaps_can _ _ h]
  · rw [if_neg h, gaps_new _ _ (by simpa using h)]

set_option maxRecDepth 100000 in
set_option maxHeartbeats 8000000 in
theorem breaksR_any (w : World) (l : List Hrd) (v : Value) (hl : Sl w 7 encH v l) :
    Calls Try.prog 13 #[v] w (BrkPost w (brkL l) (brkI l) (brkF l)) := by
  obtain ⟨ao, cap, rfl, hcap, hmax, hnil, hel⟩ := hl
  unfold maxLen at hmax
  by_cases h500 : 500 < l.length
  · have hz : (500 : Int) < (l.length : Int) := by omega
    have HE := Lib.hid (brk_large h500)
    clear hel h500
    go_enter Try.func13, Try.ntmps13
    go_wp2
    go_ret3
    exact BrkPost.none HE.out (Below.refl _ _)
  have hz5 : ¬ (500 : Int) < (l.length : Int) := by omega
  have HEL := Lib.hid hel
  have H500 := Lib.hid h500
  have hl5 : l.length ≤ 500 := by omega
  clear hel
  go_enter Try.func13, Try.ntmps13
  go_wp2
  go_loopg [5, 6, 7] l.length (fun gg s5 s6 s7 wr => ∃ kk : Nat, kk ≤ l.length ∧ l.length - kk ≤ gg ∧ s7 = .int .i64 kk ∧ Aside (Below w.heap.size w wr) ∧ Aside (Own wr w.heap.size 65 4 encV s5 (stE l kk)) ∧ Aside (Own wr w.heap.size 3 1 encI s6 (idE l kk)) ∧ Aside (∀ j, j < kk → errH l j = 0))
  case atStart => exact ⟨0, Nat.zero_le _, by omega, rfl, Below.refl _ w, Own.nil, Own.nil, fun j hj => absurd hj (Nat.not_lt_zero _)⟩
  case round =>
    obtain ⟨kk, hkk, hg, rfl, BW, EW, IW, A⟩ := hrel
    have BW := Lib.hid BW.out
    have EW := Lib.hid EW.out
    have IW := Lib.hid IW.out
    have A := Lib.hid A.out
    obtain ⟨ido, idn, idc, rfl⟩ := Own.slv encI_len IW.out
    by_cases hlt : kk < l.length
    · obtain ⟨evo, evn, evc, rfl⟩ := Own.slv encV_len EW.out
      have hltz : (kk : Int) < (l.length : Int) := by omega
      obtain ⟨x, hx⟩ : ∃ x, l[kk]? = some x := ⟨l[kk], by simp [hlt]⟩
      obtain ⟨b, off, rfl, hcc⟩ := HEL.out kk x hx
      have hlt0 : b < w.heap.size := World.block_lt_of_cell? w _ (hcc 0 _ rfl)
      have toW : ∀ o u, w.cell? ⟨b, o, none⟩ = some u → wr.cell? ⟨b, o, none⟩ = some u := fun o u hu => (BW.out.cell (p := ⟨b, o, none⟩) hlt0).trans hu
      have c0 : wr.cell? ⟨b, off + kk * 7, none⟩ = some (.int .i64 x.at_) := toW _ _ (by have h := hcc 0 _ rfl; simpa using h)
      have HCC := Lib.hid hcc
      have HX : Hid (l[kk]? = some x) := Lib.hid hx
      have HER : Hid (errH l kk = if outB x.at_ (-1000000000000000) 1000000000000000 = true then 1 else if ordH l kk x = true then 8 else checkC x.cu) := Lib.hid (errH_at hx)
      have HPV : Hid (∀ p, l[kk - 1]? = some p → wr.cell? ⟨b, off + (kk - 1) * 7, none⟩ = some (.int .i64 p.at_)) := Lib.hid (fun p hp => by
        obtain ⟨b', off', he, hc'⟩ := HEL.out (kk - 1) p hp
        simp only [Option.some.injEq, Addr.mk.injEq, and_true] at he
        obtain ⟨rfl, rfl⟩ := he
        exact toW _ _ (by have h := hc' 0 _ rfl; simpa using h))
      clear hx hcc toW
      cases hq : outB x.at_ (-1000000000000000) 1000000000000000
      case true =>
        have HE : Hid (brkF l = 1 ∧ brkL l = [] ∧ brkI l = []) := Lib.hid (brk_err H500.out hlt A.out (by rw [HER.out, if_pos hq]) (by decide))
        have HNT := Lib.hid (isTime_any x.at_ wr)
        rw [hq] at HNT
        clear hq
        go_wp2_with (go_at_call 26; refine HNT.out.mono ?_; rintro e w' ⟨rfl, rfl⟩)
        go_ret3
        exact BrkPost.none HE.out BW.out
      have HNT := Lib.hid (isTime_any x.at_ wr)
      rw [hq] at HNT
      have HER2 : Hid (errH l kk = if ordH l kk x = true then 8 else checkC x.cu) := Lib.hid (by rw [HER.out, if_neg (by rw [hq]; decide)])
      clear hq HER
      go_upto_region 10 with (go_at_call 26; refine HNT.out.mono ?_; rintro e w' ⟨rfl, rfl⟩)
      go_cut [46] (fun s w2 => s = .bool (ordH l kk x) ∧ ∃ k, w2 = wr.drewN k)
      case first =>
        have hund : undef = Value.tuple #[] := rfl
        cases kk with
        | zero =>
          have hv : Hid (ordH l 0 x = false) := Lib.hid rfl
          go_quiet (fail)
          go_wp2
          go_meet
          exact ⟨by rw [hv.out], _, rfl⟩
        | succ q =>
          obtain ⟨p, hp⟩ : ∃ p, l[q]? = some p := ⟨l[q]'(by omega), by simp [show q < l.length by omega]⟩
          have hv : Hid (ordH l (q + 1) x = decide (x.at_ < p.at_)) := Lib.hid (by unfold ordH; rw [show q + 1 - 1 = q from rfl, hp]; simp)
          have p0 : wr.cell? ⟨b, off + q * 7, none⟩ = some (.int .i64 p.at_) := HPV.out p hp
          have hm1 : (((q + 1 : Nat) : Int) - 1) = (q : Int) := by omega
          have hm2 : (0 : Int) < ((q + 1 : Nat) : Int) := by omega
          have hm3 : (q : Int) < (l.length : Int) := by omega
          have hwr : IntKind.i64.wrap (((q + 1 : Nat) : Int) - 1) = (q : Int) := by rw [hm1]; exact IntWalk.i64_in _ (by omega)
          go_quiet (fail)
          go_wp2
          go_meet
          exact ⟨by rw [hv.out], _, rfl⟩
      obtain ⟨rfl, nq, hw3⟩ := hcut
      have hB3 : Below wr.heap.size wr wc := by rw [hw3]; exact below_drewN (Below.refl _ wr) nq
      have HB3 := Lib.hid (BW.out.trans (hB3.mono BW.out.size))
      have HE3 := Lib.hid (EW.out.below hB3 (Nat.le_refl _))
      have HI3 := Lib.hid (IW.out.below hB3 (Nat.le_refl _))
      clear hw3 hB3 c0 HPV HNT
      have toW : Hid (∀ o u, w.cell? ⟨b, o, none⟩ = some u → wc.cell? ⟨b, o, none⟩ = some u) := Lib.hid (fun o u hu => (HB3.out.cell (p := ⟨b, o, none⟩) hlt0).trans hu)
      have hcc := HCC.out
      have c0 : wc.cell? ⟨b, off + kk * 7, none⟩ = some (.int .i64 x.at_) := toW.out _ _ (by have h := hcc 0 _ rfl; simpa using h)
      have c1 : wc.cell? ⟨b, off + kk * 7 + 1, none⟩ = some (.int .i64 x.cu.ki) := toW.out _ _ (hcc 1 _ rfl)
      have c2 : wc.cell? ⟨b, off + kk * 7 + 2, none⟩ = some (.int .i64 x.cu.ev) := toW.out _ _ (hcc 2 _ rfl)
      have c3 : wc.cell? ⟨b, off + kk * 7 + 3, none⟩ = some (.bool x.cu.no) := toW.out _ _ (hcc 3 _ rfl)
      have c4 : wc.cell? ⟨b, off + kk * 7 + 4, none⟩ = some (.int .i64 x.cu.ti) := toW.out _ _ (hcc 4 _ rfl)
      have c5 : wc.cell? ⟨b, off + kk * 7 + 5, none⟩ = some (.int .i64 x.cu.le) := toW.out _ _ (hcc 5 _ rfl)
      have c6 : wc.cell? ⟨b, off + kk * 7 + 6, none⟩ = some (.bool x.cu.au) := toW.out _ _ (hcc 6 _ rfl)
      clear hcc
      cases hord : ordH l kk x
      case true =>
        have HE : Hid (brkF l = 8 ∧ brkL l = [] ∧ brkI l = []) := Lib.hid (brk_err H500.out hlt A.out (by rw [HER2.out, if_pos hord]) (by decide))
        clear hord
        go_wp2
        go_ret3
        exact BrkPost.none HE.out HB3.out
      have HER3 : Hid (errH l kk = checkC x.cu) := Lib.hid (by rw [HER2.out, if_neg (by rw [hord]; decide)])
      clear hord HER2
      have HCQ := Lib.hid (checkCueR_any x.cu wc)
      obtain ⟨f, hf⟩ : ∃ f, f = checkC x.cu := ⟨_, rfl⟩
      rw [← hf] at HCQ HER3
      clear hf
      go_upto_region 13 with (go_at_call 27; refine HCQ.out.mono ?_; rintro e w5 ⟨rfl, hb5⟩; have HBC := Lib.hid hb5; have HB5 := Lib.hid (HB3.out.trans (hb5.mono HB3.out.size)); clear hb5)
      have HE5 := Lib.hid (HE3.out.below HBC.out (Nat.le_refl _))
      have HI5 := Lib.hid (HI3.out.below HBC.out (Nat.le_refl _))
      by_cases hc0 : f = 0
      · subst hc0
        clear c0 c1 c2 c3 c4 c5 c6 toW
        have toW : Hid (∀ o u, w.cell? ⟨b, o, none⟩ = some u → w5.cell? ⟨b, o, none⟩ = some u) := Lib.hid (fun o u hu => (HB5.out.cell (p := ⟨b, o, none⟩) hlt0).trans hu)
        have hcc := HCC.out
        have c0 : w5.cell? ⟨b, off + kk * 7, none⟩ = some (.int .i64 x.at_) := toW.out _ _ (by have h := hcc 0 _ rfl; simpa using h)
        have c1 : w5.cell? ⟨b, off + kk * 7 + 1, none⟩ = some (.int .i64 x.cu.ki) := toW.out _ _ (hcc 1 _ rfl)
        have c2 : w5.cell? ⟨b, off + kk * 7 + 2, none⟩ = some (.int .i64 x.cu.ev) := toW.out _ _ (hcc 2 _ rfl)
        have c3 : w5.cell? ⟨b, off + kk * 7 + 3, none⟩ = some (.bool x.cu.no) := toW.out _ _ (hcc 3 _ rfl)
        have c4 : w5.cell? ⟨b, off + kk * 7 + 4, none⟩ = some (.int .i64 x.cu.ti) := toW.out _ _ (hcc 4 _ rfl)
        have c5 : w5.cell? ⟨b, off + kk * 7 + 5, none⟩ = some (.int .i64 x.cu.le) := toW.out _ _ (hcc 5 _ rfl)
        have c6 : w5.cell? ⟨b, off + kk * 7 + 6, none⟩ = some (.bool x.cu.au) := toW.out _ _ (hcc 6 _ rfl)
        clear hcc
        have HOK := Lib.hid (err_ok HX.out HER3.out).1
        obtain ⟨did, hdid⟩ : ∃ d, d = (hear1 (stE l kk) x).2 := ⟨_, rfl⟩
        have HHE := Lib.hid (heardR_any w5 w.heap.size (.slice evo evn evc) (stE l kk) x HE5.out HB5.out.size (stE_ids l kk) (by have := stE_len l kk; omega) (stE_ok (fun j hj => A.out j (by omega))) HOK.out)
        rw [← stE_at HX.out, ← hdid] at HHE
        have HID : Hid (idE l (kk + 1) = if did = true then idE l kk else idE l kk ++ [(kk : Int)]) := Lib.hid (by rw [hdid]; exact idE_at HX.out)
        have HA2 : Hid (∀ j, j < kk + 1 → errH l j = 0) := Lib.hid (fun j hj => by
          by_cases e : j = kk
          · subst e; exact HER3.out
          · exact A.out j (by omega))
        clear hdid
        cases did
        · have HID2 : Hid (idE l (kk + 1) = idE l kk ++ [(kk : Int)]) := Lib.hid HID.out
          have HIL := Lib.hid (idE_len l kk)
          clear HID
          go_wp2_with (first | (go_at_call 28; refine HHE.out.mono ?_; rintro e w6 ⟨v6, rfl, ho6, hb6, hk6⟩; obtain ⟨eo6, en6, ec6, rfl⟩ := Own.slv encV_len ho6; have HE6 := Lib.hid ho6; have HB6 := Lib.hid (HB5.out.trans hb6); have HI6 := Lib.hid (HI5.out.keepT hk6 (by decide)); have hs6 : w.heap.size ≤ w6.heap.size := HB6.out.size; clear ho6 hb6 hk6) | (at_builtin; go_loud (refine wpList_pushK (W := w6) (v := .slice ido idn idc) rfl _ _ 33 rfl slI rfl rfl (kk : Int) rfl rfl rfl HI6.out rfl (by have := HIL.out; omega) hs6 ?_); intro v7 w7 ho7 hb7 hk7; rw [← HID2.out] at ho7; have HO7 := Lib.hid ho7; have HB7 := Lib.hid hb7; have HE7 := Lib.hid (HE6.out.keepT hk7 (by decide)); clear ho7 hb7 hk7))
          go_roundg (l.length - (kk + 1))
          case measure => omega
          case rel => exact ⟨kk + 1, by omega, by omega, by go_num, HB6.out.trans HB7.out, HE7.out, HO7.out, HA2.out⟩
        · have HID2 : Hid (idE l (kk + 1) = idE l kk) := Lib.hid HID.out
          clear HID
          go_wp2_with (go_at_call 28; refine HHE.out.mono ?_; rintro e w6 ⟨v6, rfl, ho6, hb6, hk6⟩; obtain ⟨eo6, en6, ec6, rfl⟩ := Own.slv encV_len ho6; have HE6 := Lib.hid ho6; have HB6 := Lib.hid (HB5.out.trans hb6); have HI6 := Lib.hid (HI5.out.keepT hk6 (by decide)); have hs6 : w.heap.size ≤ w6.heap.size := HB6.out.size; clear ho6 hb6 hk6)
          go_roundg (l.length - (kk + 1))
          case measure => omega
          case rel => exact ⟨kk + 1, by omega, by omega, by go_num, HB6.out, HE6.out, by rw [HID2.out]; exact HI6.out, HA2.out⟩
      · have HE : Hid (brkF l = f ∧ brkL l = [] ∧ brkI l = []) := Lib.hid (brk_err H500.out hlt A.out HER3.out hc0)
        go_wp2
        go_ret3
        exact BrkPost.none HE.out HB5.out
    · obtain rfl : kk = l.length := by omega
      have hltz : ¬ (l.length : Int) < (l.length : Int) := by omega
      have HZ : Hid (∀ i, i < l.length → errH l i = 0) := A
      obtain ⟨w6, rfl⟩ : ∃ w6, w6 = wr := ⟨wr, rfl⟩
      obtain ⟨E, hE⟩ : ∃ E, E = stE l l.length := ⟨_, rfl⟩
      rw [← hE] at EW
      have hEl : E.length ≤ 500 := by
        have := stE_len l l.length
        rw [← hE] at this
        omega
      have HEQ := Lib.hid hE
      have HEK : Hid (∀ e, e ∈ E → okE e) := Lib.hid (by rw [hE]; exact stE_ok HZ.out)
      obtain ⟨eo, ec, rfl, hec, hem, _, heel⟩ := EW.out.sl encV_len
      unfold maxLen at hem
      have HGEL := Lib.hid heel
      have HIS := Lib.hid (IW.out.sl encI_len)
      have HB6 := Lib.hid BW.out
      clear heel hE EW IW BW A
      go_wp2
      go_loopg [11, 12] E.length (fun gg s11 s12 wq => ∃ kk : Nat, kk ≤ E.length ∧ E.length - kk ≤ gg ∧ s12 = .int .i64 kk ∧ Aside (Below w6.heap.size w6 wq) ∧ Aside (Own wq w6.heap.size 29 3 encB s11 ((gapsE (E.take kk)).map toB)) ∧ Aside (∀ g, g ∈ gapsE (E.take kk) → badG g = false))
      case atStart => exact ⟨0, Nat.zero_le _, by omega, rfl, Below.refl _ w6, Own.nil, fun g hg => by simp [gapsE] at hg⟩
      case round =>
        obtain ⟨kk, hkk, hg, rfl, BW, OW, NB⟩ := hrel
        have BW := Lib.hid BW.out
        have OW := Lib.hid OW.out
        have NB := Lib.hid NB.out
        by_cases hlt : kk < E.length
        · obtain ⟨oo, on, oc, rfl⟩ := Own.slv encB_len OW.out
          have hltz : (kk : Int) < (E.length : Int) := by omega
          obtain ⟨x, hx⟩ : ∃ x, E[kk]? = some x := ⟨E[kk], by simp [hlt]⟩
          obtain ⟨b, off, rfl, hcc⟩ := HGEL.out kk x hx
          have hlt0 : b < w6.heap.size := World.block_lt_of_cell? w6 _ (hcc 0 _ rfl)
          have toW : ∀ o u, w6.cell? ⟨b, o, none⟩ = some u → wr.cell? ⟨b, o, none⟩ = some u := fun o u hu => (BW.out.cell (p := ⟨b, o, none⟩) hlt0).trans hu
          have c0 : wr.cell? ⟨b, off + kk * 4, none⟩ = some (.int .i64 x.id) := toW _ _ (by have h := hcc 0 _ rfl; simpa using h)
          have c1 : wr.cell? ⟨b, off + kk * 4 + 1, none⟩ = some (.int .i64 x.be) := toW _ _ (hcc 1 _ rfl)
          have c2 : wr.cell? ⟨b, off + kk * 4 + 2, none⟩ = some (.int .i64 (enV x)) := toW _ _ (hcc 2 _ rfl)
          have c3 : wr.cell? ⟨b, off + kk * 4 + 3, none⟩ = some (.bool x.ca) := toW _ _ (hcc 3 _ rfl)
          have hok := (HEK.out x (List.mem_of_getElem? hx)).2.2
          have HGT := Lib.hid (gaps_take hx)
          have HMG : Hid (x.ca = false → x ∈ gapsE E) := Lib.hid (fun h => List.mem_filter.2 ⟨List.mem_of_getElem? hx, by simp [h]⟩)
          have hsw : w6.heap.size ≤ wr.heap.size := BW.out.size
          obtain ⟨wx, hwx⟩ : ∃ wx, wx = wr.alloc (.cells #[.int .i64 x.id, .int .i64 x.be, .int .i64 (enV x), .bool x.ca] 65) := ⟨_, rfl⟩
          have HXB : Hid (wx.heap[wr.heap.size]? = some (.cells #[.int .i64 x.id, .int .i64 x.be, .int .i64 (enV x), .bool x.ca] 65 (0, 0))) := Lib.hid (by rw [hwx]; exact block_new wr _)
          have HBX : Hid (Below w6.heap.size w6 wx) := Lib.hid (by rw [hwx]; exact BW.out.alloc BW.out.size _)
          have HOX : Hid (Own wx w6.heap.size 29 3 encB (.slice oo on oc) ((gapsE (E.take kk)).map toB)) := Lib.hid (by rw [hwx]; exact OW.out.al _)
          have hxs : w6.heap.size ≤ wx.heap.size := HBX.out.size
          have HWX := Lib.hid hwx
          clear hx hcc toW hwx
          go_upto_region 24 with (fail)
          rw [← HWX.out]
          have d0 : wx.cell? ⟨wr.heap.size, 0, none⟩ = some (.int .i64 x.id) := (cell_of_block HXB.out).trans rfl
          have d1 : wx.cell? ⟨wr.heap.size, 1, none⟩ = some (.int .i64 x.be) := (cell_of_block HXB.out).trans rfl
          have d2 : wx.cell? ⟨wr.heap.size, 2, none⟩ = some (.int .i64 (enV x)) := (cell_of_block HXB.out).trans rfl
          have d3 : wx.cell? ⟨wr.heap.size, 3, none⟩ = some (.bool x.ca) := (cell_of_block HXB.out).trans rfl
          have hbl := lt_of_blk HXB.out
          clear c0 c1 c2 c3 HWX
          cases hca : x.ca
          case true =>
            rw [hca] at d3
            have HGS : Hid (gapsE (E.take (kk + 1)) = gapsE (E.take kk)) := Lib.hid (by rw [HGT.out, if_pos hca])
            clear hca
            go_wp2
            go_roundg (E.length - (kk + 1))
            case measure => omega
            case rel => exact ⟨kk + 1, by omega, by omega, by go_num, HBX.out, by rw [HGS.out]; exact HOX.out, by rw [HGS.out]; exact NB.out⟩
          rw [hca] at d3
          have HGS : Hid (gapsE (E.take (kk + 1)) = gapsE (E.take kk) ++ [x]) := Lib.hid (by rw [HGT.out, if_neg (by rw [hca]; decide)])
          have HXG := Lib.hid (HMG.out hca)
          have htk : Hid ((gapsE (E.take (kk + 1))).map toB = (gapsE (E.take kk)).map toB ++ [toB x]) := Lib.hid (by rw [HGS.out, List.map_append]; rfl)
          have HOL : Hid (((gapsE (E.take kk)).map toB).length ≤ 500) := Lib.hid (by
            have h1 : (gapsE (E.take kk)).length ≤ (E.take kk).length := List.length_filter_le _ _
            rw [List.length_take] at h1
            rw [List.length_map]; omega)
          have HBQ : Hid (badG x = (outB x.be 0 1000000000000000 || (!x.op && outB x.en 0 1000000000000000))) := Lib.hid rfl
          obtain ⟨bq, hbq⟩ : ∃ bq, bq = badG x := ⟨_, rfl⟩
          have HTB : Hid (toB x = ⟨x.id, x.be, if x.op = true then -1 else x.en⟩) := Lib.hid rfl
          have HQB := Lib.hid hbq
          rw [← hbq] at HBQ
          obtain ⟨wy, hwy⟩ : ∃ wy, wy = wx.alloc (.cells #[.int .i64 x.id, .int .i64 x.be, .int .i64 (enV x)] 29) := ⟨_, rfl⟩
          have HYB : Hid (wy.heap[wx.heap.size]? = some (.cells #[.int .i64 x.id, .int .i64 x.be, .int .i64 (enV x)] 29 (0, 0))) := Lib.hid (by rw [hwy]; exact block_new wx _)
          have HBY : Hid (Below w6.heap.size w6 wy) := Lib.hid (by rw [hwy]; exact HBX.out.alloc hxs _)
          have HOY : Hid (Own wy w6.heap.size 29 3 encB (.slice oo on oc) ((gapsE (E.take kk)).map toB)) := Lib.hid (by rw [hwy]; exact HOX.out.al _)
          have HOZ : Hid (Own (wy.setCell ⟨wx.heap.size, 2, none⟩ (.int .i64 (-1))) w6.heap.size 29 3 encB (.slice oo on oc) ((gapsE (E.take kk)).map toB)) := Lib.hid (by rw [hwy]; exact Own.freshSet HOX.out _ 2 _)
          have HXY : Hid (wy.heap[wr.heap.size]? = some (.cells #[.int .i64 x.id, .int .i64 x.be, .int .i64 (enV x), .bool x.ca] 65 (0, 0))) := Lib.hid (by rw [hwy, Below.heap_alloc wx _ _ hbl]; exact HXB.out)
          have hs8 : w6.heap.size ≤ wy.heap.size := HBY.out.size
          have HWY := Lib.hid hwy
          clear hwy hbq hca HGT HMG
          go_upto_region 26 with (fail)
          rw [← HWY.out]
          have e0 : wy.cell? ⟨wx.heap.size, 0, none⟩ = some (.int .i64 x.id) := (cell_of_block HYB.out).trans rfl
          have e1 : wy.cell? ⟨wx.heap.size, 1, none⟩ = some (.int .i64 x.be) := (cell_of_block HYB.out).trans rfl
          have e2 : wy.cell? ⟨wx.heap.size, 2, none⟩ = some (.int .i64 (enV x)) := (cell_of_block HYB.out).trans rfl
          have g2 : wy.cell? ⟨wr.heap.size, 2, none⟩ = some (.int .i64 (enV x)) := (cell_of_block HXY.out).trans rfl
          have f2 : wy.frozen? ⟨wx.heap.size, 2, none⟩ = false := free_bl (i := 2) HYB.out
          have hbl2 := lt_of_blk HYB.out
          clear d0 d1 d2 d3 HWY
          have HEN : Hid (enV x = if x.op = true then -4611686018427387904 else x.en) := Lib.hid rfl
          have HNO : Hid (¬ x.en = -4611686018427387904) := Lib.hid (by omega)
          go_cut [105] (fun s w2 => s = .bool bq ∧ w2 = wy)
          case first =>
            cases h1 : outB x.be 0 1000000000000000
            · cases hop : x.op
              · have hv : Hid (bq = outB x.en 0 1000000000000000) := Lib.hid (by rw [HBQ.out, h1, hop]; rfl)
                have he : enV x = x.en := by rw [HEN.out, hop]; rfl
                have hno := HNO.out
                rw [he] at e2 g2
                clear HBQ he hop
                go_wp2_with (go_at_call 19; refine (within7_any _ _ _ _).mono ?_; rintro e w' ⟨rfl, rfl⟩)
                go_meet
                exact ⟨by rw [hv.out]; simp; exact fun _ => hno, rfl⟩
              · have hv : Hid (bq = false) := Lib.hid (by rw [HBQ.out, h1, hop]; rfl)
                have he : enV x = -4611686018427387904 := by rw [HEN.out, hop]; rfl
                rw [he] at e2 g2
                clear HBQ he hop
                go_wp2_with (go_at_call 19; refine (within7_any _ _ _ _).mono ?_; rintro e w' ⟨rfl, rfl⟩)
                go_meet
                exact ⟨by rw [hv.out], rfl⟩
            · have hv : Hid (bq = true) := Lib.hid (by rw [HBQ.out, h1]; rfl)
              clear HBQ
              go_wp2_with (go_at_call 19; refine (within7_any _ _ _ _).mono ?_; rintro e w' ⟨rfl, rfl⟩)
              go_meet
              exact ⟨by rw [hv.out], rfl⟩
          obtain ⟨rfl, rfl⟩ := hcut
          cases bq
          case true =>
            have HE := Lib.hid (brk_bad H500.out HZ.out (by rw [← HEQ.out]; exact HXG.out) HQB.out.symm)
            go_wp2
            go_ret3
            exact BrkPost.none HE.out (HB6.out.trans (HBY.out.mono HB6.out.size))
          have NB2 : Hid (∀ g, g ∈ gapsE (E.take (kk + 1)) → badG g = false) := Lib.hid (fun g hg => by
            rw [HGS.out] at hg
            rcases List.mem_append.1 hg with h | h
            · exact NB.out g h
            · simp at h; subst h; exact HQB.out.symm)
          clear HBQ HQB
          cases hop : x.op
          · have hcx : Hid (encB (toB x) = [.int .i64 x.id, .int .i64 x.be, .int .i64 x.en]) := Lib.hid (by rw [HTB.out, hop]; rfl)
            have he : enV x = x.en := by rw [HEN.out, hop]; rfl
            have hno := HNO.out
            rw [he] at e2 g2
            clear he hop
            go_wp2_with (at_builtin; go_loud (refine wpList_push (W := wc) (v := .slice oo on oc) rfl _ _ 22 rfl slB rfl rfl (toB x) hcx.out rfl rfl HOY.out rfl (by have := HOL.out; omega) hs8 ?_); intro v5 w5 ho5 hb5; rw [← htk.out] at ho5; have HO5 := Lib.hid ho5; have HB5 := Lib.hid hb5; clear ho5 hb5)
            go_roundg (E.length - (kk + 1))
            case measure => omega
            case rel => exact ⟨kk + 1, by omega, by omega, by go_num, HBY.out.trans HB5.out, HO5.out, NB2.out⟩
          · have hcx : Hid (encB (toB x) = [.int .i64 x.id, .int .i64 x.be, .int .i64 (-1)]) := Lib.hid (by rw [HTB.out, hop]; rfl)
            have he : enV x = -4611686018427387904 := by rw [HEN.out, hop]; rfl
            rw [he] at e2 g2
            have HBZ := Lib.hid (HBY.out.setCell (show w6.heap.size ≤ (⟨wx.heap.size, 2, none⟩ : Addr).block from hxs) (.int .i64 (-1)))
            have hs8 : w6.heap.size ≤ (wc.setCell ⟨wx.heap.size, 2, none⟩ (.int .i64 (-1))).heap.size := by simp; omega
            clear he hop
            go_wp2_with (at_builtin; go_loud (refine wpList_push (A := wc.heap.size) (W := wc.setCell ⟨wx.heap.size, 2, none⟩ (.int .i64 (-1))) (v := .slice oo on oc) rfl _ _ 22 rfl slB rfl rfl (toB x) hcx.out rfl rfl HOZ.out (by simp) (by have := HOL.out; omega) hs8 ?_); intro v5 w5 ho5 hb5; rw [← htk.out] at ho5; have HO5 := Lib.hid ho5; have HB5 := Lib.hid hb5; clear ho5 hb5)
            go_roundg (E.length - (kk + 1))
            case measure => omega
            case rel => exact ⟨kk + 1, by omega, by omega, by go_num, HBZ.out.trans HB5.out, HO5.out, NB2.out⟩
        · obtain rfl : kk = E.length := by omega
          have hltz : ¬ (E.length : Int) < (E.length : Int) := by omega
          have hOG := OW.out
          rw [List.take_length] at hOG
          obtain ⟨Gs, hGs⟩ : ∃ Gs, Gs = gapsE E := ⟨_, rfl⟩
          rw [← hGs] at hOG
          have HGS := Lib.hid hGs
          have hgl : Gs.length ≤ 500 := by
            have h1 : (gapsE E).length ≤ E.length := List.length_filter_le _ _
            rw [← hGs] at h1
            omega
          have hSG := hOG.sl encB_len
          have HSG := Lib.hid hSG
          obtain ⟨oo, oc, rfl, _, _, _, _⟩ := hSG
          have HSH : Hid (Sl wr 3 encB (.slice oo Gs.length oc) (Gs.map toB)) := Lib.hid (by have := HSG.out; rw [List.length_map] at this; exact this)
          have HIS2 := Lib.hid (HIS.out.below BW.out (Nat.le_refl _))
          have HBE := Lib.hid (HB6.out.trans (BW.out.mono HB6.out.size))
          have HNB : Hid (∀ g, g ∈ gapsE (stE l l.length) → badG g = false) := Lib.hid (fun g hg => NB.out g (by rw [List.take_length, HEQ.out]; exact hg))
          have HGE : Hid (gapsE (stE l l.length) = Gs) := Lib.hid (by rw [← HEQ.out, HGS.out])
          clear hOG OW NB hGs
          by_cases hm : 200 < Gs.length
          · have hmz : (200 : Int) < (Gs.length : Int) := by omega
            have HE := Lib.hid (brk_many H500.out HZ.out HNB.out (by rw [HGE.out]; exact hm))
            clear hm
            go_wp2
            go_ret3
            exact BrkPost.none HE.out HBE.out
          · have hmz : ¬ (200 : Int) < (Gs.length : Int) := by omega
            have HE := Lib.hid (brk_ok H500.out HZ.out HNB.out (by rw [HGE.out]; exact hm))
            clear hm
            go_wp2
            go_ret3
            obtain ⟨e1, e2, e3⟩ := HE.out
            exact BrkPost.mk e1.symm (by rw [e2, HGE.out]; exact HSH.out) (by rw [e3]; exact HIS2.out) HBE.out
end Go.Proofs.Ytaknkldbdijkeaa

/- chosen of the reference: the set of a number. -/
import Derived.Test.YtaajjngfmaiicaaChosL
import Derived.Test.YtaajjngfmaiicaaFromL
import Derived.Test.YtaajjngfmaiicaaOnl
namespace Go.Proofs.Ytaajjngfmaiicaa
open Go.RowKit

/-- A choice of the reference, that the call has made. -/
def ChP (w : World) (l : List Adv) (bit : Nat → Bool) : Ending → World → Prop :=
  fun e w' => ∃ v, e = .returned (.agg #[v, .int .i64 (selL l (bitsL bit l.length)), .int .i64 (selV l (bitsL bit l.length)), .bool (rgtB l bit l.length), .bool false]) ∧ Own w' (w.heap.size + 2) 3 1 encI v (bitsL bit l.length) ∧ Below w.heap.size w w'

/-- The call's two boxes and its list, when k numbers have been looked at. -/
def CHs (w : World) (l : List Adv) (bit : Nat → Bool) (k : Nat) (rt : Bool) (wr : World) : Prop :=
  ∃ v, wr.heap[w.heap.size + 1]? = some (.cells #[v, .int .i64 (selL l (bitsL bit k)), .int .i64 (selV l (bitsL bit k)), .bool rt, .bool false] 45 (0, 0)) ∧ Own wr (w.heap.size + 2) 3 1 encI v (bitsL bit k) ∧
    wr.heap[w.heap.size]? = some (.cells #[.slice none 0 0, .int .i64 0, .int .i64 0, .bool false, .bool false] 45) ∧ Below w.heap.size w wr
theorem sel_bits (l : List Adv) (ha : AdsOk l) (bit : Nat → Bool) : ∀ k, k ≤ l.length → (0 ≤ selL l (bitsL bit k) ∧ selL l (bitsL bit k) ≤ 16000000000000000) ∧ 0 ≤ selV l (bitsL bit k) ∧ selV l (bitsL bit k) ≤ 16000000000 := fun k hk => by
  have hr : ∀ j, j ∈ bitsL bit k → 0 ≤ j ∧ j < (l.length : Int) := fun j hj => by have := bitsL_rng bit k j hj; omega
  have h1 := sel_bd (f := fun k => (adAt l k).va) (C := 1000000000) (L := bitsL bit k) fun j hj => (ha.2 _ (adAt_of (hr j hj))).2
  have h2 := sel_bd (f := fun k => (adAt l k).ln) (C := 1000000000000000) (L := bitsL bit k) fun j hj => by have := (ha.2 _ (adAt_of (hr j hj))).1; omega
  have h3 := bitsL_len bit k
  have h4 := ha.1
  unfold selV selL
  omega

theorem take_next_any {L : List Int} {k : Nat} {x : Int} {p : Int → Bool} (hx : L[k]? = some x) : (L.take (k + 1)).any p = ((L.take k).any p || p x) := by
  rw [take_next hx, List.any_append]; simp

set_option maxRecDepth 100000 in
set_option maxHeartbeats 4000000 in
theorem chosen_any (w : World) (l : List Adv) (v : Value) (s : Int) (bit : Nat → Bool) (ha : AdsOk l) (hl : Sl w 4 encA v l) (hs : 0 ≤ s) (hbit : ∀ k, k < l.length → bit k = !(s / 2 ^ k % 2 == 0)) :
    Calls Try.prog 15 #[v, .int .i64 s] w (ChP w l bit) := by
  obtain ⟨ao, cap, rfl, hcap, hmax, hnil, hel⟩ := hl
  unfold maxLen at hmax
  have HEL := Lib.hid hel
  have HBIT := Lib.hid hbit
  have hlen := ha.1
  clear hel hbit
  go_enter Try.func15, Try.ntmps15
  go_wp2
  have HC0 : Hid (CHs w l bit 0 true ((w.alloc (.cells #[.slice none 0 0, .int .i64 0, .int .i64 0, .bool false, .bool false] 45)).alloc (.cells #[.slice none 0 0, .int .i64 0, .int .i64 0, .bool true, .bool false] 45))) := Lib.hid (by
    have h := block_new (w.alloc (.cells #[.slice none 0 0, .int .i64 0, .int .i64 0, .bool false, .bool false] 45)) (.cells #[.slice none 0 0, .int .i64 0, .int .i64 0, .bool true, .bool false] 45)
    have hsz : (w.alloc (.cells #[.slice none 0 0, .int .i64 0, .int .i64 0, .bool false, .bool false] 45)).heap.size = w.heap.size + 1 := by simp
    rw [hsz] at h
    exact ⟨_, h, Own.nil, (Below.heap_alloc _ _ _ (by simp)).trans (block_new w _), ((Below.refl _ _).alloc (Nat.le_refl _) _).alloc (by simp) _⟩)
  go_loopg [6, 7, 8] l.length (fun gg s6 _ _ wr => ∃ k : Nat, k ≤ l.length ∧ l.length - k ≤ gg ∧ s6 = .int .i64 k ∧ Aside (CHs w l bit k (rgtB l bit k) wr))
  case atStart => exact ⟨0, Nat.zero_le _, by omega, rfl, HC0.out⟩
  case round =>
    obtain ⟨k, hk, hg, rfl, HR⟩ := hrel
    by_cases hlt : k < l.length
    · have hltz : (k : Int) < (l.length : Int) := by omega
      have hb := HBIT.out k hlt
      have hz : 0 ≤ s / 2 ^ k := Int.ediv_nonneg hs (Int.le_of_lt (Int.pow_pos (by omega)))
      cases e : bit k
      case false =>
        have hb' : (s / 2 ^ k % 2 == 0) = true := by simpa [e] using hb
        have HN : Hid (CHs w l bit (k + 1) (rgtB l bit (k + 1)) wr) := Lib.hid (by
          have h := HR.out
          have e1 : bitsL bit (k + 1) = bitsL bit k := by simp only [bitsL, e]; rfl
          have e2 : rgtB l bit (k + 1) = rgtB l bit k := by simp only [rgtB, e]; rfl
          unfold CHs
          rw [e1, e2]
          exact h)
        clear hb
        go_wp2
        go_roundg (l.length - (k + 1))
        case measure => omega
        case rel => exact ⟨k + 1, by omega, by omega, by go_num, HN.out⟩
      case true =>
        have hb' : (s / 2 ^ k % 2 == 0) = false := by simpa [e] using hb
        have HBK := Lib.hid e
        obtain ⟨x, hx⟩ : ∃ x, l[k]? = some x := ⟨l[k], by simp [hlt]⟩
        have HX := Lib.hid hx
        have hxb := ha.2 x (List.mem_of_getElem? hx)
        have HAX : Hid (adAt l k = x) := Lib.hid (by unfold adAt; rw [Int.toNat_natCast, getD_of hx])
        obtain ⟨b, off, hao, hc⟩ := HEL.out k x hx
        subst hao
        have hlt0 := World.block_lt_of_cell? w ⟨b, off + k * 4 + 0, none⟩ (hc 0 _ rfl)
        have hx1 : w.cell? ⟨b, off + k * 4 + 1, none⟩ = _ := hc 1 _ rfl
        have hx2 : w.cell? ⟨b, off + k * 4 + 2, none⟩ = _ := hc 2 _ rfl
        have hx3 : w.cell? ⟨b, off + k * 4 + 3, none⟩ = _ := hc 3 _ rfl
        have HX1 := Lib.hid hx1
        have HX2 := Lib.hid hx2
        have HX3 := Lib.hid hx3
        have hblk := bitsL_len bit k
        obtain ⟨R, hR⟩ : ∃ R, R = rgtB l bit k := ⟨_, rfl⟩
        have HRB := Lib.hid hR
        rw [← hR] at HR
        clear hb e hx hc hx1 hx2 hx3 hR
        obtain ⟨wo, rfl⟩ : ∃ wo, wo = wr := ⟨_, rfl⟩
        go_wp2
        go_loopg [7, 8] (bitsL bit k).length (fun gg s7 _ wr => ∃ m : Nat, m ≤ (bitsL bit k).length ∧ (bitsL bit k).length - m ≤ gg ∧ s7 = .int .i64 m ∧ Aside (CHs w l bit k (R && !(((bitsL bit k).take m).any fun j => riv l j k)) wr))
        case atStart => exact ⟨0, Nat.zero_le _, by omega, rfl, (show CHs _ _ _ _ _ _ by simpa using HR.out)⟩
        obtain ⟨m, hm, hgm, rfl, HM⟩ := hrel
        have HM' := Lib.hid HM.out
        obtain ⟨vl, h1, h2, h3, h4⟩ := HM.out
        have H1 := Lib.hid h1
        have H2 := Lib.hid h2
        have H3 := Lib.hid h3
        have H4 := Lib.hid h4
        obtain ⟨ao', L', cp', rfl⟩ := Own.slv encI_len h2
        have c0 := (cell_of_block (i := 0) h1).trans rfl
        have c1 := (cell_of_block (i := 1) h1).trans rfl
        have c2 := (cell_of_block (i := 2) h1).trans rfl
        have c3 := (cell_of_block (i := 3) h1).trans rfl
        have z : ∀ i, wr.frozen? ⟨w.heap.size + 1, i, none⟩ = false := fun i => by simp [World.frozen?, h1]
        have z0 := z 0
        have z1 := z 1
        have z2 := z 2
        have z3 := z 3
        have hl0 := lt_of_blk h1
        have x1 := (h4.cell (p := ⟨b, off + k * 4 + 1, none⟩) hlt0).trans HX1.out
        have x2 := (h4.cell (p := ⟨b, off + k * 4 + 2, none⟩) hlt0).trans HX2.out
        have x3 := (h4.cell (p := ⟨b, off + k * 4 + 3, none⟩) hlt0).trans HX3.out
        have hlb : b < wr.heap.size := Nat.lt_of_lt_of_le hlt0 h4.size
        have hL' : Hid (L' = (bitsL bit k).length) := Lib.hid (by
          obtain ⟨_, _, h, _⟩ := Own.sl h2 encI_len
          simp only [Value.slice.injEq] at h
          exact h.2.1)
        obtain rfl : L' = (bitsL bit k).length := hL'.out
        clear hL' z HM
        by_cases hmk : m < (bitsL bit k).length
        · have hmz : (m : Int) < ((bitsL bit k).length : Int) := by omega
          obtain ⟨j, hj⟩ : ∃ j, (bitsL bit k)[m]? = some j := ⟨(bitsL bit k)[m], by simp [hmk]⟩
          have hjr := bitsL_rng bit k j (List.mem_of_getElem? hj)
          obtain ⟨g, cap2, hv, hg1, hg2, hg3, hg4, hgc, _⟩ := h2.getk encI_len (by intro e; rw [e] at hmk; simp at hmk)
          simp only [Value.slice.injEq, true_and] at hv
          obtain ⟨rfl, rfl⟩ := hv
          have cj : wr.cell? ⟨g, m, none⟩ = some (.int .i64 j) := by simpa using hgc m j 0 _ hj rfl
          obtain ⟨n, rfl⟩ := Int.eq_ofNat_of_zero_le hjr.1
          have hnl : n < l.length := by omega
          have hnz : (n : Int) < (l.length : Int) := by omega
          obtain ⟨y, hy⟩ : ∃ y, l[n]? = some y := ⟨l[n], by simp [hnl]⟩
          obtain ⟨b', off', hao', hd⟩ := HEL.out n y hy
          simp only [Option.some.injEq, Addr.mk.injEq, and_true] at hao'
          obtain ⟨rfl, rfl⟩ := hao'
          have y3 : wr.cell? ⟨b, off + n * 4 + 3, none⟩ = some (.string y.ri) := (h4.cell (p := ⟨b, off + n * 4 + 3, none⟩) hlt0).trans (hd 3 _ rfl)
          have HJ := Lib.hid hj
          have HRI : Hid (riv l (n : Int) k = (!x.ri.toList.isEmpty && y.ri.toList == x.ri.toList)) := Lib.hid (by
            unfold riv
            rw [HAX.out]
            unfold adAt
            rw [Int.toNat_natCast, getD_of hy])
          unfold maxLen at hg4
          clear h1 h2 h3 h4 hj hy hd hgc hjr
          have HNX : Hid (∀ (rt : Bool) (W : World), riv l (n : Int) k = rt → CHs w l bit k (if rt then false else R && !(((bitsL bit k).take m).any fun j => riv l j k)) W → CHs w l bit k (R && !(((bitsL bit k).take (m + 1)).any fun j => riv l j k)) W) := Lib.hid (fun rt W h hc => by
            rw [take_next_any HJ.out, h]
            cases rt
            · simpa using hc
            · simpa using hc)
          cases e7 : y.ri.toList.isEmpty
          case true =>
            have e7' : y.ri.toList = [] := by simpa using e7
            have hrf : Hid (riv l (n : Int) k = false) := Lib.hid (by
              rw [HRI.out, e7']
              cases hxe : x.ri.toList with
              | nil => rfl
              | cons a r => rfl)
            have HE := Lib.hid (HNX.out false _ hrf.out HM'.out)
            go_wp2
            go_roundg ((bitsL bit k).length - (m + 1))
            case measure => omega
            case rel => exact ⟨m + 1, by omega, by omega, by go_num, HE.out⟩
          have e7' : ¬ y.ri.toList = [] := by simpa using e7
          cases e8 : (y.ri.toList == x.ri.toList)
          case false =>
            have HE := Lib.hid (HNX.out false _ (by rw [HRI.out, e8, Bool.and_false]) HM'.out)
            go_wp2
            go_roundg ((bitsL bit k).length - (m + 1))
            case measure => omega
            case rel => exact ⟨m + 1, by omega, by omega, by go_num, HE.out⟩
          case true =>
            have hrt : Hid (riv l (n : Int) k = true) := Lib.hid (by
              have h9 : x.ri.toList = y.ri.toList := (show y.ri.toList = x.ri.toList by simpa using e8).symm
              rw [HRI.out, e8, h9, e7]; rfl)
            have HE := Lib.hid (HNX.out true _ hrt.out ⟨_, heap_setCell_same wr (w.heap.size + 1) 3 _ _ (.bool false) H1.out, ownsRow_setCell_below H2.out (a := ⟨w.heap.size + 1, 3, none⟩) (by simp) _, (Below.heap_setCell wr ⟨w.heap.size + 1, 3, none⟩ (.bool false) _ (by simp)).trans H3.out, H4.out.setCell (Nat.le_succ _) _⟩)
            go_wp2
            go_roundg ((bitsL bit k).length - (m + 1))
            case measure => omega
            case rel => exact ⟨m + 1, by omega, by omega, by go_num, HE.out⟩
        · have hmz : ¬ (m : Int) < ((bitsL bit k).length : Int) := by omega
          obtain rfl : m = (bitsL bit k).length := by omega
          have hsb := sel_bits l ha bit k (by omega)
          have hcn : Hid (((bitsL bit k).length + 1) * 8 ≤ 140737488355328) := Lib.hid (by omega)
          have hRk : Hid (rgtB l bit (k + 1) = (R && !((bitsL bit k).any fun j => riv l j k))) := Lib.hid (by simp only [rgtB, HBK.out, if_true]; rw [HRB.out])
          have hBk : Hid (bitsL bit (k + 1) = bitsL bit k ++ [(k : Int)]) := Lib.hid (by simp only [bitsL, HBK.out, if_true])
          rw [List.take_length] at HM' H1 c3
          have hxl := hxb.1
          have hxv := hxb.2
          obtain ⟨hsb1, hsb2⟩ := hsb
          clear h1 h2 h3 h4 hxb
          go_upto_region 13 with (at_builtin; refine wpList_push rfl _ _ 23 rfl slI rfl rfl (k : Int) rfl rfl rfl H2.out (by simp) hcn.out (by omega) ?_; intro v5 w5 ho5 hb5; obtain ⟨ao5, L5, cp5, rfl⟩ := Own.slv encI_len ho5; have hk1 := (hb5.block (w.heap.size + 1) (by omega)).trans H1.out; have HK1 := Lib.hid hk1; have p0 := (cell_of_block (i := 0) hk1).trans rfl; have y0 : w5.frozen? ⟨w.heap.size + 1, 0, none⟩ = false := (by simp [World.frozen?, hk1]); have hl5 := lt_of_blk hk1; have HO5 := Lib.hid ho5; have HB5 := Lib.hid hb5; clear ho5 hb5 hk1)
          obtain ⟨w6, hw6⟩ : ∃ w6, w6 = w5.setCell ⟨w.heap.size + 1, 0, none⟩ (.slice ao5 L5 cp5) := ⟨_, rfl⟩
          have hk6 := heap_setCell_same w5 (w.heap.size + 1) 0 _ _ (.slice ao5 L5 cp5) HK1.out
          rw [← hw6] at hk6
          replace hk6 : w6.heap[w.heap.size + 1]? = some (.cells #[.slice ao5 L5 cp5, .int .i64 (selL l (bitsL bit k)), .int .i64 (selV l (bitsL bit k)), .bool (R && !((bitsL bit k).any fun j => riv l j k)), .bool false] 45 (0, 0)) := hk6
          have HO6 : Hid (Own w6 (w.heap.size + 2) 3 1 encI (.slice ao5 L5 cp5) (bitsL bit k ++ [(k : Int)])) := Lib.hid (by rw [hw6]; exact ownsRow_setCell_below HO5.out (a := ⟨w.heap.size + 1, 0, none⟩) (by simp) _)
          have HB6 : Hid (Below (w.heap.size + 1) wr w6) := Lib.hid (by rw [hw6]; exact (HB5.out.mono (B' := w.heap.size + 1) (Nat.le_succ _)).setCell (Nat.le_refl _) _)
          rw [← hw6]
          have q1 := (cell_of_block (i := 1) hk6).trans rfl
          have q2 := (cell_of_block (i := 2) hk6).trans rfl
          have g1 : w6.frozen? ⟨w.heap.size + 1, 1, none⟩ = false := by simp [World.frozen?, hk6]
          have g2 : w6.frozen? ⟨w.heap.size + 1, 2, none⟩ = false := by simp [World.frozen?, hk6]
          have hl6 := lt_of_blk hk6
          have hb1 : b < w.heap.size := hlt0
          have t1 := (HB6.out.cell (p := ⟨b, off + k * 4 + 1, none⟩) (Nat.lt_succ_of_lt hb1)).trans x1
          have t2 := (HB6.out.cell (p := ⟨b, off + k * 4 + 2, none⟩) (Nat.lt_succ_of_lt hb1)).trans x2
          have HK6 := Lib.hid hk6
          have s1 : IntKind.i64.wrap (selL l (bitsL bit k) + x.ln) = selL l (bitsL bit k) + x.ln := IntWalk.i64_in _ (by omega)
          have s2 : IntKind.i64.wrap (selV l (bitsL bit k) + x.va) = selV l (bitsL bit k) + x.va := IntWalk.i64_in _ (by omega)
          have hne : b ≠ w.heap.size + 1 := by omega
          clear hw6 hk6 p0 y0 HK1 HO5 HB5 hl5 c0 c1 c2 c3 z0 z1 z2 z3 x1 x2 x3 hl0 hlb H2
          go_region
          go_wp2
          obtain ⟨w7, hw7⟩ : ∃ w7, w7 = (w6.setCell ⟨w.heap.size + 1, 1, none⟩ (.int .i64 (selL l (bitsL bit k) + x.ln))).drew := ⟨_, rfl⟩
          have hk7 := heap_setCell_same w6 (w.heap.size + 1) 1 _ _ (.int .i64 (selL l (bitsL bit k) + x.ln)) HK6.out
          replace hk7 : w7.heap[w.heap.size + 1]? = some (.cells #[.slice ao5 L5 cp5, .int .i64 (selL l (bitsL bit k) + x.ln), .int .i64 (selV l (bitsL bit k)), .bool (R && !((bitsL bit k).any fun j => riv l j k)), .bool false] 45 (0, 0)) := by rw [hw7]; exact hk7
          have HO7 : Hid (Own w7 (w.heap.size + 2) 3 1 encI (.slice ao5 L5 cp5) (bitsL bit k ++ [(k : Int)])) := Lib.hid (by rw [hw7]; exact ownsRow_setCell_below (w := w6) HO6.out (a := ⟨w.heap.size + 1, 1, none⟩) (by simp) _)
          have HB7 : Hid (Below (w.heap.size + 1) wr w7) := Lib.hid (by rw [hw7]; exact (HB6.out.setCell (Nat.le_refl _) _).drew)
          rw [← hw7]
          have r2 := (cell_of_block (i := 2) hk7).trans rfl
          have g7 : w7.frozen? ⟨w.heap.size + 1, 2, none⟩ = false := by simp [World.frozen?, hk7]
          have hl7 := lt_of_blk hk7
          have u2 := (HB7.out.cell (p := ⟨b, off + k * 4 + 2, none⟩) (Nat.lt_succ_of_lt hb1)).trans (by exact (HB6.out.cell (p := ⟨b, off + k * 4 + 2, none⟩) (Nat.lt_succ_of_lt hb1)).symm.trans t2)
          have HK7 := Lib.hid hk7
          clear hw7 hk7 q1 q2 g1 g2 t1 t2
          go_region
          have hk8 := heap_setCell_same w7 (w.heap.size + 1) 2 _ _ (.int .i64 (selV l (bitsL bit k) + x.va)) HK7.out
          have HE : Hid (CHs w l bit (k + 1) (rgtB l bit (k + 1)) (w7.setCell ⟨w.heap.size + 1, 2, none⟩ (.int .i64 (selV l (bitsL bit k) + x.va))).drew) := Lib.hid (by
            unfold CHs
            rw [hBk.out, hRk.out, selL_snoc, selV_snoc, HAX.out]
            exact ⟨_, hk8, ownsRow_setCell_below (w := w7) HO7.out (a := ⟨w.heap.size + 1, 2, none⟩) (by simp) _, (Below.heap_setCell w7 ⟨w.heap.size + 1, 2, none⟩ _ _ (by simp)).trans ((HB7.out.block w.heap.size (by omega)).trans H3.out), ((H4.out.trans (HB7.out.mono (Nat.le_succ _))).setCell (Nat.le_succ _) _).drew⟩)
          clear hk8
          go_wp2
          go_roundg (l.length - (k + 1))
          case measure => omega
          case rel => exact ⟨k + 1, by omega, by omega, by go_num, HE.out⟩
    · obtain rfl : k = l.length := by omega
      obtain ⟨vl, h1, h2, h3, h4⟩ := HR.out
      obtain ⟨ao', L', cp', rfl⟩ := Own.slv encI_len h2
      have c0 := (cell_of_block (i := 0) h1).trans rfl
      have c1 := (cell_of_block (i := 1) h1).trans rfl
      have c2 := (cell_of_block (i := 2) h1).trans rfl
      have c3 := (cell_of_block (i := 3) h1).trans rfl
      have c4 := (cell_of_block (i := 4) h1).trans rfl
      have H2 := Lib.hid h2
      have H4 := Lib.hid h4
      have hl0 := lt_of_blk h1
      have hl1 := lt_of_blk h3
      have d0 := (cell_of_block (i := 0) h3).trans rfl
      have d1 := (cell_of_block (i := 1) h3).trans rfl
      have d2 := (cell_of_block (i := 2) h3).trans rfl
      have d3 := (cell_of_block (i := 3) h3).trans rfl
      have d4 := (cell_of_block (i := 4) h3).trans rfl
      have z : ∀ i, wr.frozen? ⟨w.heap.size, i, none⟩ = false := fun i => by simp [World.frozen?, h3]
      have z0 := z 0
      have z1 := z 1
      have z2 := z 2
      have z3 := z 3
      have z4 := z 4
      clear h1 h2 h3 h4 z HC0 HEL HBIT
      go_wp2
      exact bodyPost_ret (v := .agg #[.slice ao' L' cp', .int .i64 (selL l (bitsL bit l.length)), .int .i64 (selV l (bitsL bit l.length)), .bool (rgtB l bit l.length), .bool false]) (by simp [results, Try.results15, go_sem, d0, d1, d2, d3, d4]) rfl
        ⟨_, rfl, ownsRow_setCell_below (ownsRow_setCell_below (ownsRow_setCell_below (ownsRow_setCell_below (ownsRow_setCell_below H2.out (by simp) _) (by simp) _) (by simp) _) (by simp) _) (by simp) _,
          ((((H4.out.setCell (Nat.le_refl _) _).setCell (Nat.le_refl _) _).setCell (Nat.le_refl _) _).setCell (Nat.le_refl _) _).setCell (Nat.le_refl _) _⟩
end Go.Proofs.Ytaajjngfmaiicaa

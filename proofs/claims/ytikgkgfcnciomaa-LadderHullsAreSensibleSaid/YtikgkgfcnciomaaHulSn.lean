/- LadderHullsAreSensible: the walk of the law. -/
import Derived.Test.YtikgkgfcnciomaaHulS
import Derived.Test.YtikgkgfcnciomaaCtI
import Derived.Test.YtikgkgfcnciomaaAwk5
namespace Go.Proofs.Ytikgkgfcnciomaa
open Go.RowKit

def risB (a b c : Rng) : Bool := decide ((b.qu - a.qu) * (c.ra - b.ra) ≤ (c.qu - b.qu) * (b.ra - a.ra))
set_option maxHeartbeats 1000000 in
theorem rises_any (a b c : Rng) (w : World) (ha : InR a) (hb : InR b) (hc : InR c) :
    Calls Try.prog 16 #[agR a, agR b, agR c] w fun e w' => e = .returned (.bool (risB a b c)) ∧ Below w.heap.size w w' := by
  unfold InR at ha hb hc
  have m1 : IntKind.i64.wrap (c.qu - b.qu) = c.qu - b.qu := IntWalk.i64_in _ (by omega)
  have m2 : IntKind.i64.wrap (b.ra - a.ra) = b.ra - a.ra := IntWalk.i64_in _ (by omega)
  have m3 : IntKind.i64.wrap (b.qu - a.qu) = b.qu - a.qu := IntWalk.i64_in _ (by omega)
  have m4 : IntKind.i64.wrap (c.ra - b.ra) = c.ra - b.ra := IntWalk.i64_in _ (by omega)
  have q1 := mul_bd (a := c.qu - b.qu) (b := b.ra - a.ra) (A := 1000000) (B := 1000000000) (by omega) (by omega) (by omega) (by omega)
  have q2 := mul_bd (a := b.qu - a.qu) (b := c.ra - b.ra) (A := 1000000) (B := 1000000000) (by omega) (by omega) (by omega) (by omega)
  have m5 : IntKind.i64.wrap ((c.qu - b.qu) * (b.ra - a.ra)) = (c.qu - b.qu) * (b.ra - a.ra) := IntWalk.i64_in _ (by omega)
  have m6 : IntKind.i64.wrap ((b.qu - a.qu) * (c.ra - b.ra)) = (b.qu - a.qu) * (c.ra - b.ra) := IntWalk.i64_in _ (by omega)
  have HB := Lib.hid (boxes3 w (boxR a) (boxR b) (boxR c)).2.2.2
  have hv : Hid (decide ((b.qu - a.qu) * (c.ra - b.ra) ≤ (c.qu - b.qu) * (b.ra - a.ra)) = risB a b c) := Lib.hid rfl
  generalize risB a b c = R at hv ⊢
  clear ha hb hc q1 q2
  go_enter Try.func16, Try.ntmps16
  go_wp2
  go_ret
  exact ⟨ret_bool hv.out, HB.out⟩

theorem ris_no {l : List Rng} (h : checkR l = 0) {i j k : Nat} (hij : i < j) (hjk : j < k) (hk : k < (refN l l.length).length) :
    risB (l.getD ((refN l l.length).getD i 0) default) (l.getD ((refN l l.length).getD j 0) default) (l.getD ((refN l l.length).getD k 0) default) = false := by
  have h1 := hul_flat h hij hjk hk
  unfold SLt rA qA at h1
  unfold risB
  rw [decide_eq_false_iff_not]
  omega

set_option maxRecDepth 100000 in
set_option maxHeartbeats 4000000 in
theorem hulSn_any (w : World) (l : List Rng) (u : Value) (hl : Sl w 4 encR u l) (hw : ∀ x, x ∈ l → WfR x) :
    Calls Try.prog 4 #[u] w fun e w' => e = .returned (.bool true) ∧ Below w.heap.size w w' := by
  have h1 := Lib.hid (fun (W : World) (hb : Below w.heap.size w W) => Hull_any W l u (hl.below hb (Nat.le_refl _)) hw)
  have h2 := Lib.hid (fun (W : World) (hb : Below w.heap.size w W) => Sensible_any W l u (hl.below hb (Nat.le_refl _)) hw)
  have HSL := Lib.hid hl
  have HV : Hid (hulR l = if checkR l = 0 then zL (refN l l.length) else []) := Lib.hid (by
    unfold hulR
    split
    · rename_i h; rw [hulN_ref h]
    · rfl)
  have HVS : Hid (senR l = if checkR l = 0 then zL (senN l l.length) else []) := Lib.hid rfl
  have HUP := Lib.hid (fun (h : checkR l = 0) => fun i j h1 h2 => hul_up (i := i) (j := j) h h1 h2)
  have HRS := Lib.hid (fun (h : checkR l = 0) => fun i j k h1 h2 h3 => ris_no (i := i) (j := j) (k := k) h h1 h2 h3)
  have HSN := Lib.hid (fun (h : checkR l = 0) => fun x (hx : x ∈ refN l l.length) => senN_mem l l.length x (refN_mem l l.length x hx) (hul_sen h hx))
  have HIN := Lib.hid (fun (h : checkR l = 0) => inR_of h)
  have HLE := Lib.hid (fun (h : checkR l = 0) => (checkR_zero h).1)
  have HSO := Lib.hid (fun (h : 0 < l.length) => hul_some h)
  have hhl := refN_len l l.length
  have HHM := Lib.hid (refN_mem l l.length)
  obtain ⟨C, hC⟩ : ∃ C, C = checkR l := ⟨_, rfl⟩
  rw [← hC] at h1 h2 HV HVS HUP HRS HSN HIN HLE
  generalize hulR l = H1 at h1 HV
  generalize senR l = S1 at h2 HVS
  generalize refN l l.length = h at HV HUP HRS HSN HSO hhl HHM
  generalize senN l l.length = s at HVS HSN
  clear hC hl hw
  go_enter Try.func4, Try.ntmps4
  go_wp2_with fail
  refine (h1.out _ (Below.refl _ _)).mono ?_
  rintro e w1 ⟨v1, rfl, hs, hb⟩
  have HS1 := Lib.hid hs
  have HB1 := Lib.hid hb
  clear hs hb
  go_wp2_with fail
  refine (h2.out _ HB1.out).mono ?_
  rintro e w2 ⟨v2, rfl, hs, hb⟩
  have HS2 := Lib.hid hs
  have HB2 := Lib.hid (HB1.out.thru hb)
  have HT1 := Lib.hid (HS1.out.below hb (Nat.le_refl _))
  clear hs hb HS1 h1 h2
  go_wp2_with fail
  refine (awake5_any _).mono ?_
  rintro e w3 ⟨rfl, hb⟩
  have HB3 := Lib.hid (HB2.out.thru hb)
  have HT2 := Lib.hid (HS2.out.below hb (Nat.le_refl _))
  have HT3 := Lib.hid (HT1.out.below hb (Nat.le_refl _))
  have hsz3 := HB3.out.size
  clear hb HS2 HT1
  cases e1 : (C != 0)
  case true =>
    have hne : C ≠ 0 := by simpa using e1
    have hnil : H1 = [] := by rw [HV.out, if_neg hne]
    obtain ⟨ao, cap, rfl, hcap, hmax, _, _⟩ := HT3.out
    rw [hnil]
    clear hne hnil
    go_wp2
    go_ret
    exact ⟨rfl, HB3.out⟩
  obtain rfl : C = 0 := by simpa using e1
  have hlen := HLE.out rfl
  have HH : Hid (H1 = zL h) := Lib.hid (by rw [HV.out]; rfl)
  have HSS : Hid (S1 = zL s) := Lib.hid (by rw [HVS.out]; rfl)
  have UP := Lib.hid (HUP.out rfl)
  have RS := Lib.hid (HRS.out rfl)
  have SN := Lib.hid (HSN.out rfl)
  have IN := Lib.hid (HIN.out rfl)
  rw [HH.out] at HT3
  rw [HSS.out] at HT2
  obtain ⟨ao, cap, rfl, hcap, hmax, _, hel⟩ := HSL.out
  unfold maxLen at hmax
  have HEL := Lib.hid hel
  obtain ⟨ho, hcp, rfl, hhcap, hhmax, _, hhel⟩ := HT3.out
  rw [zL_len] at hhcap ⊢
  unfold maxLen at hhmax
  have HHE := Lib.hid hhel
  clear e1 hel hhel HV HVS HUP HRS HSN HIN HLE HH HSS
  obtain ⟨wq, rfl⟩ : ∃ wq, wq = w3 := ⟨_, rfl⟩
  go_wp2
  go_loopg [33] h.length (fun gg s33 wr => ∃ j : Nat, j ≤ h.length ∧ h.length - j ≤ gg ∧ s33 = .int .i64 j ∧ Aside (Below wq.heap.size wq wr))
  case atStart => exact ⟨0, Nat.zero_le _, by omega, rfl, Below.refl _ wq⟩
  obtain ⟨j, hj, hg, rfl, BW⟩ := hrel
  by_cases hlt : j < h.length
  · have hltz : (j : Int) < (h.length : Int) := by omega
    obtain ⟨n, hn⟩ : ∃ n, n = h.getD j 0 := ⟨_, rfl⟩
    have hnm : n ∈ h := mem_getD.2 ⟨j, hlt, hn.symm⟩
    have hnl : n < l.length := HHM.out n hnm
    obtain ⟨bc, offc, hao, hd⟩ := HHE.out j (n : Int) (by rw [hn]; exact zL_get hlt)
    subst hao
    have e1 : wq.cell? ⟨bc, offc + j, none⟩ = some (.int .i64 (n : Int)) := by have := hd 0 _ rfl; simpa using this
    have hbc := World.block_lt_of_cell? wq _ e1
    have cn := (BW.out.cell (p := ⟨bc, offc + j, none⟩) hbc).trans e1
    have HN := Lib.hid hn
    have HCT := Lib.hid (containsI_yes wr (zL s) _ (n : Int) (HT2.out.below BW.out (Nat.le_refl _)) (by unfold zL; exact List.mem_map.2 ⟨n, SN.out n hnm, rfl⟩))
    have HBWr := Lib.hid BW.out
    clear hd e1 hnm BW hn
    go_wp2_with fail
    refine HCT.out.mono ?_
    rintro e w4 ⟨rfl, hb⟩
    have HBQ := Lib.hid (HBWr.out.thru hb)
    have HB4 := Lib.hid (HB3.out.thru HBQ.out)
    have hsz4 := HBQ.out.size
    clear hb HCT cn
    obtain ⟨x, hx⟩ : ∃ x, l[n]? = some x := ⟨l[n], by simp [hnl]⟩
    obtain ⟨b, off, hao, hc⟩ := HEL.out n x hx
    subst hao
    have hblt : b < w.heap.size := World.block_lt_of_cell? w ⟨b, off + n * 4 + 0, none⟩ (hc 0 _ rfl)
    have x0 : w4.cell? ⟨b, off + n * 4, none⟩ = some (.string x.na) := (HB4.out.cell (p := ⟨b, off + n * 4 + 0, none⟩) hblt).trans (hc 0 _ rfl)
    have x1 := (HB4.out.cell (p := ⟨b, off + n * 4 + 1, none⟩) hblt).trans (hc 1 _ rfl)
    have x2 := (HB4.out.cell (p := ⟨b, off + n * 4 + 2, none⟩) hblt).trans (hc 2 _ rfl)
    have x3 := (HB4.out.cell (p := ⟨b, off + n * 4 + 3, none⟩) hblt).trans (hc 3 _ rfl)
    have hnz : (n : Int) < (l.length : Int) := by omega
    have hbw : b < w4.heap.size := by have := HB4.out.size; omega
    have HGX : Hid (l.getD n default = x) := Lib.hid (getD_of hx)
    have HIX := Lib.hid (IN.out x (List.mem_of_getElem? hx))
    clear hx hc
    go_upto_region 12 with (fail)
    go_cut [77] (fun s77 w5 => s77 = .bool false ∧ ∃ k, w5 = w4.drewN k)
    case first =>
      by_cases h0 : 0 < j
      · obtain ⟨q, hq⟩ : ∃ q, q = h.getD (j - 1) 0 := ⟨_, rfl⟩
        have hql : q < l.length := HHM.out q (mem_getD.2 ⟨j - 1, by omega, hq.symm⟩)
        obtain ⟨bc', offc', hao, hd⟩ := HHE.out (j - 1) (q : Int) (by rw [hq]; exact zL_get (by omega))
        simp only [Option.some.injEq, Addr.mk.injEq, and_true] at hao
        obtain ⟨rfl, rfl⟩ := hao
        have e2 : wq.cell? ⟨bc, offc + (j - 1), none⟩ = some (.int .i64 (q : Int)) := by have := hd 0 _ rfl; simpa using this
        have cq := (HBQ.out.cell (p := ⟨bc, offc + (j - 1), none⟩) hbc).trans e2
        obtain ⟨y, hy⟩ : ∃ y, l[q]? = some y := ⟨l[q], by simp [hql]⟩
        obtain ⟨b', off', hao', hc'⟩ := HEL.out q y hy
        simp only [Option.some.injEq, Addr.mk.injEq, and_true] at hao'
        obtain ⟨rfl, rfl⟩ := hao'
        have y1 := (HB4.out.cell (p := ⟨b, off + q * 4 + 1, none⟩) hblt).trans (hc' 1 _ rfl)
        have y3 := (HB4.out.cell (p := ⟨b, off + q * 4 + 3, none⟩) hblt).trans (hc' 3 _ rfl)
        have hup := UP.out (j - 1) j (by omega) hlt
        rw [← HN.out, ← hq] at hup
        unfold rA qA at hup
        rw [HGX.out, getD_of hy] at hup
        have d1 : decide (x.ra ≤ y.ra) = false := decide_eq_false (by omega)
        have d2 : decide (x.qu ≤ y.qu) = false := decide_eq_false (by omega)
        have d0 : decide ((0 : Int) < (j : Int)) = true := decide_eq_true (by omega)
        have dn0 : decide (0 < j) = true := decide_eq_true h0
        have dn1 : 0 < j := h0
        have d0' : (0 : Int) < (j : Int) := by omega
        have m2 : IntKind.i64.wrap ((j : Int) - 1) = (j : Int) - 1 := IntWalk.i64_in _ (by omega)
        have m4 : ((j : Int) - 1).toNat = j - 1 := by omega
        have m6 : (0 : Int) ≤ (j : Int) - 1 := by omega
        have m8 : (j : Int) - 1 < (h.length : Int) := by omega
        have m10 : (1 : Int) ≤ (j : Int) := by omega
        have hqz : (q : Int) < (l.length : Int) := by omega
        have hbq : bc < w4.heap.size := by omega
        clear hq hd e2 hy hc' hup h0
        go_quiet (fail)
        go_wp2
        go_meet
        exact ⟨rfl, _, rfl⟩
      · have d0 : decide ((0 : Int) < (j : Int)) = false := decide_eq_false (by omega)
        have dn0 : decide (0 < j) = false := decide_eq_false h0
        clear h0
        have hund : undef = Value.tuple #[] := rfl
        go_quiet (fail)
        go_wp2
        go_meet
        exact ⟨rfl, _, rfl⟩
    obtain ⟨rfl, kq, rfl⟩ := hcut
    obtain ⟨w6, hw6⟩ : ∃ w6, w6 = w4.drewN kq := ⟨_, rfl⟩
    have HB6 : Hid (Below wq.heap.size wq w6) := Lib.hid (by rw [hw6]; exact below_drewN HBQ.out _)
    have x0 : w6.cell? ⟨b, off + n * 4, none⟩ = some (.string x.na) := by rw [hw6]; exact x0
    have x1 : w6.cell? ⟨b, off + n * 4 + 1, none⟩ = some (.int .i64 x.ra) := by rw [hw6]; exact x1
    have x2 : w6.cell? ⟨b, off + n * 4 + 2, none⟩ = some (.int .i64 x.he) := by rw [hw6]; exact x2
    have x3 : w6.cell? ⟨b, off + n * 4 + 3, none⟩ = some (.int .i64 x.qu) := by rw [hw6]; exact x3
    have HW6 : Hid (Below w4.heap.size w4 w6) := Lib.hid (by rw [hw6]; exact below_drewN (Below.refl _ _) _)
    have hbw6 : b < w6.heap.size := by have := HW6.out.size; omega
    have HBW6 := Lib.hid (HB3.out.thru HB6.out)
    rw [← hw6]
    clear hw6 hbw
    go_upto_region 14 with (fail)
    go_cut [102] (fun s102 w5 => s102 = .bool false ∧ Aside (Below w6.heap.size w6 w5))
    case first =>
      by_cases h0 : 1 < j
      · obtain ⟨q, hq⟩ : ∃ q, q = h.getD (j - 1) 0 := ⟨_, rfl⟩
        obtain ⟨p, hp⟩ : ∃ p, p = h.getD (j - 2) 0 := ⟨_, rfl⟩
        have hql : q < l.length := HHM.out q (mem_getD.2 ⟨j - 1, by omega, hq.symm⟩)
        have hpl : p < l.length := HHM.out p (mem_getD.2 ⟨j - 2, by omega, hp.symm⟩)
        obtain ⟨bc', offc', hao, hd⟩ := HHE.out (j - 1) (q : Int) (by rw [hq]; exact zL_get (by omega))
        simp only [Option.some.injEq, Addr.mk.injEq, and_true] at hao
        obtain ⟨rfl, rfl⟩ := hao
        obtain ⟨bc', offc', hao, hf⟩ := HHE.out (j - 2) (p : Int) (by rw [hp]; exact zL_get (by omega))
        simp only [Option.some.injEq, Addr.mk.injEq, and_true] at hao
        obtain ⟨rfl, rfl⟩ := hao
        have e2 : wq.cell? ⟨bc, offc + (j - 1), none⟩ = some (.int .i64 (q : Int)) := by have := hd 0 _ rfl; simpa using this
        have e3 : wq.cell? ⟨bc, offc + (j - 2), none⟩ = some (.int .i64 (p : Int)) := by have := hf 0 _ rfl; simpa using this
        have cq := (HB6.out.cell (p := ⟨bc, offc + (j - 1), none⟩) hbc).trans e2
        have cp := (HB6.out.cell (p := ⟨bc, offc + (j - 2), none⟩) hbc).trans e3
        obtain ⟨y, hy⟩ : ∃ y, l[q]? = some y := ⟨l[q], by simp [hql]⟩
        obtain ⟨z, hz⟩ : ∃ y, l[p]? = some y := ⟨l[p], by simp [hpl]⟩
        obtain ⟨b', off', hao', hc'⟩ := HEL.out q y hy
        simp only [Option.some.injEq, Addr.mk.injEq, and_true] at hao'
        obtain ⟨rfl, rfl⟩ := hao'
        obtain ⟨b', off', hao', hg'⟩ := HEL.out p z hz
        simp only [Option.some.injEq, Addr.mk.injEq, and_true] at hao'
        obtain ⟨rfl, rfl⟩ := hao'
        have y0 : w6.cell? ⟨b, off + q * 4, none⟩ = some (.string y.na) := (HBW6.out.cell (p := ⟨b, off + q * 4 + 0, none⟩) hblt).trans (hc' 0 _ rfl)
        have y1 := (HBW6.out.cell (p := ⟨b, off + q * 4 + 1, none⟩) hblt).trans (hc' 1 _ rfl)
        have y2 := (HBW6.out.cell (p := ⟨b, off + q * 4 + 2, none⟩) hblt).trans (hc' 2 _ rfl)
        have y3 := (HBW6.out.cell (p := ⟨b, off + q * 4 + 3, none⟩) hblt).trans (hc' 3 _ rfl)
        have z0 : w6.cell? ⟨b, off + p * 4, none⟩ = some (.string z.na) := (HBW6.out.cell (p := ⟨b, off + p * 4 + 0, none⟩) hblt).trans (hg' 0 _ rfl)
        have z1 := (HBW6.out.cell (p := ⟨b, off + p * 4 + 1, none⟩) hblt).trans (hg' 1 _ rfl)
        have z2 := (HBW6.out.cell (p := ⟨b, off + p * 4 + 2, none⟩) hblt).trans (hg' 2 _ rfl)
        have z3 := (HBW6.out.cell (p := ⟨b, off + p * 4 + 3, none⟩) hblt).trans (hg' 3 _ rfl)
        have hri := RS.out (j - 2) (j - 1) j (by omega) (by omega) hlt
        rw [← HN.out, ← hq, ← hp, HGX.out, getD_of hy, getD_of hz] at hri
        have HRI := Lib.hid (fun W => rises_any z y x W (IN.out _ (List.mem_of_getElem? hz)) (IN.out _ (List.mem_of_getElem? hy)) HIX.out)
        rw [hri] at HRI
        have d0 : decide ((1 : Int) < (j : Int)) = true := decide_eq_true (by omega)
        have dn0 : decide (1 < j) = true := decide_eq_true h0
        have dn1 : 1 < j := h0
        have d0' : (1 : Int) < (j : Int) := by omega
        have m2 : IntKind.i64.wrap ((j : Int) - 1) = (j : Int) - 1 := IntWalk.i64_in _ (by omega)
        have m3 : IntKind.i64.wrap ((j : Int) - 2) = (j : Int) - 2 := IntWalk.i64_in _ (by omega)
        have m4 : ((j : Int) - 1).toNat = j - 1 := by omega
        have m5 : ((j : Int) - 2).toNat = j - 2 := by omega
        have m6 : (0 : Int) ≤ (j : Int) - 1 := by omega
        have m7 : (0 : Int) ≤ (j : Int) - 2 := by omega
        have m8 : (j : Int) - 1 < (h.length : Int) := by omega
        have m9 : (j : Int) - 2 < (h.length : Int) := by omega
        have m10 : (1 : Int) ≤ (j : Int) := by omega
        have m11 : (2 : Int) ≤ (j : Int) := by omega
        have hqz : (q : Int) < (l.length : Int) := by omega
        have hpz : (p : Int) < (l.length : Int) := by omega
        have hbq : bc < w6.heap.size := by have := HW6.out.size; omega
        have hbk : Below w6.heap.size w6 w6.drew := (Below.refl _ w6).drew
        clear hq hp hd hf e2 e3 hy hz hc' hg' hri h0
        go_region_held3 (fun W => W.cell? ⟨bc, offc + (j - 2), none⟩ = some (.int .i64 p) ∧ W.cell? ⟨bc, offc + (j - 1), none⟩ = some (.int .i64 q)
            ∧ W.cell? ⟨b, off + p * 4, none⟩ = some (.string z.na) ∧ W.cell? ⟨b, off + p * 4 + 1, none⟩ = some (.int .i64 z.ra) ∧ W.cell? ⟨b, off + p * 4 + 2, none⟩ = some (.int .i64 z.he) ∧ W.cell? ⟨b, off + p * 4 + 3, none⟩ = some (.int .i64 z.qu)
            ∧ W.cell? ⟨b, off + q * 4, none⟩ = some (.string y.na) ∧ W.cell? ⟨b, off + q * 4 + 1, none⟩ = some (.int .i64 y.ra) ∧ W.cell? ⟨b, off + q * 4 + 2, none⟩ = some (.int .i64 y.he) ∧ W.cell? ⟨b, off + q * 4 + 3, none⟩ = some (.int .i64 y.qu)
            ∧ W.cell? ⟨b, off + n * 4, none⟩ = some (.string x.na) ∧ W.cell? ⟨b, off + n * 4 + 1, none⟩ = some (.int .i64 x.ra) ∧ W.cell? ⟨b, off + n * 4 + 2, none⟩ = some (.int .i64 x.he) ∧ W.cell? ⟨b, off + n * 4 + 3, none⟩ = some (.int .i64 x.qu))
          (first | exact ⟨(hbk.cell (p := ⟨bc, offc + (j - 2), none⟩) hbq).trans cp, (hbk.cell (p := ⟨bc, offc + (j - 1), none⟩) hbq).trans cq,
              (hbk.cell (p := ⟨b, off + p * 4, none⟩) hbw6).trans z0, (hbk.cell (p := ⟨b, off + p * 4 + 1, none⟩) hbw6).trans z1, (hbk.cell (p := ⟨b, off + p * 4 + 2, none⟩) hbw6).trans z2, (hbk.cell (p := ⟨b, off + p * 4 + 3, none⟩) hbw6).trans z3,
              (hbk.cell (p := ⟨b, off + q * 4, none⟩) hbw6).trans y0, (hbk.cell (p := ⟨b, off + q * 4 + 1, none⟩) hbw6).trans y1, (hbk.cell (p := ⟨b, off + q * 4 + 2, none⟩) hbw6).trans y2, (hbk.cell (p := ⟨b, off + q * 4 + 3, none⟩) hbw6).trans y3,
              (hbk.cell (p := ⟨b, off + n * 4, none⟩) hbw6).trans x0, (hbk.cell (p := ⟨b, off + n * 4 + 1, none⟩) hbw6).trans x1, (hbk.cell (p := ⟨b, off + n * 4 + 2, none⟩) hbw6).trans x2, (hbk.cell (p := ⟨b, off + n * 4 + 3, none⟩) hbw6).trans x3⟩ | fail "keep")
          (first | (go_at_call 16; ((with_reducible refine (HRI.out _).mono ?_); rintro e w' ⟨rfl, hb⟩; replace hbk := hbk.thru hb; clear hb)) | fail "arms")
        all_goals
          go_wp2
          go_meet
          exact ⟨rfl, hbk⟩
      · have d0 : decide ((1 : Int) < (j : Int)) = false := decide_eq_false (by omega)
        have dn0 : decide (1 < j) = false := decide_eq_false h0
        clear h0
        go_quiet (fail)
        go_wp2
        go_meet
        exact ⟨rfl, below_drewN (Below.refl _ _) _⟩
    obtain ⟨rfl, HC⟩ := hcut
    have HBE := Lib.hid (HB6.out.thru HC.out)
    clear HC x0 x1 x2 x3
    go_wp2
    go_roundg (h.length - (j + 1))
    case measure => omega
    case rel => exact ⟨j + 1, by omega, by omega, by go_num, HBE.out⟩
  · obtain rfl : j = h.length := by omega
    have HBE := Lib.hid (HB3.out.thru BW.out)
    by_cases hp : 0 < h.length
    · have d0 : decide ((0 : Int) < (h.length : Int)) = true := decide_eq_true (by omega)
      have d1 : (0 : Int) < (h.length : Int) := by omega
      have hne : ¬ h = [] := fun e => by rw [e] at hp; simp at hp
      go_wp2
      go_ret
      exact ⟨rfl, HBE.out⟩
    · have hl0 : l.length = 0 := by
        rcases Nat.eq_zero_or_pos l.length with e | e
        · exact e
        · exact absurd (HSO.out e) hp
      have d0 : decide ((0 : Int) < (h.length : Int)) = false := decide_eq_false (by omega)
      have hl0' : ((l.length : Int) == 0) = true := by simpa using hl0
      have hne : h = [] := List.length_eq_zero_iff.1 (by omega)
      subst hne
      clear hl0 hp d0
      go_wp2
      go_ret
      exact ⟨rfl, HBE.out⟩
end Go.Proofs.Ytikgkgfcnciomaa

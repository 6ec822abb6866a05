/- Hull and Sensible of the program. -/
import Derived.Test.YtikgkgfcnciomaaHulB
import Derived.Test.YtikgkgfcnciomaaRen
import Derived.Test.YtikgkgfcnciomaaSen
namespace Go.Proofs.Ytikgkgfcnciomaa
open Go.RowKit

theorem infoRg : (Try.prog.info? 33).map (fun i => (i.zero, i.size, i.bytes)) = some (some (.agg #[.string ⟨#[]⟩, .int .i64 0, .int .i64 0, .int .i64 0]), 4, 40) := by kernel_rfl
theorem slRg : SlT Try.prog 22 33 4 40 := by
  obtain ⟨i0, hi, hz0, hz1, hz2⟩ := info_parts infoRg
  exact ⟨i0, _, Try.underlying22, hi, hz0, hz1, hz2, rfl, by decide, by decide⟩

/-- The corners that are returned. -/
def hulR (l : List Rng) : List Int := if checkR l = 0 then zL (hulN l) else []
/-- The sensible ones of the first i. -/
def senN (l : List Rng) : Nat → List Nat
  | 0 => []
  | i + 1 => if senB l (l.getD i default) = true then senN l i ++ [i] else senN l i
def senR (l : List Rng) : List Int := if checkR l = 0 then zL (senN l l.length) else []
theorem senN_len (l : List Rng) : ∀ i, (senN l i).length ≤ i
  | 0 => by simp [senN]
  | i + 1 => by
    have ih := senN_len l i
    unfold senN
    split
    · rw [List.length_append]; simp; exact ih
    · omega
theorem ptA_len (l : List Rng) (j : Nat) : (((bst l l.length).take j).map fun i => l.getD i default).length ≤ j := by simp; omega
theorem hullN_mem {p : List Rng} {k : Nat} (h : k ∈ hullN p) : k < p.length := chain_mem _ _ _ _ (incs_mem _ _ _ h)
theorem hullN_len (p : List Rng) : (hullN p).length ≤ p.length := incs_len _ _ _ (chain_len _ _ _)
theorem inR_of {l : List Rng} (h : checkR l = 0) : ∀ x, x ∈ l → InR x := fun x hx => by
  have := (checkR_zero h).2.2 x hx
  exact ⟨by omega, by omega⟩
theorem pts_in {l : List Rng} (h : checkR l = 0) : ∀ x, x ∈ ptsL l → InR x := fun x hx => by
  unfold ptsL at hx
  obtain ⟨i, hi, rfl⟩ := List.mem_map.1 hx
  have hi := bst_mem l _ i hi
  rw [getD_of (List.getElem?_eq_getElem hi)]
  exact inR_of h _ (List.getElem_mem _)

set_option maxRecDepth 100000 in
set_option maxHeartbeats 4000000 in
theorem Hull_any (w : World) (l : List Rng) (v : Value) (hl : Sl w 4 encR v l) (hw : ∀ x, x ∈ l → WfR x) :
    Calls Try.prog 12 #[v] w (SlPost w 1 encI (hulR l) (checkR l)) := by
  have HC := Lib.hid (checkRen_any w l v hl hw)
  have HV : Hid (hulR l = if checkR l = 0 then zL ((hullN (ptsL l)).map fun k => (bst l l.length).getD k 0) else []) := Lib.hid rfl
  have HZ := Lib.hid (fun (h : checkR l = 0) => (checkR_zero h).1)
  have HPI := Lib.hid (fun (h : checkR l = 0) => pts_in h)
  have HSL := Lib.hid hl
  obtain ⟨C, hC⟩ : ∃ C, C = checkR l := ⟨_, rfl⟩
  rw [← hC] at HC HZ HV HPI ⊢
  generalize hulR l = RL at HV ⊢
  clear hC hw hl
  cases e1 : (C != 0)
  case true =>
    have hne : C ≠ 0 := by simpa using e1
    have hv2 : Hid (RL = []) := Lib.hid (by rw [HV.out, if_neg hne])
    clear hne
    go_enter Try.func12, Try.ntmps12
    go_wp2_with (go_at_call 9; refine HC.out.mono ?_; rintro e w1 ⟨rfl, hb⟩)
    go_ret2
    exact SlPost.mk rfl (by rw [hv2.out]; exact Sl.nil) hb
  obtain rfl : C = 0 := by simpa using e1
  have hlen := HZ.out rfl
  have HPP := Lib.hid (HPI.out rfl)
  have HRL : Hid (RL = zL ((hullN (ptsL l)).map fun k => (bst l l.length).getD k 0)) := Lib.hid (by rw [HV.out]; rfl)
  have HB0 := Lib.hid (fun W (hb : Below w.heap.size w W) => best_any W l v (HSL.out.below hb (Nat.le_refl _)) hlen)
  have HPL := Lib.hid (pts_len l)
  have hbl := bst_len l l.length
  have HBM := Lib.hid (bst_mem l l.length)
  have HPT : Hid (ptsL l = (bst l l.length).map fun i => l.getD i default) := Lib.hid rfl
  clear e1 HZ HPI HV
  generalize bst l l.length = own at HRL HB0 HPL hbl HBM HPT
  go_enter Try.func12, Try.ntmps12
  go_wp2_with fail
  refine HC.out.mono ?_
  rintro e w1 ⟨rfl, hb⟩
  have HB1 := Lib.hid hb
  clear hb
  go_wp2_with fail
  refine (HB0.out _ HB1.out).mono ?_
  rintro e w2 ⟨vo, rfl, hs, hb⟩
  have HS2 := Lib.hid hs
  have HB2 := Lib.hid (HB1.out.thru hb)
  clear hb hs
  obtain ⟨oc, ocap, rfl, hocap, homax, _, hoel⟩ := HS2.out
  rw [zL_len] at hocap ⊢
  go_wp2
  unfold maxLen at homax
  have HOE := Lib.hid hoel
  have hsz2 := HB2.out.size
  clear hoel HB0 HC
  obtain ⟨wq, rfl⟩ : ∃ wq, wq = w2 := ⟨_, rfl⟩
  go_loopg [6, 21] own.length (fun gg s6 s21 wr => ∃ j : Nat, j ≤ own.length ∧ own.length - j ≤ gg ∧ s21 = .int .i64 j ∧ Aside (Own wr wq.heap.size 33 4 encR s6 ((own.take j).map fun i => l.getD i default)) ∧ Aside (Below wq.heap.size wq wr))
  case atStart => exact ⟨0, Nat.zero_le _, by omega, rfl, (show Own _ _ _ _ _ _ _ from Own.nil), Below.refl _ wq⟩
  obtain ⟨j, hj, hg, rfl, OW, BW⟩ := hrel
  by_cases hlt : j < own.length
  · have hltz : (j : Int) < (own.length : Int) := by omega
    obtain ⟨q, hq⟩ : ∃ q, q = own.getD j 0 := ⟨_, rfl⟩
    have hql : q < l.length := by rw [hq]; exact HBM.out _ (mem_getD.2 ⟨j, hlt, rfl⟩)
    have hoj : own[j]? = some q := by rw [hq, List.getD_eq_getElem?_getD, List.getElem?_eq_getElem hlt]; rfl
    obtain ⟨bc, offc, hao, hd⟩ := HOE.out j (q : Int) (by rw [hq]; exact zL_get hlt)
    subst hao
    have e1 : wq.cell? ⟨bc, offc + j, none⟩ = some (.int .i64 (q : Int)) := by have := hd 0 _ rfl; simpa using this
    have hbc := World.block_lt_of_cell? wq _ e1
    have cq := (BW.out.cell (p := ⟨bc, offc + j, none⟩) hbc).trans e1
    obtain ⟨x, hx⟩ : ∃ x, l[q]? = some x := ⟨l[q], by simp [hql]⟩
    have hsl := HSL.out
    obtain ⟨ao, cap, rfl, hcap, hmax, _, hel⟩ := hsl
    unfold maxLen at hmax
    obtain ⟨b, off, hao, hc⟩ := hel q x hx
    subst hao
    have hblt : b < w.heap.size := World.block_lt_of_cell? w ⟨b, off + q * 4 + 0, none⟩ (hc 0 _ rfl)
    have HBX := Lib.hid (HB2.out.trans (BW.out.mono hsz2))
    have c0 : wr.cell? ⟨b, off + q * 4, none⟩ = some (.string x.na) := (HBX.out.cell (p := ⟨b, off + q * 4 + 0, none⟩) hblt).trans (hc 0 _ rfl)
    have c1 := (HBX.out.cell (p := ⟨b, off + q * 4 + 1, none⟩) hblt).trans (hc 1 _ rfl)
    have c2 := (HBX.out.cell (p := ⟨b, off + q * 4 + 2, none⟩) hblt).trans (hc 2 _ rfl)
    have c3 := (HBX.out.cell (p := ⟨b, off + q * 4 + 3, none⟩) hblt).trans (hc 3 _ rfl)
    have hqz : (q : Int) < (l.length : Int) := by omega
    have HOW := Lib.hid OW.out
    have HBWj := Lib.hid BW.out
    have hszj := BW.out.size
    have HTK : Hid (((own.take j).map fun i => l.getD i default) ++ [x] = (own.take (j + 1)).map fun i => l.getD i default) := Lib.hid (by rw [take_next hoj, List.map_append]; simp [hx])
    have hcnt : Hid ((((own.take j).map fun i => l.getD i default).length + 1) * 40 ≤ 140737488355328) := Lib.hid (by simp; omega)
    clear hd e1 hc hq OW BW hel hx hoj hbc
    go_wp2_with (at_builtin; refine wpList_push rfl _ _ 22 rfl slRg rfl rfl x rfl rfl rfl HOW.out rfl hcnt.out hszj ?_; intro v5 w5 ho5 hb5; obtain ⟨ao6, L6, cp6, rfl⟩ := Own.slv encR_len ho5; have HO5 := Lib.hid ho5; have HB5 := Lib.hid (HBWj.out.trans hb5); clear ho5 hb5)
    go_roundg (own.length - (j + 1))
    case measure => omega
    case rel => exact ⟨j + 1, by omega, by omega, by go_num, (show Own _ _ _ _ _ _ _ by rw [← HTK.out]; exact HO5.out), HB5.out⟩
  · obtain rfl : j = own.length := by omega
    have HSP := Lib.hid (Own.sl OW.out encR_len)
    rw [List.take_length, ← HPT.out] at HSP
    have HBW := Lib.hid BW.out
    have HHU := Lib.hid (hull_any wr (ptsL l) _ HSP.out HPP.out (by rw [HPL.out]; omega))
    have HHL := hullN_len (ptsL l)
    have HHM := Lib.hid (fun k h => hullN_mem (p := ptsL l) (k := k) h)
    rw [HPL.out] at HHL HHM
    generalize hullN (ptsL l) = hu at HHU HHL HHM HRL
    obtain ⟨sp, Lp, cp, rfl⟩ := Own.slv encR_len OW.out
    clear OW BW HPT HPP HPL HSP HBM
    go_wp2_with (go_at_call 29; refine HHU.out.mono ?_; rintro e w3 ⟨vh, rfl, hs, hb⟩; have HS3 := Lib.hid hs; have HB3 := Lib.hid (HBW.out.thru hb); obtain ⟨ho, hcap, rfl, hhcap, hhmax, _, hhel⟩ := hs; rw [zL_len] at hhcap ⊢; clear hb)
    unfold maxLen at hhmax
    have HHE := Lib.hid hhel
    have HBF := Lib.hid (HB2.out.thru HB3.out)
    have hszf := HBF.out.size
    clear hhel HHU
    obtain ⟨wp, rfl⟩ : ∃ wp, wp = w3 := ⟨_, rfl⟩
    go_loopg [9, 36] hu.length (fun gg s9 s36 wr => ∃ j : Nat, j ≤ hu.length ∧ hu.length - j ≤ gg ∧ s36 = .int .i64 j ∧ Aside (Own wr wp.heap.size 3 1 encI s9 (zL ((hu.take j).map fun k => own.getD k 0))) ∧ Aside (Below wp.heap.size wp wr))
    case atStart => exact ⟨0, Nat.zero_le _, by omega, rfl, (show Own _ _ _ _ _ _ (zL []) from Own.nil), Below.refl _ wp⟩
    obtain ⟨j, hj, hg, rfl, OW, BW⟩ := hrel
    by_cases hlt : j < hu.length
    · have hltz : (j : Int) < (hu.length : Int) := by omega
      obtain ⟨q, hq⟩ : ∃ q, q = hu.getD j 0 := ⟨_, rfl⟩
      have hql : q < own.length := by rw [hq]; exact HHM.out _ (mem_getD.2 ⟨j, hlt, rfl⟩)
      have hoj : hu[j]? = some q := by rw [hq, List.getD_eq_getElem?_getD, List.getElem?_eq_getElem hlt]; rfl
      obtain ⟨bc, offc, hao, hd⟩ := HHE.out j (q : Int) (by rw [hq]; exact zL_get hlt)
      subst hao
      have e1 : wp.cell? ⟨bc, offc + j, none⟩ = some (.int .i64 (q : Int)) := by have := hd 0 _ rfl; simpa using this
      have hbc := World.block_lt_of_cell? wp _ e1
      have cq := (BW.out.cell (p := ⟨bc, offc + j, none⟩) hbc).trans e1
      obtain ⟨t, ht⟩ : ∃ t, t = own.getD q 0 := ⟨_, rfl⟩
      obtain ⟨b, off, hao, hc⟩ := HOE.out q (t : Int) (by rw [ht]; exact zL_get hql)
      subst hao
      have e2 : wq.cell? ⟨b, off + q, none⟩ = some (.int .i64 (t : Int)) := by have := hc 0 _ rfl; simpa using this
      have hblt := World.block_lt_of_cell? wq _ e2
      have hszp := HB3.out.size
      have cx := ((HB3.out.trans (BW.out.mono hszp)).cell (p := ⟨b, off + q, none⟩) hblt).trans e2
      have hqz : (q : Int) < (own.length : Int) := by omega
      have HOW := Lib.hid OW.out
      have HBWj := Lib.hid BW.out
      have hszj := BW.out.size
      have HTK : Hid (zL (((hu.take j).map fun k => own.getD k 0) ++ [t]) = zL ((hu.take (j + 1)).map fun k => own.getD k 0)) := Lib.hid (by rw [take_next hoj, List.map_append, ht]; rfl)
      have hcnt : Hid (((zL ((hu.take j).map fun k => own.getD k 0)).length + 1) * 8 ≤ 140737488355328) := Lib.hid (by rw [zL_len]; simp; omega)
      clear hd e1 e2 hc hq ht OW BW hoj hbc
      go_wp2_with (at_builtin; refine wpList_push rfl _ _ 23 rfl slI rfl rfl (t : Int) rfl rfl rfl HOW.out rfl hcnt.out hszj ?_; intro v5 w5 ho5 hb5; obtain ⟨ao6, L6, cp6, rfl⟩ := Own.slv encI_len ho5; have HO5 := Lib.hid ho5; have HB5 := Lib.hid (HBWj.out.trans hb5); clear ho5 hb5)
      go_roundg (hu.length - (j + 1))
      case measure => omega
      case rel => exact ⟨j + 1, by omega, by omega, by go_num, (show Own _ _ _ _ _ _ _ by rw [← HTK.out, zL_snoc]; exact HO5.out), HB5.out⟩
    · obtain rfl : j = hu.length := by omega
      have HS := Lib.hid (Own.sl OW.out encI_len)
      have HBE := Lib.hid (HBF.out.thru BW.out)
      rw [List.take_length, ← HRL.out] at HS
      go_wp2
      go_ret2
      exact SlPost.mk rfl HS.out HBE.out
end Go.Proofs.Ytikgkgfcnciomaa

/- playedFault; the reference's programme, played, right. -/
import Derived.Test.YteijcombdlgioaaBld2
import Derived.Test.YteijcombdlgioaaRdue
namespace Go.Proofs.Yteijcombdlgioaa
open Go.RowKit

set_option maxRecDepth 100000 in
set_option maxHeartbeats 4000000 in
theorem playedFault_any (w : World) (ads : List Adv) (u : Value) (hs : Sl w 4 encA u ads) (hw : ∀ a, a ∈ ads → WfA a) :
    Calls Try.prog 48 #[u] w fun e w' => e = .returned (.int .i64 (adsF ads)) ∧ Below w.heap.size w w' := by
  obtain ⟨ao, cap, rfl, hcap, hmax, hnil, hel⟩ := hs
  unfold maxLen at hmax
  have hF : Hid (adsF ads = FF (fun j => adF (ads.getD j default)) ads.length) := Lib.hid rfl
  generalize adsF ads = F at hF ⊢
  go_enter Try.func48, Try.ntmps48
  go_wp2
  go_loopg [7] ads.length (fun gg s7 wr => ∃ kk : Nat, kk ≤ ads.length ∧ ads.length - kk ≤ gg ∧ s7 = .int .i64 kk ∧ Aside (Below w.heap.size w wr) ∧ Aside (∀ j, j < kk → adF (ads.getD j default) = 0))
  case atStart => exact ⟨0, Nat.zero_le _, by omega, rfl, Below.refl _ _, fun j hj => absurd hj (Nat.not_lt_zero _)⟩
  case round =>
    obtain ⟨kk, hkk, hg, rfl, BW, A⟩ := hrel
    by_cases hlt : kk < ads.length
    · have hltz : (kk : Int) < (ads.length : Int) := by omega
      obtain ⟨a, hx⟩ : ∃ x, ads[kk]? = some x := ⟨ads[kk], by simp [hlt]⟩
      obtain ⟨b, off, rfl, hc⟩ := hel kk a hx
      have hlt0 := World.block_lt_of_cell? w _ (hc 0 _ rfl)
      have c0 : wr.cell? ⟨b, off + kk * 4, none⟩ = some (.string a.na) := (BW.out.cell (p := ⟨b, off + kk * 4, none⟩) hlt0).trans (hc 0 _ rfl)
      have c1 : wr.cell? ⟨b, off + kk * 4 + 1, none⟩ = some (.int .i64 a.ln) := (BW.out.cell (p := ⟨b, off + kk * 4 + 1, none⟩) hlt0).trans (hc 1 _ rfl)
      have c2 : wr.cell? ⟨b, off + kk * 4 + 2, none⟩ = some (.int .i64 a.va) := (BW.out.cell (p := ⟨b, off + kk * 4 + 2, none⟩) hlt0).trans (hc 2 _ rfl)
      have c3 : wr.cell? ⟨b, off + kk * 4 + 3, none⟩ = some (.string a.ri) := (BW.out.cell (p := ⟨b, off + kk * 4 + 3, none⟩) hlt0).trans (hc 3 _ rfl)
      have hsz : a.na.size ≤ 9223372036854775807 := (hw a (List.mem_of_getElem? hx)).1
      have hin := isName_any a.na
      have hgd : Hid (ads.getD kk default = a) := Lib.hid (by rw [List.getD_eq_getElem?_getD, hx]; rfl)
      have hS : Hid (∀ z, adF a = z → z ≠ 0 → z = F) := Lib.hid (fun z h hz => by
        rw [hF.out, FF_hit hlt A.out (by rw [hgd.out, h]; exact hz), hgd.out, h])
      have hA : Hid (adF a = if nameB a.na = false then 5 else if outB a.ln 1 1000000000000000 = true then 1 else 0) := Lib.hid rfl
      have hszw := BW.out.size
      clear hx hc hel hw
      cases e1 : nameB a.na
      case false =>
        have hv : Hid (5 = F) := Lib.hid (hS.out 5 (by rw [hA.out, if_pos e1]) (by decide))
        go_wp2_with (first | (go_at_call 57; refine (hin _ hsz).mono ?_; rintro e w' ⟨rfl, rfl⟩) | (go_at_call 32; refine (out_any _ _ _ _).mono ?_; rintro e w' ⟨rfl, rfl⟩))
        go_ret
        exact ⟨ret_int hv.out, BW.out.alloc hszw _⟩
      cases e2 : outB a.ln 1 1000000000000000
      case true =>
        have hv : Hid (1 = F) := Lib.hid (hS.out 1 (by rw [hA.out, e1, e2]; rfl) (by decide))
        go_wp2_with (first | (go_at_call 57; refine (hin _ hsz).mono ?_; rintro e w' ⟨rfl, rfl⟩) | (go_at_call 32; refine (out_any _ _ _ _).mono ?_; rintro e w' ⟨rfl, rfl⟩))
        go_ret
        exact ⟨ret_int hv.out, BW.out.alloc hszw _⟩
      case false =>
        have hv : Hid (adF a = 0) := Lib.hid (by rw [hA.out, e1, e2]; rfl)
        go_wp2_with (first | (go_at_call 57; refine (hin _ hsz).mono ?_; rintro e w' ⟨rfl, rfl⟩) | (go_at_call 32; refine (out_any _ _ _ _).mono ?_; rintro e w' ⟨rfl, rfl⟩))
        go_roundg (ads.length - (kk + 1))
        case measure => omega
        case rel =>
          refine ⟨kk + 1, by omega, by omega, by go_num, BW.out.alloc hszw _, (show Aside _ from fun j hj => ?_)⟩
          by_cases e : j = kk
          · rw [e, hgd.out, hv.out]
          · exact A.out j (by omega)
    · obtain rfl : kk = ads.length := by omega
      have hv : Hid (0 = F) := Lib.hid (by rw [hF.out, FF_zero A.out])
      clear hel
      go_wp2
      go_ret
      exact ⟨ret_int hv.out, BW.out⟩

/-- A timeline that the call has built. -/
def TlRet (w : World) (base : Nat) (l : List Prt) : Ending → World → Prop := fun e w' => ∃ v', e = .returned v' ∧ Own w' base 34 3 encP v' l ∧ Below base w w'
theorem TlRet.mk {w w' : World} {base : Nat} {l : List Prt} {v' : Value} (h : Own w' base 34 3 encP v' l) (hb : Below base w w') : TlRet w base l (.returned v') w' := ⟨v', rfl, h, hb⟩
def TlRet2 (w : World) (base : Nat) (l : List Prt) (f : Int) : Ending → World → Prop := fun e w' => ∃ v', e = .returned (.tuple #[v', .int .i64 f]) ∧ Own w' base 34 3 encP v' l ∧ Below base w w'
theorem TlRet2.mk {w w' : World} {base : Nat} {l : List Prt} {f f' : Int} {v' : Value} (hf : f' = f) (h : Own w' base 34 3 encP v' l) (hb : Below base w w') : TlRet2 w base l f (.returned (.tuple #[v', .int .i64 f'])) w' := ⟨v', by rw [hf], h, hb⟩

set_option maxRecDepth 100000 in
set_option maxHeartbeats 4000000 in
theorem rprog_any (w : World) (base : Nat) (l : List Prt) (v : Value) (a b : Int) (h : Own w base 34 3 encP v l) (hbase : base ≤ w.heap.size) (hp : ∀ p, p ∈ l → PB p) (hlen : l.length ≤ 1000000000000) (ha : 0 ≤ a) (ha1 : a ≤ 1000000000000000) (hb0 : 0 ≤ b) (hb : b ≤ 1000000000000000) :
    Calls Try.prog 52 #[v, .int .i64 a, .int .i64 b] w (TlRet w base (prg l a b)) := by
  have HP : Hid (prg l a b = if b ≤ a then l else if mrg l a = true then l.set (l.length - 1) ⟨(l.getD (l.length - 1) default).ad, (l.getD (l.length - 1) default).fr, (l.getD (l.length - 1) default).ln + (b - a)⟩ else l ++ [⟨emp, a, b - a⟩]) := Lib.hid rfl
  have HOWN := Lib.hid h
  have HPB := Lib.hid hp
  clear h hp
  by_cases hab : b ≤ a
  · have hv : Hid (prg l a b = l) := Lib.hid (by rw [HP.out, if_pos hab])
    go_enter Try.func52, Try.ntmps52
    go_wp2
    go_ret
    exact TlRet.mk (by rw [hv.out]; exact HOWN.out) (Below.refl _ _)
  have hP2 : Hid (prg l a b = if mrg l a = true then l.set (l.length - 1) ⟨(l.getD (l.length - 1) default).ad, (l.getD (l.length - 1) default).fr, (l.getD (l.length - 1) default).ln + (b - a)⟩ else l ++ [⟨emp, a, b - a⟩]) := Lib.hid (by rw [HP.out, if_neg hab])
  have hab' : ¬ (a ≥ b) := by omega
  clear HP
  obtain ⟨ao, cap, rfl, hcap, hmax, hnil, hel⟩ := HOWN.out.sl encP_len
  unfold maxLen at hmax
  have HEL := Lib.hid hel
  clear hel
  go_enter Try.func52, Try.ntmps52
  go_upto_region 4 with (fail)
  go_cut [7, 41] (fun s7 s41 w2 => s7 = .int .i64 (l.length : Int) ∧ s41 = .bool (mrg l a) ∧ ∃ n, w2 = w.drewN n)
  case first =>
    by_cases hne : l.length = 0
    · have hm : Hid (mrg l a = false) := Lib.hid (by
        obtain rfl : l = [] := List.length_eq_zero_iff.1 hne
        rfl)
      have hz : decide ((0 : Int) < (l.length : Int)) = false := decide_eq_false (by omega)
      have hz3 : ¬ (0 : Int) < (l.length : Int) := by omega
      have hz2 : decide (0 < l.length) = false := decide_eq_false (by omega)
      clear hne
      go_quiet (fail)
      go_wp2
      go_meet
      exact ⟨rfl, by rw [hm.out], _, rfl⟩
    · obtain ⟨p, hx⟩ : ∃ x, l[l.length - 1]? = some x := ⟨l[l.length - 1]'(by omega), by simp⟩
      obtain ⟨g, off, hao, hc⟩ := HEL.out _ p hx
      subst hao
      have c0 : w.cell? ⟨g, off + (l.length - 1) * 3, none⟩ = some (.string p.ad) := hc 0 _ rfl
      have c1 := hc 1 _ rfl
      have c2 := hc 2 _ rfl
      obtain ⟨hp0, hp1, hp2, _⟩ := HPB.out p (List.mem_of_getElem? hx)
      have hm : Hid (mrg l a = (p.ad.toList.isEmpty && (p.fr + p.ln == a))) := Lib.hid (by unfold mrg; rw [hx]; rfl)
      have hz : decide ((0 : Int) < (l.length : Int)) = true := by simp; omega
      have hz2 : decide (0 < l.length) = true := by simp; omega
      have hz3 : (0 : Int) ≤ (l.length : Int) - 1 := by omega
      have hz4 : (l.length : Int) - 1 < (l.length : Int) := by omega
      have hz5 : (1 : Int) ≤ (l.length : Int) := by omega
      have hz6 : 0 < l.length := by omega
      have ez : ((l.length : Int) - 1).toNat = l.length - 1 := by omega
      have hwl : IntKind.i64.wrap ((l.length : Int) - 1) = (l.length : Int) - 1 := IntWalk.i64_in _ (by omega)
      have hwr : IntKind.i64.wrap (p.fr + p.ln) = p.fr + p.ln := IntWalk.i64_in _ (by omega)
      clear hx hc hne
      cases e5 : p.ad.toList.isEmpty
      · have e6 : ¬ p.ad.toList = [] := by simpa using e5
        go_quiet (fail)
        go_wp2
        go_meet
        exact ⟨rfl, by rw [hm.out, e5]; rfl, _, rfl⟩
      · have e6 : p.ad.toList = [] := by simpa using e5
        go_quiet (fail)
        go_wp2
        go_meet
        exact ⟨rfl, by rw [hm.out, e5]; rfl, _, rfl⟩
  obtain ⟨rfl, rfl, nq, rfl⟩ := hcut
  obtain ⟨w2, hw2⟩ : ∃ w2, w2 = w.drewN nq := ⟨_, rfl⟩
  have HB2 : Hid (Below base w w2) := Lib.hid (by rw [hw2]; exact below_drewN (Below.refl _ _) _)
  have HO2 : Hid (Own w2 base 34 3 encP (.slice ao l.length cap) l) := Lib.hid (by rw [hw2]; exact HOWN.out.drewN _)
  have hB2 : base ≤ w2.heap.size := by rw [hw2]; exact hbase
  rw [← hw2]
  clear hw2 HOWN HEL hbase
  cases hM : mrg l a
  case true =>
    obtain ⟨p, hx, hp1, hp2⟩ := mrg_some hM
    have hne : l ≠ [] := fun e => by rw [e] at hx; simp at hx
    obtain ⟨g, cg, hv, hg1, hg2, hg3, hg4, hgc, hgf⟩ := Own.getk encP_len HO2.out hne
    simp only [Value.slice.injEq, true_and] at hv
    obtain ⟨rfl, rfl⟩ := hv
    have hgd : Hid (l.getD (l.length - 1) default = p) := Lib.hid (by rw [List.getD_eq_getElem?_getD, hx]; rfl)
    have hv : Hid (prg l a b = l.set (l.length - 1) ⟨p.ad, p.fr, p.ln + (b - a)⟩) := Lib.hid (by rw [hP2.out, hM, if_pos rfl, hgd.out])
    have hl0 : 0 < l.length := List.length_pos_iff.2 hne
    have c2 := hgc _ p 2 _ hx rfl
    have f2 := hgf ((l.length - 1) * 3 + 2)
    obtain ⟨hq0, hq1, hq2, _⟩ := HPB.out p (List.mem_of_getElem? hx)
    have hz3 : (0 : Int) ≤ (l.length : Int) - 1 := by omega
    have hz4 : (l.length : Int) - 1 < (l.length : Int) := by omega
    have hz5 : (1 : Int) ≤ (l.length : Int) := by omega
    have ez : ((l.length : Int) - 1).toNat = l.length - 1 := by omega
    have HST := Lib.hid (Own.store (i := l.length - 1) (j := 2) (x := p) (y := ⟨p.ad, p.fr, p.ln + (b - a)⟩) (u := .int .i64 (p.ln + (b - a))) encP_len HO2.out rfl hx (by decide) rfl)
    clear hx hne hgc hgf hM hp1 hp2
    go_wp2
    go_ret
    exact TlRet.mk (by rw [hv.out]; exact HST.out) (HB2.out.setCell hg1 _)
  case false =>
    have hv : Hid (prg l a b = l ++ [⟨emp, a, b - a⟩]) := Lib.hid (by rw [hP2.out, hM]; rfl)
    have hln := Lib.hid hlen
    have hne := Lib.hid hnil
    clear hM hlen hnil hP2
    go_wp2_with (at_builtin; go_loud (refine wpList_push rfl _ _ 22 rfl slP rfl rfl ⟨emp, a, b - a⟩ rfl rfl rfl HO2.out rfl (by have := hln.out; omega) hB2 ?_); intro v5 w5 ho5 hb5; rw [← hv.out] at ho5; have HO5 := Lib.hid ho5; have HB5 := Lib.hid hb5; clear ho5 hb5)
    go_ret
    exact TlRet.mk HO5.out (HB2.out.trans HB5.out)

/-- What played leaves. -/
def playL (l : List Prt) (ads : List Adv) : List Prt := if adsF ads = 0 then l ++ ads.map adP else []

set_option maxRecDepth 100000 in
set_option maxHeartbeats 4000000 in
theorem played_any (w : World) (base : Nat) (l : List Prt) (v : Value) (ads : List Adv) (u : Value) (h : Own w base 34 3 encP v l) (hbase : base ≤ w.heap.size) (hs : Sl w 4 encA u ads) (hltB : 0 < ads.length → ∀ ao len cap, u = .slice ao len cap → ∀ b, ao = some b → b.block < base) (hw : ∀ a, a ∈ ads → WfA a) (hlen : l.length + ads.length ≤ 1000000000000) :
    Calls Try.prog 53 #[v, u] w (TlRet2 w base (playL l ads) (adsF ads)) := by
  obtain ⟨ao, cap, rfl, hcap, hmax, hnil, hel⟩ := hs
  unfold maxLen at hmax
  have hF : Hid (adsF ads = FF (fun j => adF (ads.getD j default)) ads.length) := Lib.hid rfl
  have hL : Hid (playL l ads = if adsF ads = 0 then l ++ ads.map adP else []) := Lib.hid rfl
  generalize adsF ads = F at hF hL ⊢
  have HOWN := Lib.hid h
  have HEL := Lib.hid hel
  have HLB := Lib.hid (fun h => hltB h _ _ _ rfl)
  have HW := Lib.hid hw
  clear h hel hltB hw
  go_enter Try.func53, Try.ntmps53
  go_wp2
  go_loopg [0, 6] ads.length (fun gg s0 s6 wr => ∃ (kk : Nat), kk ≤ ads.length ∧ ads.length - kk ≤ gg ∧ s6 = .int .i64 kk ∧ Aside (Below base w wr) ∧ Aside (Own wr base 34 3 encP s0 (l ++ (ads.take kk).map adP)) ∧ Aside (∀ j, j < kk → adF (ads.getD j default) = 0))
  case atStart => exact ⟨0, Nat.zero_le _, by omega, rfl, Below.refl _ _, (show Own _ _ _ _ _ _ _ from by simpa using HOWN.out), fun j hj => absurd hj (Nat.not_lt_zero _)⟩
  case round =>
    obtain ⟨kk, hkk, hg, rfl, BW, OW, A⟩ := hrel
    by_cases hlt : kk < ads.length
    · have hltz : (kk : Int) < (ads.length : Int) := by omega
      obtain ⟨a, hx⟩ : ∃ x, ads[kk]? = some x := ⟨ads[kk], by simp [hlt]⟩
      obtain ⟨b, off, hao, hc⟩ := HEL.out kk a hx
      have hbB := HLB.out (by omega) _ hao
      subst hao
      have c0 : wr.cell? ⟨b, off + kk * 4, none⟩ = some (.string a.na) := (BW.out.cell (p := ⟨b, off + kk * 4, none⟩) hbB).trans (hc 0 _ rfl)
      have c1 : wr.cell? ⟨b, off + kk * 4 + 1, none⟩ = some (.int .i64 a.ln) := (BW.out.cell (p := ⟨b, off + kk * 4 + 1, none⟩) hbB).trans (hc 1 _ rfl)
      have hsz : a.na.size ≤ 9223372036854775807 := (HW.out a (List.mem_of_getElem? hx)).1
      have hin := isNameR_any a.na
      have hgd : Hid (ads.getD kk default = a) := Lib.hid (by rw [List.getD_eq_getElem?_getD, hx]; rfl)
      have hS : Hid (∀ z, adF a = z → z ≠ 0 → z = F) := Lib.hid (fun z h hz => by
        rw [hF.out, FF_hit hlt A.out (by rw [hgd.out, h]; exact hz), hgd.out, h])
      have hA : Hid (adF a = if nameB a.na = false then 5 else if outB a.ln 1 1000000000000000 = true then 1 else 0) := Lib.hid rfl
      have hnx : Hid (l ++ (ads.take (kk + 1)).map adP = (l ++ (ads.take kk).map adP) ++ [⟨a.na, 0, a.ln⟩]) := Lib.hid (by rw [take_next hx, List.map_append, List.append_assoc]; rfl)
      have hll : Hid ((l ++ (ads.take kk).map adP).length < 1000000000000) := Lib.hid (by simp; omega)
      have hszw := BW.out.size
      clear hx hc
      cases e1 : nameB a.na
      case false =>
        have hv : Hid (5 = F) := Lib.hid (hS.out 5 (by rw [hA.out, if_pos e1]) (by decide))
        have hv2 : Hid (playL l ads = []) := Lib.hid (by rw [hL.out, if_neg (by rw [← hv.out]; decide)])
        go_wp2_with (first | (go_at_call 45; refine (hin _ hsz).mono ?_; rintro e w' ⟨rfl, rfl⟩) | (go_at_call 35; refine (within_any _ _ _ _).mono ?_; rintro e w' ⟨rfl, rfl⟩))
        go_ret2
        exact TlRet2.mk hv.out (by rw [hv2.out]; exact Own.nil) BW.out
      cases e2 : outB a.ln 1 1000000000000000
      case true =>
        have hv : Hid (1 = F) := Lib.hid (hS.out 1 (by rw [hA.out, e1, e2]; rfl) (by decide))
        have hv2 : Hid (playL l ads = []) := Lib.hid (by rw [hL.out, if_neg (by rw [← hv.out]; decide)])
        go_wp2_with (first | (go_at_call 45; refine (hin _ hsz).mono ?_; rintro e w' ⟨rfl, rfl⟩) | (go_at_call 35; refine (within_any _ _ _ _).mono ?_; rintro e w' ⟨rfl, rfl⟩))
        go_ret2
        exact TlRet2.mk hv.out (by rw [hv2.out]; exact Own.nil) BW.out
      case false =>
        have hv : Hid (adF a = 0) := Lib.hid (by rw [hA.out, e1, e2]; rfl)
        go_upto_region 8 with (first | (go_at_call 45; refine (hin _ hsz).mono ?_; rintro e w' ⟨rfl, rfl⟩) | (go_at_call 35; refine (within_any _ _ _ _).mono ?_; rintro e w' ⟨rfl, rfl⟩))
        go_region_law (refine step_push rfl _ _ 22 rfl slP rfl rfl ⟨a.na, 0, a.ln⟩ rfl rfl rfl OW.out (by simp) (by have := hll.out; omega) (by omega) ?_; intro v5 w5 ho5 hb5; rw [← hnx.out] at ho5; have HO5 := Lib.hid ho5; have HB5 := Lib.hid hb5; clear ho5 hb5)
        all_goals
          go_wp2
          go_roundg (ads.length - (kk + 1))
          case measure => omega
          case rel =>
            refine ⟨kk + 1, by omega, by omega, by go_num, BW.out.trans HB5.out, HO5.out, (show Aside (∀ j, j < kk + 1 → adF (ads.getD j default) = 0) from fun j hj => ?_)⟩
            by_cases e : j = kk
            · rw [e, hgd.out, hv.out]
            · exact A.out j (by omega)
    · obtain rfl : kk = ads.length := by omega
      have hv : Hid (0 = F) := Lib.hid (by rw [hF.out, FF_zero A.out])
      have hv2 : Hid (playL l ads = l ++ ads.map adP) := Lib.hid (by rw [hL.out, if_pos hv.out.symm])
      go_wp2
      go_ret2
      exact TlRet2.mk hv.out (by rw [hv2.out]; have := OW.out; rwa [List.take_length] at this) BW.out

set_option maxHeartbeats 1000000 in
theorem right_any (w : World) (l : List Prt) (v : Value) (h : Sl w 3 encP v l) (hp : ∀ p, p ∈ l → WfP p) :
    Calls Try.prog 54 #[v] w (SlPost w 3 encP (rightL l) (checkP l)) := by
  have h1 := checkPartsR_any w l v h hp
  have hR : Hid (rightL l = if checkP l = 0 then l else []) := Lib.hid rfl
  generalize checkP l = c at h1 hR ⊢
  have HSL := Lib.hid h
  clear h
  cases e1 : (c != 0)
  case true =>
    have hv : Hid (rightL l = []) := Lib.hid (by rw [hR.out, if_neg (by simpa using e1)])
    go_enter Try.func54, Try.ntmps54
    go_wp2_with (go_at_call 21; refine h1.mono ?_; rintro e w' ⟨rfl, hb'⟩)
    go_ret2
    exact SlPost.mk rfl (by rw [hv.out]; exact Sl.nil) hb'
  obtain rfl : c = 0 := by simpa using e1
  have hv : Hid (rightL l = l) := Lib.hid (by rw [hR.out, if_pos rfl])
  clear e1
  go_enter Try.func54, Try.ntmps54
  go_wp2_with (go_at_call 21; refine h1.mono ?_; rintro e w' ⟨rfl, hb'⟩)
  go_ret2
  exact SlPost.mk rfl (by rw [hv.out]; exact HSL.out.below hb' (Nat.le_refl _)) hb'
end Go.Proofs.Yteijcombdlgioaa

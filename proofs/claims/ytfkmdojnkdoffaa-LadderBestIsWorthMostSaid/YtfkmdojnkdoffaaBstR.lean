/- Best of the reference. -/
import Derived.Test.YtfkmdojnkdoffaaBstP
import Derived.Test.YtfkmdojnkdoffaaBstV
import Derived.Test.YtfkmdojnkdoffaaOut5
namespace Go.Proofs.Ytfkmdojnkdoffaa
open Go.RowKit

theorem OwnE {w : World} {base : Nat} {v : Value} {C : List Int} (h : Own w base 3 1 encI v C) (hne : C ≠ []) : ∃ g cap, v = .slice (some ⟨g, 0, none⟩) C.length cap ∧ base ≤ g ∧ g < w.heap.size := by
  obtain ⟨g, cap, e, hg, hl, _⟩ := Own.getk encI_len h hne
  exact ⟨g, cap, e, hg, hl⟩

/-- A slice that lies in what is there. -/
def inB (w : World) (v : Value) : Prop := ∀ a n c, v = .slice (some a) n c → a.block < w.heap.size
theorem inB.nil (w : World) : inB w (.slice none 0 0) := fun a n c h => by simp at h
theorem inB.own {w : World} {base : Nat} {v : Value} {C : List Int} (h : Own w base 3 1 encI v C) : inB w v := fun a n c hv => by
  subst hv
  exact (World.ownsRow.lt h a.block rfl).2
theorem inB.le {w w' : World} {v : Value} (h : inB w v) (hs : w.heap.size ≤ w'.heap.size) : inB w' v := fun a n c hv => Nat.lt_of_lt_of_le (h a n c hv) hs
theorem inB.off {w : World} {v : Value} {g : Nat} (h : inB w v) (hg : w.heap.size ≤ g) : offB g v := fun a n c hv => by have := h a n c hv; omega
/-- While the choices of as many numbers are looked at. -/
def InnS (f : List Int → Int) (n N base g cap : Nat) (b : Bool) (C B : List Int) (w : World) : Prop :=
  (b = true → Own w base 3 1 encI (.slice (some ⟨g, 0, none⟩) N cap) C ∧ C.length = N ∧ okW n N C ∧ VisW f n N C B) ∧ (b = false → bestW f n N B)
theorem InnS.end {f : List Int → Int} {n N base g cap : Nat} {C B : List Int} {w : World} (h : InnS f n N base g cap false C B w) : bestW f n N B := h.2 rfl
def mesW (n : Nat) (b : Bool) (C : List Int) : Nat := if b = true then mu n C + 1 else 0

set_option maxRecDepth 100000 in
set_option maxHeartbeats 4000000 in
theorem BestR_any (w : World) (l : List Rng) (u : Value) (c : List Vw) (v : Value) (m : Int) (hl : Sl w 4 encR u l) (hw : ∀ x, x ∈ l → WfR x) (hc : Sl w 3 encV v c) :
    Calls Try.prog 7 #[u, v, .int .i64 m] w (BsP w l c m) := by
  have HBO := Lib.hid (both_any w l u c v hl hw hc)
  have HF : Hid (bestFa l c m = if checkRV l c ≠ 0 then checkRV l c else if outB m 0 100 = true then 1 else if 14 < l.length then 2 else 0) := Lib.hid rfl
  have HZ := Lib.hid (fun (h : checkRV l c = 0) => And.intro (checkR_zero (checkRV_zero h).1) (checkV_zero (checkRV_zero h).2))
  obtain ⟨r, hr⟩ : ∃ r, r = checkRV l c := ⟨_, rfl⟩
  rw [← hr] at HBO HF HZ
  have HL := Lib.hid hl
  have HC := Lib.hid hc
  obtain ⟨uo, ucap, rfl, huc, hum, _, _⟩ := hl
  obtain ⟨vo, vcap, rfl, _, _, _, _⟩ := hc
  unfold maxLen at hum
  clear hr hw
  go_enter Try.func7, Try.ntmps7
  go_wp2_with fail
  refine HBO.out.mono ?_
  rintro e w1 ⟨rfl, hb⟩
  have HB1 := Lib.hid hb
  clear hb
  cases e1 : (r != 0)
  case true =>
    have hr0 : r ≠ 0 := by simpa using e1
    have hv : Hid (r = bestFa l c m) := Lib.hid (by rw [HF.out, if_pos hr0])
    have HR0 := Lib.hid hr0
    clear hr0
    go_wp2
    go_ret3
    exact BsP.bad hv.out HR0.out HB1.out
  obtain rfl : r = 0 := by simpa using e1
  have HF2 : Hid (bestFa l c m = if outB m 0 100 = true then 1 else if 14 < l.length then 2 else 0) := Lib.hid (by rw [HF.out]; rfl)
  obtain ⟨⟨hln, _, hgood⟩, hlc, hvs⟩ := HZ.out rfl
  have HQU : Hid (∀ x, x ∈ l → 0 ≤ x.qu ∧ x.qu ≤ 1000000) := Lib.hid (fun x hx => (hgood x hx).2.2.2)
  have HVV : Hid (∀ v, v ∈ c → 1 ≤ v.we ∧ v.we ≤ 1000000) := Lib.hid (fun v hv => (hvs v hv).2.2)
  clear HF HZ hgood hvs e1
  cases o1 : outB m 0 100
  case true =>
    have hv : Hid (1 = bestFa l c m) := Lib.hid (by rw [HF2.out, o1]; rfl)
    go_wp2_with (go_at_call 25; refine (within5_any _ _ _ _).mono ?_; rintro e w' ⟨rfl, rfl⟩)
    go_ret3
    exact BsP.bad hv.out (by decide) HB1.out
  have hm := outB_no o1
  by_cases h14 : 14 < l.length
  · have h14z : (14 : Int) < (l.length : Int) := by omega
    have hv : Hid (2 = bestFa l c m) := Lib.hid (by rw [HF2.out, o1, if_neg (by simp), if_pos h14])
    go_wp2_with (go_at_call 25; refine (within5_any _ _ _ _).mono ?_; rintro e w' ⟨rfl, rfl⟩)
    go_ret3
    exact BsP.bad hv.out (by decide) HB1.out
  have h14z : ¬ (14 : Int) < (l.length : Int) := by omega
  have hv : Hid (0 = bestFa l c m) := Lib.hid (by rw [HF2.out, o1, if_neg (by simp), if_neg h14])
  obtain ⟨M, rfl⟩ := Int.eq_ofNat_of_zero_le hm.1
  have HWO := Lib.hid (fun (W : World) (s : Value) (L : List Int) (hb : Below w.heap.size w W) (hs : Sl W 4 encR s (selR l L)) (hok : okW l.length l.length L) => worthR_any W (selR l L) s c _ hs (HC.out.below hb (Nat.le_refl _)) (fun x hx => by
    unfold selR at hx
    obtain ⟨k, hk, rfl⟩ := List.mem_map.1 hx
    have := hok.rng k hk
    rw [getD_of (List.getElem?_eq_getElem (by omega : k.toNat < l.length))]
    exact HQU.out _ (List.getElem_mem _)) HVV.out hlc)
  have HWD : Hid (∀ L, wOf l c L = wtR (selR l L) c) := Lib.hid (fun _ => rfl)
  have HF0 : Hid (wOf l c [] = 0) := Lib.hid (wOf_nil l c)
  have HBM := Lib.hid (fun B (h : bestW (wOf l c) l.length (min M l.length) B) => bestW_min h)
  obtain ⟨K, hK⟩ : ∃ K, K = min M l.length := ⟨_, rfl⟩
  rw [← hK] at HBM
  have hKl : K ≤ l.length := by omega
  have hmn : min (M : Int) (l.length : Int) = (K : Int) := by omega
  obtain ⟨f, hf⟩ : ∃ f, f = wOf l c := ⟨_, rfl⟩
  rw [← hf] at HBM HWD HF0
  have HFE := Lib.hid hf
  clear hf hK HF2 HQU HVV h14
  go_wp2_with (go_at_call 25; refine (within5_any _ _ _ _).mono ?_; rintro e w' ⟨rfl, rfl⟩)
  clear o1
  go_loopg [10, 11, 12, 13, 14, 15] (K + 1) (fun gg s10 s11 s12 _ _ _ wr => ∃ (N : Nat) (B : List Int) (z : Int), N ≤ K ∧ K - N ≤ gg ∧ s12 = .int .i64 ((N : Int) + 1) ∧ s11 = .int .i64 z ∧ Aside (z = f B) ∧ Aside (Sl wr 1 encI s10 B) ∧ Aside (inB wr s10) ∧ Aside (bestW f l.length N B) ∧ Aside (Below w.heap.size w wr))
  case atStart => exact ⟨0, [], 0, Nat.zero_le _, by omega, by go_num, rfl, (show _ = _ from HF0.out.symm), Sl.nil, inB.nil _, bestW_zero f _, HB1.out⟩
  obtain ⟨N, B, z, hNK, hg, rfl, rfl, HZB, HSB, HIN, HBE, HBr⟩ := hrel
  have HZB := Lib.hid HZB.out
  have HSB := Lib.hid HSB.out
  have HIN := Lib.hid HIN.out
  have HBE := Lib.hid HBE.out
  have HBr := Lib.hid HBr.out
  obtain ⟨tb, htb⟩ : ∃ tb, tb = decide (N < K) := ⟨_, rfl⟩
  have HTB := Lib.hid htb
  clear htb
  go_upto_region 11 with (fail)
  go_cut [33] (fun s33 wc => s33 = .bool tb ∧ wr = wc)
  case first =>
    by_cases hML : M ≤ l.length
    · have hMz : (M : Int) ≤ (l.length : Int) := by omega
      have hv : Hid (decide ((N : Int) + 1 ≤ (M : Int)) = tb) := Lib.hid (by rw [HTB.out, Bool.eq_iff_iff]; simp; omega)
      clear hmn
      go_wp2
      go_meet
      exact ⟨by rw [hv.out], rfl⟩
    · have hMz : ¬ (M : Int) ≤ (l.length : Int) := by omega
      have hv : Hid (decide ((N : Int) + 1 ≤ (l.length : Int)) = tb) := Lib.hid (by rw [HTB.out, Bool.eq_iff_iff]; simp; omega)
      clear hmn
      go_wp2
      go_meet
      exact ⟨by rw [hv.out], rfl⟩
  obtain ⟨rfl, rfl⟩ := hcut
  have htb := HTB.out
  cases tb
  case true =>
    have hlt : N < K := of_decide_eq_true htb.symm
    clear htb
    have HFI := Lib.hid (firstR_any (N + 1) (by omega))
    have e1 : ((N + 1 : Nat) : Int) = (N : Int) + 1 := by omega
    rw [e1] at HFI
    clear e1
    obtain ⟨hfl, hfi, hfr⟩ := firstL_ok (N + 1)
    have HOK1 : Hid (okW l.length (N + 1) (firstL (N + 1))) := Lib.hid ⟨fun k hk => by have := hfr k hk; omega, hfi, by omega⟩
    have HVS := Lib.hid (VisW.start HBE.out)
    have HMU : Hid (mu l.length (firstL (N + 1)) < (l.length + 1) ^ (N + 1)) := Lib.hid (by
      have := mu_lt (n := l.length) (L := firstL (N + 1)) fun k hk => (hfr k hk).1
      rw [hfl] at this
      exact this)
    clear hfi hfr
    generalize firstL (N + 1) = C0 at HFI HOK1 HVS HMU hfl
    have hC0 : C0 ≠ [] := fun e => by rw [e] at hfl; simp at hfl
    go_wp2_with fail
    refine (HFI.out _).mono ?_
    rintro e w2 ⟨v13, rfl, ho, hb⟩
    obtain ⟨g, cap, rfl, hgb, hgl⟩ := OwnE ho hC0
    rw [hfl] at ho ⊢
    have HO2 := Lib.hid ho
    have HFL := Lib.hid hfl
    have HB2 := Lib.hid (HBr.out.thru hb)
    have HSB2 := Lib.hid (HSB.out.below hb (Nat.le_refl _))
    have HOF := Lib.hid (HIN.out.off hgb)
    obtain ⟨base, hbase⟩ : ∃ base, base = wr.heap.size := ⟨_, rfl⟩
    rw [← hbase] at HO2 hgb
    have hbw : w.heap.size ≤ base := by rw [hbase]; exact HBr.out.size
    have HIN2 := Lib.hid (HIN.out.le hb.size)
    have HI0 : Hid (InnS f l.length (N + 1) base g cap true C0 B w2) := Lib.hid ⟨fun _ => ⟨HO2.out, HFL.out, HOK1.out, HVS.out⟩, fun h => by cases h⟩
    have HM0 : mesW l.length true C0 ≤ (l.length + 1) ^ (N + 1) := by
      have := HMU.out
      unfold mesW
      rw [if_pos rfl]
      omega
    clear ho hb hC0 hfl HOK1 HVS HMU hbase hgl
    go_wp2
    go_loopg [10, 11, 14, 15] ((l.length + 1) ^ (N + 1) + 1) (fun gg s10 s11 s14 _ wq => ∃ (b : Bool) (C B : List Int) (z : Int), s14 = .bool b ∧ s11 = .int .i64 z ∧ mesW l.length b C ≤ gg ∧ Aside (z = f B) ∧ Aside (Sl wq 1 encI s10 B) ∧ Aside (inB wq s10) ∧ Aside (offB g s10) ∧ Aside (Below w.heap.size w wq) ∧ Aside (InnS f l.length (N + 1) base g cap b C B wq))
    case atStart => exact ⟨true, C0, B, z, rfl, rfl, by omega, HZB.out, HSB2.out, HIN2.out, HOF.out, HB2.out, HI0.out⟩
    case round =>
      obtain ⟨b, C, B', z', rfl, rfl, hgk, HZB', HSB', HIN', HOF', HB', HI'⟩ := hrel
      have HZB' := Lib.hid HZB'.out
      have HSB' := Lib.hid HSB'.out
      have HIN' := Lib.hid HIN'.out
      have HOF' := Lib.hid HOF'.out
      have HB' := Lib.hid HB'.out
      have HI' := Lib.hid HI'.out
      cases b
      case false =>
        have HE' := Lib.hid HI'.out.end
        go_wp2
        go_roundg (K - (N + 1))
        case measure => omega
        case rel => exact ⟨N + 1, B', z', by omega, by omega, by go_num, rfl, HZB'.out, HSB'.out, HIN'.out, HE'.out, HB'.out⟩
      case true =>
        obtain ⟨ho, hCl, hok, hvis⟩ := HI'.out.1 rfl
        have HO' := Lib.hid ho
        have HCL := Lib.hid hCl
        have HOK := Lib.hid hok
        have HVIS := Lib.hid hvis
        have hCN := hok.cnt
        have hCne : C ≠ [] := fun e => by rw [e] at hCl; simp at hCl
        have HCne := Lib.hid hCne
        obtain ⟨gX, capX, he2, _, hgl'⟩ := OwnE ho hCne
        simp only [Value.slice.injEq, Option.some.injEq, Addr.mk.injEq, and_true] at he2
        obtain ⟨rfl, hXX, rfl⟩ := he2
        clear hXX
        have hso := someR_any l C _ _ wr (HL.out.below HB'.out (Nat.le_refl _)) (ho.sl encI_len) hok.rng (by omega)
        have HSO := Lib.hid hso
        have hokl : okW l.length l.length C := ⟨hok.rng, hok.inc, hCN⟩
        have HOKL := Lib.hid hokl
        clear ho hCl hok hvis hCne hso hokl
        go_wp2_with fail
        refine HSO.out.mono ?_
        rintro e w3 ⟨s3, rfl, ho3, hb3⟩
        have HS3 := Lib.hid (ho3.sl encR_len)
        have HB3 := Lib.hid (HB'.out.thru hb3)
        have HW3 := Lib.hid hb3
        clear ho3 hb3
        go_wp2_with fail
        refine (HWO.out _ _ _ HB3.out HS3.out HOKL.out).mono ?_
        rintro e w4 ⟨rfl, hb4⟩
        rw [← HWD.out]
        have HW4 := Lib.hid (HW3.out.thru hb4)
        have HB4 := Lib.hid (HB3.out.thru hb4)
        have HO4 := Lib.hid (HO'.out.below HW4.out (Nat.le_refl _))
        have HS4 := Lib.hid (HSB'.out.below HW4.out (Nat.le_refl _))
        have HI4 := Lib.hid (HIN'.out.le HW4.out.size)
        have hgl4 := Lib.hid (Nat.lt_of_lt_of_le hgl' HW4.out.size)
        clear hb4 hgl' HS3 HSO
        by_cases hgt : z' < f C
        · have HVE := Lib.hid (HVIS.out.up HOK.out HCL.out (by rw [← HZB'.out]; exact hgt))
          have hc8 : C.length * 8 ≤ 140737488355328 := by omega
          have hcl := cloneI_any w4 C _ (HO4.out.sl encI_len) hc8
          have HCLN := Lib.hid hcl
          clear hcl hc8
          go_wp2_with fail
          refine HCLN.out.mono ?_
          rintro e w5 ⟨v5, rfl, ho5, hb5⟩
          have HS5 := Lib.hid (ho5.sl encI_len)
          have HI5 := Lib.hid (inB.own ho5)
          have HOF5 := Lib.hid (ho5.offB hgl4.out)
          have HO5 := Lib.hid (HO4.out.below hb5 (Nat.le_refl _))
          have HB5 := Lib.hid (HB4.out.thru hb5)
          clear ho5 hb5 HCLN
          have ho5 := HO5.out
          rw [← HCL.out] at ho5
          have hnx := nextR_any l.length C w5 base g cap ho5 HCne.out (by omega) HOK.out.inc HOK.out.rng
          rw [HCL.out] at hnx
          have HNX := Lib.hid hnx
          clear ho5 hnx
          go_wp2_with fail
          refine HNX.out.mono ?_
          rintro e w6 ⟨b6, rfl, ho6, h6f, h6t⟩
          have HB6 := Lib.hid (HB5.out.trans (ho6.toBelow HB5.out.size (by omega)))
          have HS6 := Lib.hid (HS5.out.onl HOF5.out ho6)
          have HI6 := Lib.hid (HI5.out.le ho6.size)
          cases b6
          case false =>
            have HBE6 := Lib.hid (HVE.out.last HCL.out (h6f rfl))
            clear h6f h6t ho6
            go_wp2
            go_roundg 0
            case measure => have h := hgk; unfold mesW at h; rw [if_pos rfl] at h; omega
            case rel => exact ⟨false, C, C, _, rfl, rfl, (by unfold mesW; simp), (show _ = _ from rfl), HS6.out, HI6.out, HOF5.out, HB6.out, ⟨(fun h => by cases h), fun _ => HBE6.out⟩⟩
          case true =>
            obtain ⟨C', hN', hO'⟩ := h6t rfl
            have hCl' := hN'.ok HOK.out.inc HOK.out.rng
            have HVN := Lib.hid (HVE.out.next HCL.out hN')
            have HMU' := Lib.hid (mu_next (n := l.length) hCl'.1.symm hN'.lt HOK.out.rng hCl'.2.2)
            have HOK' : Hid (okW l.length (N + 1) C') := Lib.hid ⟨hCl'.2.2, hCl'.2.1, by rw [hCl'.1, HCL.out]; exact Nat.le_refl _⟩
            have HCL' : Hid (C'.length = N + 1) := Lib.hid (hCl'.1.trans HCL.out)
            have HO6 := Lib.hid hO'
            clear h6f h6t ho6 hN' hCl' hO'
            go_wp2
            go_roundg (mesW l.length true C')
            case measure => have h := hgk; have h2 := HMU'.out; unfold mesW at h ⊢; rw [if_pos rfl] at h ⊢; omega
            case rel => exact ⟨true, C', C, _, rfl, rfl, Nat.le_refl _, (show _ = _ from rfl), HS6.out, HI6.out, HOF5.out, HB6.out, ⟨fun _ => ⟨HO6.out, HCL'.out, HOK'.out, HVN.out⟩, fun h => by cases h⟩⟩
        · have HVE := Lib.hid (HVIS.out.stay HCL.out (by rw [← HZB'.out]; exact hgt))
          obtain ⟨w5, rfl⟩ : ∃ w5, w5 = w4 := ⟨_, rfl⟩
          have HZ2 := HZB'
          have HS5 := HS4
          have HI5 := HI4
          have HOF5 := HOF'
          have HO5 := HO4
          have HB5 := HB4
          have ho5 := HO5.out
          rw [← HCL.out] at ho5
          have hnx := nextR_any l.length C w5 base g cap ho5 HCne.out (by omega) HOK.out.inc HOK.out.rng
          rw [HCL.out] at hnx
          have HNX := Lib.hid hnx
          clear ho5 hnx
          go_wp2_with fail
          refine HNX.out.mono ?_
          rintro e w6 ⟨b6, rfl, ho6, h6f, h6t⟩
          have HB6 := Lib.hid (HB5.out.trans (ho6.toBelow HB5.out.size (by omega)))
          have HS6 := Lib.hid (HS5.out.onl HOF5.out ho6)
          have HI6 := Lib.hid (HI5.out.le ho6.size)
          cases b6
          case false =>
            have HBE6 := Lib.hid (HVE.out.last HCL.out (h6f rfl))
            clear h6f h6t ho6
            go_wp2
            go_roundg 0
            case measure => have h := hgk; unfold mesW at h; rw [if_pos rfl] at h; omega
            case rel => exact ⟨false, C, _, _, rfl, rfl, (by unfold mesW; simp), HZ2.out, HS6.out, HI6.out, HOF5.out, HB6.out, ⟨(fun h => by cases h), fun _ => HBE6.out⟩⟩
          case true =>
            obtain ⟨C', hN', hO'⟩ := h6t rfl
            have hCl' := hN'.ok HOK.out.inc HOK.out.rng
            have HVN := Lib.hid (HVE.out.next HCL.out hN')
            have HMU' := Lib.hid (mu_next (n := l.length) hCl'.1.symm hN'.lt HOK.out.rng hCl'.2.2)
            have HOK' : Hid (okW l.length (N + 1) C') := Lib.hid ⟨hCl'.2.2, hCl'.2.1, by rw [hCl'.1, HCL.out]; exact Nat.le_refl _⟩
            have HCL' : Hid (C'.length = N + 1) := Lib.hid (hCl'.1.trans HCL.out)
            have HO6 := Lib.hid hO'
            clear h6f h6t ho6 hN' hCl' hO'
            go_wp2
            go_roundg (mesW l.length true C')
            case measure => have h := hgk; have h2 := HMU'.out; unfold mesW at h ⊢; rw [if_pos rfl] at h ⊢; omega
            case rel => exact ⟨true, C', _, _, rfl, rfl, Nat.le_refl _, HZ2.out, HS6.out, HI6.out, HOF5.out, HB6.out, ⟨fun _ => ⟨HO6.out, HCL'.out, HOK'.out, HVN.out⟩, fun h => by cases h⟩⟩
  case false =>
    have hnl : ¬ N < K := of_decide_eq_false htb.symm
    obtain rfl : N = K := by omega
    clear htb
    have HBST := Lib.hid (HBM.out B HBE.out)
    go_wp2
    go_ret3
    exact BsP.good hv.out rfl HSB.out HBr.out (by rw [← HFE.out, Int.toNat_natCast]; exact HBST.out) (by rw [HZB.out, HFE.out])
end Go.Proofs.Ytfkmdojnkdoffaa

/- Slices that the statement through cues and timelines builds. -/
import Derived.Test.YtpdeodoidlcdoaaG21
import Derived.Test.YtpdeodoidlcdoaaG24
import Derived.Test.YtpdeodoidlcdoaaG25
import Derived.Test.YtpdeodoidlcdoaaG27
import Derived.Test.YtpdeodoidlcdoaaG29
import Derived.Test.YtpdeodoidlcdoaaG32
import Derived.Test.YtpdeodoidlcdoaaG33
import Derived.Deep.RegionHeld3
import Derived.Test.YtpdeodoidlcdoaaG08
import Derived.Lib.SmallJoins
namespace Go.Proofs.Ytpdeodoidlcdoaa
open Go.RowKit

theorem infoHr : (Try.prog.info? 31).map (fun i => (i.zero, i.size, i.bytes)) = some (some (.agg #[.int .i64 0, .int .i64 0, .int .i64 0, .bool false, .int .i64 0, .int .i64 0, .bool false]), 7, 56) := by kernel_rfl
theorem slHr : SlT Try.prog 22 31 7 56 := by
  obtain ⟨i0, hi, hz0, hz1, hz2⟩ := info_parts infoHr
  exact ⟨i0, _, Try.underlying22, hi, hz0, hz1, hz2, rfl, by decide, by decide⟩
theorem infoAd : (Try.prog.info? 47).map (fun i => (i.zero, i.size, i.bytes)) = some (some (.agg #[.string ⟨#[]⟩, .int .i64 0, .int .i64 0, .string ⟨#[]⟩]), 4, 48) := by kernel_rfl
theorem slAd : SlT Try.prog 23 47 4 48 := by
  obtain ⟨i0, hi, hz0, hz1, hz2⟩ := info_parts infoAd
  exact ⟨i0, _, Try.underlying23, hi, hz0, hz1, hz2, rfl, by decide, by decide⟩
theorem infoAds : (Try.prog.info? 23).map (fun i => (i.zero, i.size, i.bytes)) = some (some (.slice none 0 0), 1, 24) := by kernel_rfl
theorem slAds : SlT Try.prog 41 23 1 24 := by
  obtain ⟨i0, hi, hz0, hz1, hz2⟩ := info_parts infoAds
  exact ⟨i0, _, Try.underlying41, hi, hz0, hz1, hz2, rfl, by decide, by decide⟩
theorem Own.rebase {α : Type} {w : World} {base b2 : Nat} {E : TypeId} {k : Nat} {enc : α → List Value} {v : Value} {l : List α} (h : Own w base E k enc v l) (hb : b2 ≤ base) : Own w b2 E k enc v l := by
  obtain ⟨q1, q2⟩ := h
  refine ⟨q1, ?_⟩
  rcases q2 with q2 | ⟨g, cap, cur, e1, e2, r⟩
  · exact Or.inl q2
  · exact Or.inr ⟨g, cap, cur, e1, Nat.le_trans hb e2, r⟩
/-- The breaks that are filled: each slice of advertisements is one that the call has built. -/
def FilW (W : World) (b : Nat) (D : List AdS) : Prop := ∀ y, y ∈ D → Own W b 47 4 encA y.v y.l
theorem FilW.below {w W : World} {b B : Nat} {D : List AdS} (h : FilW w b D) (hb : Below B w W) (hB : w.heap.size ≤ B) : FilW W b D := fun y hy => (h y hy).below hb hB
theorem FilW.keepT {w W : World} {b : Nat} {D : List AdS} (h : FilW w b D) (hk : KeepT 23 w W) : FilW W b D := fun y hy => (h y hy).keepT hk (by decide)
theorem FilW.al {w : World} {b : Nat} {D : List AdS} (h : FilW w b D) (o : Obj) : FilW (w.alloc o) b D := fun y hy => (h y hy).al o
theorem FilW.snoc {w : World} {b : Nat} {D : List AdS} {y : AdS} (h : FilW w b D) (hy : Own w b 47 4 encA y.v y.l) : FilW w b (D ++ [y]) := fun x hx => by
  rcases List.mem_append.1 hx with hx | hx
  · exact h x hx
  · rw [List.mem_singleton.1 hx]; exact hy
theorem FilW.nil {w : World} {b : Nat} : FilW w b [] := fun y hy => by cases hy
/-- How the breaks up to a number are filled. -/
def FilD (l : List Brk) (n : Nat) (D : List AdS) : Prop := D.length = n ∧ (∀ i, i < n → adsF (D.getD i default).l = 0 ∧ sumA (D.getD i default).l ≤ (l.getD i default).en - (l.getD i default).be) ∧ cntS D ≤ 16 * n
theorem FilD.start (l : List Brk) : FilD l 0 [] := ⟨rfl, fun _ hi => absurd hi (Nat.not_lt_zero _), Nat.le_refl _⟩
theorem FilD.next {l : List Brk} {n : Nat} {D : List AdS} {y : AdS} {x : Brk} (h : FilD l n D) (hx : l[n]? = some x) (h1 : adsF y.l = 0) (h2 : sumA y.l ≤ x.en - x.be) (h3 : y.l.length ≤ 16) : FilD l (n + 1) (D ++ [y]) := by
  obtain ⟨e1, e2, e3⟩ := h
  refine ⟨by rw [List.length_append, e1]; rfl, fun i hi => ?_, ?_⟩
  · by_cases hin : i < n
    · have e : (D ++ [y]).getD i default = D.getD i default := by rw [List.getD_eq_getElem?_getD, List.getD_eq_getElem?_getD, List.getElem?_append_left (by omega)]
      rw [e]
      exact e2 i hin
    · obtain rfl : i = n := by omega
      have e : (D ++ [y]).getD i default = y := by rw [List.getD_eq_getElem?_getD, List.getElem?_append_right (by omega), e1, Nat.sub_self]; rfl
      rw [e, getD_of hx]
      exact ⟨h1, h2⟩
  · rw [cntS_append]
    simp only [cntS]
    omega
theorem FilW.wf {w : World} {b : Nat} {D : List AdS} (h : FilW w b D) (hw : ∀ y, y ∈ D → ∀ a, a ∈ y.l → WfA a) : ∀ y, y ∈ D → WfS w y := fun y hy => ⟨(h y hy).sl encA_len, hw y hy⟩
/-- What Breaks makes, read behind what cues are written and read: plain. -/
theorem brkL_no {l : List Hrd} (h : brkF l ≠ 0) : brkL l = [] := by unfold brkL; rw [if_neg h]
theorem cueR_no {c : Cue} (h : checkC c ≠ 0) : cueR c = [] := by unfold cueR; rw [if_neg h]
theorem cueR_yes {c : Cue} (h : checkC c = 0) : readC (cueR c) = ⟨c, 0, 0⟩ := by
  unfold cueR
  rw [if_pos h]
  exact read_write c h
/-- Numbers of a choice, and the advertisements at them. -/
theorem chosA_take (l : List Adv) {B : List Int} {q : Nat} {k : Int} (h : B[q]? = some k) : chosA l (B.take (q + 1)) = chosA l (B.take q) ++ [adAt l k] := by
  unfold chosA
  rw [take_next h, List.map_append]
  rfl
theorem WfA_chos {l : List Adv} {B : List Int} (hw : ∀ a, a ∈ l → WfA a) (hr : ∀ k, k ∈ B → 0 ≤ k ∧ k < l.length) : ∀ a, a ∈ chosA l B → WfA a := fun a ha => by
  unfold chosA at ha
  obtain ⟨k, hk, rfl⟩ := List.mem_map.1 ha
  obtain ⟨k0, k1⟩ := hr k hk
  refine hw _ ?_
  unfold adAt
  rw [getD_of (List.getElem?_eq_getElem (by omega : k.toNat < l.length))]
  exact List.getElem_mem _
/-- The sums of a timeline's parts. -/
theorem sumL_upto {l : List Prt} (h : checkP l = 0) {P : Int} (hs : sumL l = P) : ∀ k, 0 ≤ sumL (l.take k) ∧ sumL (l.take k) ≤ P ∧ P ≤ 1000000000000000 := by
  obtain ⟨_, hpf, hsum, _⟩ := checkP_parts h
  have hnn : ∀ m : List Prt, (∀ p, p ∈ m → pf p = 0) → 0 ≤ sumL m := by
    intro m
    induction m with
    | nil => intro _; simp [sumL]
    | cons p r ih =>
      intro hm
      have h1 := ih fun q hq => hm q (by simp [hq])
      obtain ⟨_, h2, _⟩ := pf_zero (hm p (by simp))
      simp only [sumL]
      omega
  intro k
  have h1 := hnn (l.take k) fun q hq => hpf q (List.mem_of_mem_take hq)
  have h2 := hnn (l.drop k) fun q hq => hpf q (List.mem_of_mem_drop hq)
  have e : sumL l = sumL (l.take k) + sumL (l.drop k) := by rw [← sumL_append, List.take_append_drop]
  omega
theorem sumL_next {l : List Prt} {k : Nat} {p : Prt} (h : l[k]? = some p) : sumL (l.take (k + 1)) = sumL (l.take k) + p.ln := by
  rw [take_next h, sumL_append]
  simp [sumL]
/-- What a timeline of breaks that are filled comes to. -/
structure TlnOk (P : Int) (F : Int) (L : List Prt) : Prop where
  bad : F ≠ 0 → F = 2 ∨ P < 0 ∨ 1000000000000000 < P
  good : F = 0 → checkP L = 0 ∧ sumL L = P
theorem tln_ok {P : Int} {l0 : List Brk} {D : List AdS} (hc0 : checkB l0 = 0) (hD : FilD (shortL l0 (max 0 (min P 1000000000000000))) (shortL l0 (max 0 (min P 1000000000000000))).length D) :
    TlnOk P (repRF P (shortL l0 (max 0 (min P 1000000000000000))) D) (repRL P (shortL l0 (max 0 (min P 1000000000000000))) D) := by
  by_cases hP : 0 ≤ P ∧ P ≤ 1000000000000000
  · have e : max 0 (min P 1000000000000000) = P := by omega
    rw [e] at hD ⊢
    obtain ⟨_, hc, hin⟩ := short_right hc0 hP
    rcases filled_sum hP.2 hP.1 hc hD.1.symm hin hD.2.1 with h | ⟨h, h2⟩
    · exact ⟨fun _ => .inl h, fun h0 => by rw [h] at h0; cases h0⟩
    · exact ⟨fun h0 => absurd h h0, fun _ => h2⟩
  · have h1 : outB P 0 1000000000000000 = true := by
      unfold outB
      simp only [Bool.or_eq_true, decide_eq_true_eq]
      omega
    exact ⟨fun _ => .inr (by omega), fun h0 => by rw [repRF_out h1] at h0; cases h0⟩
theorem FlP.bad2 {w w' : World} {l : List Adv} {m : Int} {e : Ending} (h : FlP w l m e w') (h0 : fillF l m ≠ 0) : e = .returned (.tuple #[.slice none 0 0, .int .i64 0, .int .i64 (fillF l m)]) ∧ Below w.heap.size w w' := by
  obtain ⟨hb, h | h⟩ := h
  · exact ⟨h.2, hb⟩
  · exact absurd h.1 h0
theorem FlP.good2 {w w' : World} {l : List Adv} {m : Int} {e : Ending} (h : FlP w l m e w') (h0 : fillF l m = 0) : ∃ B v, okL l m B ∧ Sl w' 1 encI v B ∧ e = .returned (.tuple #[v, .int .i64 (selV l B), .int .i64 0]) ∧ Below w.heap.size w w' := by
  obtain ⟨hb, h | ⟨_, B, v, h1, h2, h3⟩⟩ := h
  · exact absurd h0 h.1
  · exact ⟨B, v, h1.1, h2, h3, hb⟩
/-- A choice that Fill has made. -/
def GotB (w : World) (l : List Adv) (m : Int) (v : Value) : Prop := ∃ B, okL l m B ∧ Sl w 1 encI v B
end Go.Proofs.Ytpdeodoidlcdoaa

/- TopCuesMakeTimelines: the walk. -/
namespace Go.Proofs.Ytpdeodoidlcdoaa
open Go.RowKit

def TlnP (w : World) : Ending → World → Prop := fun e w' => e = .returned (.bool true) ∧ Below w.heap.size w w'
set_option maxRecDepth 100000 in
set_option maxHeartbeats 4000000 in
theorem tln_any (w : World) (cues : List Hrd) (u : Value) (ads : List Adv) (v : Value) (P : Int) (hs : Sl w 7 encH u cues) (hl : Sl w 4 encA v ads) (hw : ∀ a, a ∈ ads → WfA a) (hP : -9223372036854775808 ≤ P ∧ P ≤ 9223372036854775807) (hr : cues.length * 56 ≤ 140737488355328) :
    Calls Try.prog 3 #[u, v, .int .i64 P] w (TlnP w) := by
  have HS := Lib.hid hs
  have HL := Lib.hid hl
  obtain ⟨ao, cap, rfl, hcap, hmax, _, hel⟩ := hs
  obtain ⟨bo, bcap, rfl, hbcap, hbmax, _, hem⟩ := hl
  unfold maxLen at hmax hbmax
  have HEL := Lib.hid hel
  have HEM := Lib.hid hem
  have HW := Lib.hid hw
  clear hel hem hw
  have HCB := Lib.hid (fun c W => CueBytes_any c W)
  have HRD := Lib.hid (fun W m u (h : Sl W 1 encU u m) => ReadCue_any W m u h)
  go_enter Try.func3, Try.ntmps3
  go_wp2
  go_loopg [7, 8] cues.length (fun gg s7 s8 wr => ∃ k : Nat, k ≤ cues.length ∧ cues.length - k ≤ gg ∧ s8 = .int .i64 k ∧ Aside (Below w.heap.size w wr) ∧ Aside (Own wr w.heap.size 31 7 encH s7 (cues.take k)))
  case atStart => exact ⟨0, by omega, by omega, rfl, (show Aside _ from Below.refl _ _), (show Own _ _ _ _ _ _ _ from Own.nil)⟩
  case round =>
    obtain ⟨k, hk, hgk, rfl, BW, OW⟩ := hrel
    obtain ⟨ta, tL, tc, rfl⟩ := Own.slv encH_len OW.out
    by_cases hkl : k < cues.length
    · have hkz : (k : Int) < (cues.length : Int) := by omega
      obtain ⟨x, hx⟩ : ∃ x, cues[k]? = some x := ⟨cues[k], by simp [hkl]⟩
      obtain ⟨xb, xo, rfl, hxc⟩ := HEL.out k x hx
      have hlt0 : xb < w.heap.size := World.block_lt_of_cell? w _ (hxc 0 _ rfl)
      have HLT := Lib.hid hlt0
      have HXC := Lib.hid hxc
      have HNX := Lib.hid (take_next hx)
      have c1 := (BW.out.cell (p := ⟨xb, xo + k * 7 + 1, none⟩) hlt0).trans (hxc 1 _ rfl)
      have c2 := (BW.out.cell (p := ⟨xb, xo + k * 7 + 2, none⟩) hlt0).trans (hxc 2 _ rfl)
      have c3 := (BW.out.cell (p := ⟨xb, xo + k * 7 + 3, none⟩) hlt0).trans (hxc 3 _ rfl)
      have c4 := (BW.out.cell (p := ⟨xb, xo + k * 7 + 4, none⟩) hlt0).trans (hxc 4 _ rfl)
      have c5 := (BW.out.cell (p := ⟨xb, xo + k * 7 + 5, none⟩) hlt0).trans (hxc 5 _ rfl)
      have c6 := (BW.out.cell (p := ⟨xb, xo + k * 7 + 6, none⟩) hlt0).trans (hxc 6 _ rfl)
      clear hxc hlt0 hx
      go_wp2_with fail
      refine (HCB.out x.cu wr).mono ?_
      rintro e w1 ⟨y, rfl, hy, hb⟩
      have HB1 := Lib.hid (BW.out.thru hb)
      have HY1 := Lib.hid hy
      have HO1 := Lib.hid (OW.out.below hb (Nat.le_refl _))
      clear c1 c2 c3 c4 c5 c6
      obtain ⟨F, hF⟩ : ∃ F, F = checkC x.cu := ⟨_, rfl⟩
      have HF := Lib.hid hF
      obtain ⟨yo, yc, rfl, hyc, hym, _, _⟩ := hy
      unfold maxLen at hym
      rw [← hF]
      clear hb hF
      by_cases hF0 : F = 0
      case neg =>
        have hne : (F != 0) = true := by simpa using hF0
        have hl0 : (cueR x.cu).length = 0 := by rw [cueR_no (by rw [← HF.out]; exact hF0)]; rfl
        clear hF0
        go_wp2_with (go_at_call 5; refine (comes_any _).mono ?_; rintro e w6 ⟨rfl, hb6⟩)
        go_ret
        exact ⟨rfl, HB1.out.thru hb6⟩
      subst hF0
      have hrd := HRD.out _ _ _ HY1.out
      rw [cueR_yes HF.out.symm] at hrd
      have HRX := Lib.hid hrd
      clear hrd
      go_wp2_with fail
      refine HRX.out.mono ?_
      rintro e w2 ⟨rfl, hb⟩
      have HB2 := Lib.hid (HB1.out.thru hb)
      have HO2 := Lib.hid (HO1.out.below hb (Nat.le_refl _))
      clear hb HRX
      obtain ⟨w3, hw3⟩ : ∃ w3, w3 = w2.alloc (boxC x.cu) := ⟨_, rfl⟩
      have HB3 : Hid (Below w.heap.size w w3) := Lib.hid (by rw [hw3]; exact HB2.out.alloc HB2.out.size _)
      have HO3 : Hid (Own w3 w.heap.size 31 7 encH (.slice ta tL tc) (cues.take k)) := Lib.hid (by rw [hw3]; exact HO2.out.al _)
      have HK3 : Hid (w3.heap[w2.heap.size]? = some (boxC x.cu)) := Lib.hid (by rw [hw3]; exact block_new w2 _)
      have HW3 := Lib.hid hw3
      clear hw3
      go_upto_region 11 with (fail)
      rw [← HW3.out]
      have d0 : w3.cell? ⟨xb, xo + k * 7, none⟩ = some (.int .i64 x.at_) := by have h := (HB3.out.cell (p := ⟨xb, xo + k * 7 + 0, none⟩) HLT.out).trans (HXC.out 0 _ rfl); simpa using h
      have r0 := (cell_of_block (i := 0) HK3.out).trans rfl
      have r1 := (cell_of_block (i := 1) HK3.out).trans rfl
      have r2 := (cell_of_block (i := 2) HK3.out).trans rfl
      have r3 := (cell_of_block (i := 3) HK3.out).trans rfl
      have r4 := (cell_of_block (i := 4) HK3.out).trans rfl
      have r5 := (cell_of_block (i := 5) HK3.out).trans rfl
      have hln : ((cues.take k).length + 1) * 56 ≤ 140737488355328 := by rw [List.length_take]; omega
      go_region_law (refine step_push rfl _ _ 22 rfl slHr rfl rfl x rfl rfl rfl HO3.out (by simp) hln HB3.out.size ?_; intro v4 w4 ho4 hb4; rw [← HNX.out] at ho4; have HO4 := Lib.hid ho4; have HB4 := Lib.hid (HB3.out.trans hb4); clear ho4 hb4)
      all_goals
        clear d0 r0 r1 r2 r3 r4 r5
        go_wp2
        go_roundg (cues.length - (k + 1))
        case measure => omega
        case rel => exact ⟨k + 1, by omega, by omega, by go_num, HB4.out, HO4.out⟩
    · obtain rfl : k = cues.length := by omega
      have HO := OW.out
      rw [List.take_length] at HO
      have HB := Lib.hid BW.out
      have HBK := Lib.hid (breaks_any wr cues _ (HO.sl encH_len))
      have HNO := Lib.hid (fun (h : brkF cues ≠ 0) => brkL_no h)
      have HRT := Lib.hid (fun (h : brkF cues = 0) => brk_right h)
      generalize brkL cues = L at HBK HNO HRT
      generalize brkI cues = I at HBK
      generalize brkF cues = F at HBK HNO HRT
      clear HO OW BW HEL HCB HRD HS
      go_wp2_with fail
      refine HBK.out.mono ?_
      rintro e w1 ⟨v1, u1, rfl, hs1, _, hb1⟩
      have HB1 := Lib.hid (HB.out.thru hb1)
      have HS1 := Lib.hid hs1
      obtain ⟨lo, lc, rfl, hlc1, hlc2, _, _⟩ := hs1
      unfold maxLen at hlc2
      clear hb1 HBK HB
      by_cases hF : F = 0
      case neg =>
        obtain rfl := HNO.out hF
        have hne : (F != 0) = true := by simpa using hF
        clear hF
        go_wp2_with (go_at_call 5; refine (comes_any _).mono ?_; rintro e w6 ⟨rfl, hb6⟩)
        go_ret
        exact ⟨rfl, HB1.out.thru hb6⟩
      subst hF
      obtain ⟨t, ht⟩ : ∃ t : Int, t = max 0 (min P 1000000000000000) := ⟨_, rfl⟩
      have hcb := HRT.out rfl
      have hsh := short_right (l := L) (e := t) hcb (by omega)
      have HSH := Lib.hid (shortened_any w1 L _ t HS1.out)
      have HTK := Lib.hid (fun D => tln_ok (P := P) (l0 := L) (D := D) hcb)
      have HT := Lib.hid ht
      rw [← ht] at HTK
      rw [hsh.1] at HSH
      generalize shortL L t = M at HSH HTK hsh
      have HM1 := Lib.hid hsh.2.1
      have HM2 := Lib.hid hsh.2.2
      have hm200 := (checkB_all hsh.2.1).1
      clear hsh hcb HRT HNO
      have htz : (max (0 : Int) (min P 1000000000000000)) = t := ht.symm
      clear ht
      clear htz
      go_upto_region 15 with (fail)
      go_cut [13, 15] (fun s13 s15 wc => s15 = .int .i64 0 ∧ Aside (Sl wc 3 encB s13 M) ∧ Aside (Below w.heap.size w wc))
      case first =>
        go_wp2_with fail
        all_goals
          have e := HT.out
          have H2 := HSH.out
          first
          | (have e2 : t = 1000000000000000 := by omega
             rw [e2] at H2)
          | (have e2 : t = 0 := by omega
             rw [e2] at H2)
          | (have e2 : t = P := by omega
             rw [e2] at H2)
          clear e
          with_reducible refine H2.mono ?_
          rintro e w2 ⟨v2, rfl, hs2, hb2⟩
          have HS2 := Lib.hid hs2
          have HB2 := Lib.hid (HB1.out.thru hb2)
          clear hs2 hb2
          go_wp2
          go_meet
          exact ⟨rfl, HS2.out, HB2.out⟩
      obtain ⟨rfl, HS2, HB2⟩ := hcut
      obtain ⟨wz, rfl⟩ : ∃ wz : World, wz = wc := ⟨_, rfl⟩
      obtain ⟨mo, mc, rfl, hmc1, hmc2, _, hme⟩ := HS2.out
      have HME := Lib.hid hme
      have HMS := Lib.hid HS2.out
      have HBM := Lib.hid HB2.out
      unfold maxLen at hmc2
      clear hme HS2 HB2 HSH HB1 HS1
      obtain ⟨N, hN⟩ : ∃ N, N = wz.heap.size := ⟨_, rfl⟩
      have HN := Lib.hid hN
      have hNW : w.heap.size ≤ N := by rw [hN]; exact HBM.out.size
      clear hN
      go_wp2
      go_loopg [16, 17] M.length (fun gg s16 s17 wq => ∃ (i : Nat) (D : List AdS), i ≤ M.length ∧ M.length - i ≤ gg ∧ s17 = .int .i64 i ∧ Aside (Below N wz wq) ∧ Aside (Own wq N 23 1 encS s16 D) ∧ Aside (FilW wq N D) ∧ Aside (FilD M i D) ∧ Aside (∀ y, y ∈ D → ∀ a, a ∈ y.l → WfA a))
      case atStart => exact ⟨0, [], by omega, by omega, rfl, (show Aside _ from Below.refl _ _), (show Own _ _ _ _ _ _ _ from Own.nil), (show Aside _ from FilW.nil), (show Aside _ from FilD.start M), (show Aside _ from fun y hy => by cases hy)⟩
      case round =>
        obtain ⟨wq, rfl⟩ : ∃ wq : World, wq = wr := ⟨_, rfl⟩
        obtain ⟨i, D, hi, hgi, rfl, BQ, OQ, FQ, DQ, WQ⟩ := hrel
        obtain ⟨fa, fL, fc, rfl⟩ := Own.slv encS_len OQ.out
        have hqN : N ≤ wq.heap.size := by have h1 := BQ.out.size; have h2 := HN.out; omega
        have HBQ : Hid (Below w.heap.size w wq) := Lib.hid (HBM.out.trans (BQ.out.mono hNW))
        by_cases him : i < M.length
        · have himz : (i : Int) < (M.length : Int) := by omega
          obtain ⟨x, hx⟩ : ∃ x, M[i]? = some x := ⟨M[i], by simp [him]⟩
          obtain ⟨xb, xo, rfl, hxc⟩ := HME.out i x hx
          have hlt0 : xb < N := by rw [HN.out]; exact World.block_lt_of_cell? wz _ (hxc 0 _ rfl)
          have c1 := (BQ.out.cell (p := ⟨xb, xo + i * 3 + 1, none⟩) hlt0).trans (hxc 1 _ rfl)
          have c2 := (BQ.out.cell (p := ⟨xb, xo + i * 3 + 2, none⟩) hlt0).trans (hxc 2 _ rfl)
          have hin := HM2.out i him
          rw [getD_of hx] at hin
          obtain ⟨hn1, hn2, hn3⟩ := hin
          have ht2 : t ≤ 1000000000000000 := by have := HT.out; omega
          have hzw : IntKind.i64.wrap (x.en - x.be) = x.en - x.be := IntWalk.i64_in _ (by omega)
          have HFL := Lib.hid (fun (W : World) (hb : Below wq.heap.size wq W) => Fill_any W ads _ (x.en - x.be) (HL.out.below (HBQ.out.thru hb) (Nat.le_refl _)) (fun a ha => ⟨(HW.out a ha).1, (HW.out a ha).2.1⟩))
          have HX := Lib.hid hx
          have hxb : xb < wq.heap.size := by omega
          have HQ : Below wq.heap.size wq wq.drew := (Below.refl _ wq).drew
          clear hx hxc hlt0
          go_upto_region 22 with (fail)
          by_cases h0 : fillF ads (x.en - x.be) = 0
          case neg =>
            have HBD := Lib.hid (fun (W : World) (hb : Below wq.heap.size wq W) => (HFL.out W hb).mono fun e w' h => h.bad2 h0)
            generalize fillF ads (x.en - x.be) = f at HBD h0
            clear HFL
            go_cut [18, 20] (fun s18 s20 wd => s18 = .slice none 0 0 ∧ s20 = .int .i64 f ∧ Aside (Below w.heap.size w wd))
            case first =>
              go_region_held3 (fun w' => w'.cell? ⟨xb, xo + i * 3 + 1, none⟩ = some (.int .i64 x.be) ∧ w'.cell? ⟨xb, xo + i * 3 + 2, none⟩ = some (.int .i64 x.en))
                (first | exact ⟨(HQ.cell (p := ⟨xb, xo + i * 3 + 1, none⟩) hxb).trans c1, (HQ.cell (p := ⟨xb, xo + i * 3 + 2, none⟩) hxb).trans c2⟩ | fail)
                (first | (go_at_call 9; (with_reducible refine (HBD.out _ HQ).mono ?_); rintro e w' ⟨rfl, hb⟩; have HQ := HQ.trans (hb.mono HQ.size)) | fail)
              go_wp2_with fail
              go_meet
              exact ⟨rfl, rfl, HBQ.out.thru HQ⟩
            obtain ⟨rfl, rfl, HBC⟩ := hcut
            have hne : (f != 0) = true := by simpa using h0
            go_wp2_with (go_at_call 5; refine (comes_any _).mono ?_; rintro e w6 ⟨rfl, hb6⟩)
            go_ret
            exact ⟨rfl, HBC.out.thru hb6⟩
          have HBD := Lib.hid (fun (W : World) (hb : Below wq.heap.size wq W) => (HFL.out W hb).mono fun e w' h => h.good2 h0)
          have HCO := Lib.hid (fun B hB => chos_ok (B := B) h0 hB)
          clear HFL h0
          go_cut [18, 20] (fun s18 s20 wd => s20 = .int .i64 0 ∧ Aside (GotB wd ads (x.en - x.be) s18) ∧ Aside (Below wq.heap.size wq wd))
          case first =>
            go_region_held3 (fun w' => w'.cell? ⟨xb, xo + i * 3 + 1, none⟩ = some (.int .i64 x.be) ∧ w'.cell? ⟨xb, xo + i * 3 + 2, none⟩ = some (.int .i64 x.en))
              (first | exact ⟨(HQ.cell (p := ⟨xb, xo + i * 3 + 1, none⟩) hxb).trans c1, (HQ.cell (p := ⟨xb, xo + i * 3 + 2, none⟩) hxb).trans c2⟩ | fail)
              (first | (go_at_call 9; (with_reducible refine (HBD.out _ HQ).mono ?_); rintro e w' ⟨B, vB, hBo, hBs, rfl, hb⟩; have HQ := HQ.trans (hb.mono HQ.size); have HGB := Lib.hid (show GotB w' ads (x.en - x.be) vB from ⟨B, hBo, hBs⟩); clear hBo hBs) | fail)
            go_wp2_with fail
            go_meet
            exact ⟨rfl, HGB.out, HQ⟩
          obtain ⟨rfl, HG, HBD⟩ := hcut
          obtain ⟨wd, rfl⟩ : ∃ wd : World, wd = wc := ⟨_, rfl⟩
          obtain ⟨B, hBo, hBs⟩ := HG.out
          obtain ⟨ha1, ha2, ha3⟩ := HCO.out B hBo
          have hBr := hBo.rng
          obtain ⟨eo, ec, rfl, hec1, hec2, _, hee⟩ := hBs
          unfold maxLen at hec2
          have HBE := Lib.hid hee
          have HBR := Lib.hid hBr
          have HA1 := Lib.hid ha1
          have HA2 := Lib.hid ha2
          have HA3 := Lib.hid ha3
          have HBQD := Lib.hid HBD.out
          have HWF := Lib.hid (WfA_chos HW.out hBr)
          have hB16 : B.length ≤ 16 := by have := ha3; unfold chosA at this; rw [List.length_map] at this; exact this
          clear hee hBr ha1 ha2 ha3 hBo HG HBD HCO c1 c2 HQ
          have HEMD := Lib.hid (el_below HEM.out (HBQ.out.thru HBQD.out) (Nat.le_refl _))
          go_wp2
          go_loopg [21, 22] B.length (fun g3 s21 s22 wp => ∃ q : Nat, q ≤ B.length ∧ B.length - q ≤ g3 ∧ s22 = .int .i64 q ∧ Aside (Below wd.heap.size wd wp) ∧ Aside (Own wp wd.heap.size 47 4 encA s21 (chosA ads (B.take q))))
          case atStart => exact ⟨0, by omega, by omega, rfl, (show Aside _ from Below.refl _ _), (show Own _ _ _ _ _ _ _ from Own.nil)⟩
          case round =>
            obtain ⟨wp, rfl⟩ : ∃ wp : World, wp = wr := ⟨_, rfl⟩
            obtain ⟨q, hq, hg3, rfl, BP, OP⟩ := hrel
            obtain ⟨pa, pL, pc, rfl⟩ := Own.slv encA_len OP.out
            by_cases hqb : q < B.length
            · have hqz : (q : Int) < (B.length : Int) := by omega
              obtain ⟨kz, hkz⟩ : ∃ kz, B[q]? = some kz := ⟨B[q], by simp [hqb]⟩
              obtain ⟨k0, k1⟩ := HBR.out kz (List.mem_of_getElem? hkz)
              obtain ⟨eb, eof, rfl, hec⟩ := HBE.out q kz hkz
              have hlt1 : eb < wd.heap.size := World.block_lt_of_cell? wd _ (hec 0 _ rfl)
              have d0 : wp.cell? ⟨eb, eof + q, none⟩ = some (.int .i64 kz) := by have h := (BP.out.cell (p := ⟨eb, eof + q * 1 + 0, none⟩) hlt1).trans (hec 0 _ rfl); simpa using h
              obtain ⟨kn, rfl⟩ := Int.eq_ofNat_of_zero_le k0
              have hka : ads[kn]? = some (adAt ads (kn : Int)) := by
                unfold adAt
                rw [Int.toNat_natCast, List.getD_eq_getElem?_getD, List.getElem?_eq_getElem (show kn < ads.length by omega)]
                rfl
              obtain ⟨y, hy⟩ : ∃ y, y = adAt ads (kn : Int) := ⟨_, rfl⟩
              rw [← hy] at hka
              obtain ⟨ab, aof, rfl, hac⟩ := HEMD.out kn y hka
              have hlt2 : ab < wd.heap.size := World.block_lt_of_cell? wd _ (hac 0 _ rfl)
              have e0 : wp.cell? ⟨ab, aof + kn * 4, none⟩ = some (.string y.na) := by have h := (BP.out.cell (p := ⟨ab, aof + kn * 4 + 0, none⟩) hlt2).trans (hac 0 _ rfl); simpa using h
              have e1 := (BP.out.cell (p := ⟨ab, aof + kn * 4 + 1, none⟩) hlt2).trans (hac 1 _ rfl)
              have e2 := (BP.out.cell (p := ⟨ab, aof + kn * 4 + 2, none⟩) hlt2).trans (hac 2 _ rfl)
              have e3 := (BP.out.cell (p := ⟨ab, aof + kn * 4 + 3, none⟩) hlt2).trans (hac 3 _ rfl)
              have HNX : Hid (chosA ads (B.take (q + 1)) = chosA ads (B.take q) ++ [y]) := Lib.hid (by rw [chosA_take ads hkz, hy])
              have hln : ((chosA ads (B.take q)).length + 1) * 48 ≤ 140737488355328 := by unfold chosA; rw [List.length_map, List.length_take]; omega
              have HLN := Lib.hid hln
              clear hkz hec hka hac hy hlt1 hlt2 hln
              go_wp2_with (at_builtin; go_loud (refine wpList_push rfl _ _ 23 rfl slAd rfl rfl y rfl rfl rfl OP.out rfl HLN.out BP.out.size ?_); intro v5 w5 ho5 hb5; rw [← HNX.out] at ho5; have HO5 := Lib.hid ho5; have HB5 := Lib.hid (BP.out.trans hb5); clear ho5 hb5)
              go_roundg (B.length - (q + 1))
              case measure => omega
              case rel => exact ⟨q + 1, by omega, by omega, by go_num, HB5.out, HO5.out⟩
            · obtain rfl : q = B.length := by omega
              have HOA := Lib.hid OP.out
              rw [List.take_length] at HOA
              have HBQP := Lib.hid (HBQD.out.thru BP.out)
              have HOF := Lib.hid (OQ.out.below HBQP.out (Nat.le_refl _))
              have HFP := Lib.hid (FQ.out.below HBQP.out (Nat.le_refl _))
              have hwp : N ≤ wp.heap.size := by have := HBQP.out.size; omega
              have hdl : D.length = i := DQ.out.1
              have HDL : Hid ((D.length + 1) * 24 ≤ 140737488355328) := Lib.hid (by omega)
              have HBN : Hid (Below N wz wp) := Lib.hid (BQ.out.trans (HBQP.out.mono hqN))
              have HOR := Lib.hid (HOA.out.rebase (show N ≤ wd.heap.size by have := HBQD.out.size; omega))
              have HDN := Lib.hid (DQ.out.next (y := ⟨.slice pa pL pc, chosA ads B⟩) HX.out HA1.out HA2.out HA3.out)
              have HWD := Lib.hid WQ.out
              clear hdl OP BP HOA OQ FQ DQ WQ HEMD HBE HBR
              go_wp2_with (at_builtin; go_loud (refine wpList_pushK rfl _ _ 41 rfl slAds rfl rfl ⟨.slice pa pL pc, chosA ads B⟩ rfl rfl rfl HOF.out rfl HDL.out hwp ?_); intro v6 w6 ho6 hb6 hk6; have HO6 := Lib.hid ho6; have HB6 := Lib.hid (HBN.out.trans hb6); have HF6 := Lib.hid ((HFP.out.snoc (y := ⟨.slice pa pL pc, chosA ads B⟩) HOR.out).keepT hk6); clear ho6 hb6 hk6)
              go_roundg (M.length - (i + 1))
              case measure => omega
              case rel => exact ⟨i + 1, _, by omega, by omega, by go_num, HB6.out, HO6.out, HF6.out, HDN.out, (show Aside _ from fun z hz => by
                rcases List.mem_append.1 hz with hz | hz
                · exact HWD.out z hz
                · rw [List.mem_singleton.1 hz]; exact HWF.out)⟩
        · obtain rfl : i = M.length := by omega
          have hcnt : cntS D ≤ 1000000000 := by have := DQ.out.2.2; omega
          have HRP := Lib.hid (replaced_any wq P M _ D _ (HMS.out.below BQ.out (by rw [HN.out]; exact Nat.le_refl _)) (OQ.out.sl encS_len) (FQ.out.wf WQ.out) hcnt)
          have hok := HTK.out D DQ.out
          generalize repRF P M D = F2 at HRP hok
          generalize repRL P M D = L2 at HRP hok
          have HOK := Lib.hid hok
          clear hok hcnt BQ OQ FQ DQ WQ HTK HMS HME
          go_wp2_with fail
          refine HRP.out.mono ?_
          rintro e w7 ⟨v7, rfl, hs7, hb7⟩
          have HB7 := Lib.hid (HBQ.out.thru hb7)
          obtain ⟨go, gc, rfl, hgc1, hgc2, _, hge⟩ := hs7
          unfold maxLen at hgc2
          have HGE := Lib.hid hge
          clear hge hb7 HRP
          by_cases hF2 : F2 = 0
          case neg =>
            have hb := HOK.out.bad hF2
            have hne : (F2 != 0) = true := by simpa using hF2
            clear HOK HGE
            by_cases h2 : F2 = 2
            · subst h2
              clear hb hne hF2
              go_wp2_with (go_at_call 5; refine (comes_any _).mono ?_; rintro e w8 ⟨rfl, hb8⟩)
              go_ret
              exact ⟨rfl, HB7.out.thru hb8⟩
            have h2b : (F2 == 2) = false := by simpa using h2
            by_cases h3 : P < 0
            · clear hb hF2
              go_wp2_with (go_at_call 5; refine (comes_any _).mono ?_; rintro e w8 ⟨rfl, hb8⟩)
              go_ret
              exact ⟨rfl, HB7.out.thru hb8⟩
            have h4 : 1000000000000000 < P := by omega
            clear hb hF2
            go_wp2_with (go_at_call 5; refine (comes_any _).mono ?_; rintro e w8 ⟨rfl, hb8⟩)
            go_ret
            exact ⟨rfl, HB7.out.thru hb8⟩
          subst hF2
          obtain ⟨hch, hsum⟩ := HOK.out.good rfl
          have HSU := Lib.hid (sumL_upto hch hsum)
          have HSQ := Lib.hid hsum
          clear HOK hch hsum
          go_wp2
          go_loopg [24, 25] L2.length (fun gg s24 s25 wt => ∃ q : Nat, q ≤ L2.length ∧ L2.length - q ≤ gg ∧ s25 = .int .i64 q ∧ s24 = .int .i64 (sumL (L2.take q)) ∧ Aside (Below w7.heap.size w7 wt))
          case atStart => exact ⟨0, by omega, by omega, rfl, rfl, (show Aside _ from Below.refl _ _)⟩
          case round =>
            obtain ⟨wt, rfl⟩ : ∃ wt : World, wt = wr := ⟨_, rfl⟩
            obtain ⟨q, hq, hgq, rfl, rfl, BT⟩ := hrel
            by_cases hql : q < L2.length
            · have hqz : (q : Int) < (L2.length : Int) := by omega
              obtain ⟨p, hp⟩ : ∃ p, L2[q]? = some p := ⟨L2[q], by simp [hql]⟩
              obtain ⟨pb, po, rfl, hpc⟩ := HGE.out q p hp
              have hlt3 : pb < w7.heap.size := World.block_lt_of_cell? w7 _ (hpc 0 _ rfl)
              have c2 := (BT.out.cell (p := ⟨pb, po + q * 3 + 2, none⟩) hlt3).trans (hpc 2 _ rfl)
              have HNX := Lib.hid (sumL_next hp)
              have h1 := HSU.out (q + 1)
              have hzw : IntKind.i64.wrap (sumL (L2.take q) + p.ln) = sumL (L2.take q) + p.ln := IntWalk.i64_in _ (by rw [← HNX.out]; omega)
              obtain ⟨z, hz⟩ : ∃ z, z = sumL (L2.take q) := ⟨_, rfl⟩
              rw [← hz] at hzw HNX ⊢
              clear hp hpc hlt3 hz h1
              go_wp2
              go_roundg (L2.length - (q + 1))
              case measure => omega
              case rel => exact ⟨q + 1, by omega, by omega, by go_num, (by rw [HNX.out]), BT.out⟩
            · obtain rfl : q = L2.length := by omega
              have hT : sumL (L2.take L2.length) = P := by rw [List.take_length]; exact HSQ.out
              rw [hT]
              have HBT := Lib.hid (HB7.out.thru BT.out)
              clear hT BT HGE HSU HSQ
              go_wp2_with (go_at_call 5; refine (comes_any _).mono ?_; rintro e w8 ⟨rfl, hb8⟩)
              go_ret
              exact ⟨rfl, HBT.out.thru hb8⟩
end Go.Proofs.Ytpdeodoidlcdoaa

/- Cues that are heard, and advertisements, among the arguments. -/
namespace Go.Proofs.Ytpdeodoidlcdoaa
open Go.RowKit Go.ChangeShapes Go.WideShapes Go.Deep

theorem cellsStrP : Try.prog.cellsOf 9 = 1 := by kernel_rfl
theorem cellsAd : Try.prog.cellsOf 47 = 4 := by kernel_rfl
set_option maxRecDepth 100000 in
theorem decAd (w : World) : Dec Try.prog w 47 encA WfA := by
  intro H enc n cs x h
  obtain ⟨y0, y1, y2, y3, n, _, hl, h0, h1, h2, h3⟩ := Go.Joins.trod_struct4 Try.underlying47 h
  rw [cellsAd] at hl
  match cs, hl with
  | [a, b, c, d], _ =>
    simp only [cellsI, cellsStrP] at h0 h1 h2 h3
    obtain ⟨a', e0, _, w0⟩ := DataW.trod_string Try.underlying9 h0
    obtain ⟨b', e1, _, w1⟩ := DataW.trod_int Try.underlying3 h1
    obtain ⟨c', e2, _, w2⟩ := DataW.trod_int Try.underlying3 h2
    obtain ⟨d', e3, _, w3⟩ := DataW.trod_string Try.underlying9 h3
    simp at e0 e1 e2 e3
    subst e0 e1 e2 e3
    exact ⟨⟨a', b', c', d'⟩, rfl, by simpa [maxLen] using w0, by simpa [maxLen] using w3, I64.of w1, I64.of w2⟩

end Go.Proofs.Ytpdeodoidlcdoaa

/- adsFault of the program. -/
import Derived.Test.YtpdeodoidlcdoaaG12
import Derived.Test.YtpdeodoidlcdoaaG05
import Derived.Test.YtpdeodoidlcdoaaProg
namespace Go.Proofs.Ytpdeodoidlcdoaa
open Go.RowKit

theorem sameNameA (x y : Adv) (B : Nat) (W : World) (hc : W.cell? ⟨B, 0, none⟩ = some (.string x.na)) :
    Calls Try.prog 42 #[.agg #[.string y.na, .int .i64 y.ln, .int .i64 y.va, .string y.ri], .pointer (some ⟨B, 0, none⟩)] W fun e w' => e = .returned (.bool (sameA y x)) ∧ Below W.heap.size W w' := by
  have hlt := World.block_lt_of_cell? W _ hc
  go_enter Try.func42, Try.ntmps42
  go_wp2
  go_ret
  exact ⟨rfl, (Below.refl _ _).alloc (Nat.le_refl _) _⟩

set_option maxRecDepth 100000 in
set_option maxHeartbeats 4000000 in
theorem adsFault_any (w : World) (l : List Adv) (v : Value) (hl : Sl w 4 encA v l) (hw : ∀ x, x ∈ l → WfF x) :
    Calls Try.prog 23 #[v] w fun e w' => e = .returned (.int .i64 (adsG l)) ∧ Below w.heap.size w w' := by
  have hl0 := Lib.hid hl
  obtain ⟨ao, cap, rfl, hcap, hmax, hnil, hel⟩ := hl
  unfold maxLen at hmax
  by_cases hbig : 16 < l.length
  · have hv : Hid (2 = adsG l) := Lib.hid (by simp [adsG, hbig])
    clear hel hl0
    go_enter Try.func23, Try.ntmps23
    go_wp2
    go_ret
    exact ⟨ret_int hv.out, Below.refl _ _⟩
  have HF : Hid (adsG l = FF (afAt l) l.length) := Lib.hid (by simp [adsG, hbig])
  generalize adsG l = F at HF ⊢
  have HW := Lib.hid hw
  have HEL := Lib.hid hel
  clear hw hel
  go_enter Try.func23, Try.ntmps23
  go_wp2
  go_loopg [3, 10] l.length (fun gg _ s10 wr => ∃ kk : Nat, kk ≤ l.length ∧ l.length - kk ≤ gg ∧ s10 = .int .i64 kk ∧ Aside (Below w.heap.size w wr) ∧ Aside (∀ j, j < kk → afAt l j = 0))
  case atStart => exact ⟨0, Nat.zero_le _, by omega, rfl, Below.refl _ w, fun j hj => absurd hj (Nat.not_lt_zero _)⟩
  case round =>
    obtain ⟨kk, hkk, hg, rfl, BW, A⟩ := hrel
    by_cases hlt : kk < l.length
    · have hltz : (kk : Int) < (l.length : Int) := by omega
      obtain ⟨x, hx⟩ : ∃ x, l[kk]? = some x := ⟨l[kk], by simp [hlt]⟩
      obtain ⟨b, off, hao, hc⟩ := HEL.out kk x hx
      subst hao
      have hlt0 := World.block_lt_of_cell? w ⟨b, off + kk * 4 + 0, none⟩ (hc 0 _ rfl)
      have c0 : wr.cell? ⟨b, off + kk * 4, none⟩ = some (.string x.na) := (BW.out.cell (p := ⟨b, off + kk * 4 + 0, none⟩) hlt0).trans (hc 0 _ rfl)
      have c1 := (BW.out.cell (p := ⟨b, off + kk * 4 + 1, none⟩) hlt0).trans (hc 1 _ rfl)
      have c2 := (BW.out.cell (p := ⟨b, off + kk * 4 + 2, none⟩) hlt0).trans (hc 2 _ rfl)
      have c3 := (BW.out.cell (p := ⟨b, off + kk * 4 + 3, none⟩) hlt0).trans (hc 3 _ rfl)
      have hbw : b < wr.heap.size := Nat.lt_of_lt_of_le hlt0 BW.out.size
      have hsz : x.na.size ≤ 9223372036854775807 := (HW.out x (List.mem_of_getElem? hx)).1
      have hsz2 : x.ri.size ≤ 9223372036854775807 := (HW.out x (List.mem_of_getElem? hx)).2
      have hszw := BW.out.size
      have hsl := (hl0.out.take rfl kk hkk).below BW.out (Nat.le_refl _)
      obtain ⟨tw, htw⟩ : ∃ tw, tw = (l.take kk).any fun o => sameA o x := ⟨_, rfl⟩
      have hat : Hid (afAt l kk = afOf x tw) := Lib.hid (by rw [afAt, getD_of hx, htw])
      have hS : Hid (∀ z, afOf x tw = z → z ≠ 0 → z = F) := Lib.hid (fun z h hz => by
        rw [HF.out, FF_hit hlt A.out (by rw [hat.out, h]; exact hz), hat.out, h])
      have hC : Hid (afOf x tw = if nmA x = false then 5 else if tw = true then 7 else if outA x = true then 1 else 0) := Lib.hid rfl
      have hN : Hid (nmA x = (nameB x.na && (x.ri.toList.isEmpty || nameB x.ri))) := Lib.hid rfl
      have hO : Hid (outA x = (outB x.ln 1 1000000000000000 || outB x.va 0 1000000000)) := Lib.hid rfl
      have hany : ∀ W, Below (wr.heap.size + 1) (wr.alloc (.cells #[.string x.na, .int .i64 x.ln, .int .i64 x.va, .string x.ri] 47)) W → Calls Try.prog 41 #[.slice (some ⟨b, off, none⟩) kk cap, .func (.func 42) #[] #[.pointer (some ⟨wr.heap.size, 0, none⟩)]] W fun e w' => e = .returned (.bool tw) ∧ Below W.heap.size W w' := by
        intro W hW
        have hsz : wr.heap.size + 1 ≤ W.heap.size := by have := hW.size; simpa using this
        rw [htw]
        refine anyA 42 _ (fun o => sameA o x) W (l.take kk) _ (hsl.below (B := wr.heap.size) (((Below.refl _ _).alloc (Nat.le_refl _) _).trans (hW.mono (by omega))) (Nat.le_refl _)) (enters_of Try.func42 (by kernel_rfl) rfl) (fun W' y _ hb => ?_)
        refine sameNameA x y wr.heap.size W' ?_
        rw [hb.cell (p := ⟨wr.heap.size, 0, none⟩) (by show wr.heap.size < _; omega), hW.cell (p := ⟨wr.heap.size, 0, none⟩) (by show wr.heap.size < _; omega)]
        simp [go_sem]
      have HANY := Lib.hid (hany _ (by rw [show (wr.heap.size + 1) = (wr.alloc (.cells #[.string x.na, .int .i64 x.ln, .int .i64 x.va, .string x.ri] 47)).heap.size by simp]; exact Below.refl _ _))
      have HBX := Lib.hid (BW.out.alloc hszw (.cells #[.string x.na, .int .i64 x.ln, .int .i64 x.va, .string x.ri] 47))
      clear hx hc hsl htw hany
      go_upto_region 6 with (fail)
      go_cut [15] (fun s15 w4 => s15 = .bool (!nmA x) ∧ w4 = wr.alloc (.cells #[.string x.na, .int .i64 x.ln, .int .i64 x.va, .string x.ri] 47))
      case first =>
        cases e1 : nameB x.na
        case false =>
          have hv : Hid (nmA x = false) := Lib.hid (by rw [hN.out, e1]; rfl)
          go_wp2_with (go_at_call 40; refine (isName_any _ _ (by assumption)).mono ?_; rintro e w' ⟨rfl, rfl⟩)
          go_meet
          exact ⟨by rw [hv.out]; rfl, rfl⟩
        cases e2 : x.ri.toList.isEmpty
        case true =>
          have hv : Hid (nmA x = true) := Lib.hid (by rw [hN.out, e1, e2]; rfl)
          have e2' : x.ri.toList = [] := by simpa using e2
          go_wp2_with (go_at_call 40; refine (isName_any _ _ (by assumption)).mono ?_; rintro e w' ⟨rfl, rfl⟩)
          go_meet
          exact ⟨by rw [hv.out]; rfl, rfl⟩
        have e2' : ¬ x.ri.toList = [] := by simpa using e2
        cases e3 : nameB x.ri
        all_goals
          have hv := Lib.hid (hN.out.trans (by rw [e1, e2, e3]; rfl : _ = nameB x.ri))
          go_wp2_with (go_at_call 40; refine (isName_any _ _ (by assumption)).mono ?_; rintro e w' ⟨rfl, rfl⟩)
          go_meet
          exact ⟨by rw [hv.out, e3]; rfl, rfl⟩
      obtain ⟨rfl, rfl⟩ := hcut
      generalize nmA x = nm at hC
      clear hN
      cases nm
      case false =>
        have hv : Hid (5 = F) := Lib.hid (hS.out 5 (by rw [hC.out]; rfl) (by decide))
        go_wp2
        go_ret
        exact ⟨ret_int hv.out, HBX.out⟩
      have hC2 : Hid (afOf x tw = if tw = true then 7 else if outA x = true then 1 else 0) := Lib.hid (by rw [hC.out]; rfl)
      clear hC
      cases tw
      case true =>
        have hv : Hid (7 = F) := Lib.hid (hS.out 7 (by rw [hC2.out]; rfl) (by decide))
        go_wp2_with (go_at_call 41; refine HANY.out.mono ?_; rintro e w' ⟨rfl, hb'⟩)
        go_ret
        exact ⟨ret_int hv.out, HBX.out.thru hb'⟩
      have hC3 : Hid (afOf x false = if outA x = true then 1 else 0) := Lib.hid (by rw [hC2.out]; rfl)
      clear hC2
      cases o1 : outB x.ln 1 1000000000000000
      case true =>
        have hv : Hid (1 = F) := Lib.hid (hS.out 1 (by rw [hC3.out, hO.out, o1]; rfl) (by decide))
        go_wp2_with (first | (go_at_call 41; refine HANY.out.mono ?_; rintro e w' ⟨rfl, hb'⟩; have HB2 := Lib.hid (HBX.out.thru hb'); have d1 := (hb'.cell (p := ⟨wr.heap.size, 1, none⟩) (by show wr.heap.size < _; simp)).trans (show (wr.alloc (.cells #[.string x.na, .int .i64 x.ln, .int .i64 x.va, .string x.ri] 47)).cell? ⟨wr.heap.size, 1, none⟩ = some (.int .i64 x.ln) by simp [go_sem]); have d2 := (hb'.cell (p := ⟨wr.heap.size, 2, none⟩) (by show wr.heap.size < _; simp)).trans (show (wr.alloc (.cells #[.string x.na, .int .i64 x.ln, .int .i64 x.va, .string x.ri] 47)).cell? ⟨wr.heap.size, 2, none⟩ = some (.int .i64 x.va) by simp [go_sem]); clear hb') | (go_at_call 21; refine (out_any _ _ _ _).mono ?_; rintro e w' ⟨rfl, rfl⟩))
        go_ret
        exact ⟨ret_int hv.out, HB2.out⟩
      cases o2 : outB x.va 0 1000000000
      case true =>
        have hv : Hid (1 = F) := Lib.hid (hS.out 1 (by rw [hC3.out, hO.out, o1, o2]; rfl) (by decide))
        go_wp2_with (first | (go_at_call 41; refine HANY.out.mono ?_; rintro e w' ⟨rfl, hb'⟩; have HB2 := Lib.hid (HBX.out.thru hb'); have d1 := (hb'.cell (p := ⟨wr.heap.size, 1, none⟩) (by show wr.heap.size < _; simp)).trans (show (wr.alloc (.cells #[.string x.na, .int .i64 x.ln, .int .i64 x.va, .string x.ri] 47)).cell? ⟨wr.heap.size, 1, none⟩ = some (.int .i64 x.ln) by simp [go_sem]); have d2 := (hb'.cell (p := ⟨wr.heap.size, 2, none⟩) (by show wr.heap.size < _; simp)).trans (show (wr.alloc (.cells #[.string x.na, .int .i64 x.ln, .int .i64 x.va, .string x.ri] 47)).cell? ⟨wr.heap.size, 2, none⟩ = some (.int .i64 x.va) by simp [go_sem]); clear hb') | (go_at_call 21; refine (out_any _ _ _ _).mono ?_; rintro e w' ⟨rfl, rfl⟩))
        go_ret
        exact ⟨ret_int hv.out, HB2.out⟩
      case false =>
        have hz : Hid (afAt l kk = 0) := Lib.hid (by rw [hat.out, hC3.out, hO.out, o1, o2]; rfl)
        go_wp2_with (first | (go_at_call 41; refine HANY.out.mono ?_; rintro e w' ⟨rfl, hb'⟩; have HB2 := Lib.hid (HBX.out.thru hb'); have d1 := (hb'.cell (p := ⟨wr.heap.size, 1, none⟩) (by show wr.heap.size < _; simp)).trans (show (wr.alloc (.cells #[.string x.na, .int .i64 x.ln, .int .i64 x.va, .string x.ri] 47)).cell? ⟨wr.heap.size, 1, none⟩ = some (.int .i64 x.ln) by simp [go_sem]); have d2 := (hb'.cell (p := ⟨wr.heap.size, 2, none⟩) (by show wr.heap.size < _; simp)).trans (show (wr.alloc (.cells #[.string x.na, .int .i64 x.ln, .int .i64 x.va, .string x.ri] 47)).cell? ⟨wr.heap.size, 2, none⟩ = some (.int .i64 x.va) by simp [go_sem]); clear hb') | (go_at_call 21; refine (out_any _ _ _ _).mono ?_; rintro e w' ⟨rfl, rfl⟩))
        go_roundg (l.length - (kk + 1))
        case measure => omega
        case rel =>
          refine ⟨kk + 1, by omega, by omega, by go_num, HB2.out, (show Aside _ from fun j hj => ?_)⟩
          by_cases e : j = kk
          · rw [e, hz.out]
          · exact A.out j (by omega)
    · obtain rfl : kk = l.length := by omega
      have hz : Hid (0 = F) := Lib.hid (by rw [HF.out, FF_zero A.out])
      go_wp2
      go_ret
      exact ⟨ret_int hz.out, BW.out⟩
end Go.Proofs.Ytpdeodoidlcdoaa

/- Fill of the program. -/
namespace Go.Proofs.Ytpdeodoidlcdoaa
open Go.RowKit

/-- The fault of a break that is filled. -/
def fillF (l : List Adv) (m : Int) : Int := if adsG l ≠ 0 then adsG l else if outB m 0 1000000000000000 = true then 1 else 0
theorem fillF_zero {l : List Adv} {m : Int} (h : fillF l m = 0) : adsG l = 0 ∧ 0 ≤ m ∧ m ≤ 1000000000000000 := by
  unfold fillF at h
  split at h
  · contradiction
  rename_i h0
  split at h
  · simp at h
  rename_i h1
  exact ⟨by omega, outB_no' h1⟩
theorem AdsOk.of {l : List Adv} (h : adsG l = 0) : AdsOk l := ⟨(adsG_zero h).1, fun x hx => ((adsG_zero h).2 x hx).2⟩

/-- What Fill answers. -/
def FlP (w : World) (l : List Adv) (m : Int) : Ending → World → Prop := fun e w' => Below w.heap.size w w' ∧
  ((fillF l m ≠ 0 ∧ e = .returned (.tuple #[.slice none 0 0, .int .i64 0, .int .i64 (fillF l m)])) ∨ (fillF l m = 0 ∧ ∃ B v, bestL l m B ∧ Sl w' 1 encI v B ∧ e = .returned (.tuple #[v, .int .i64 (selV l B), .int .i64 0])))
theorem FlP.bad {w w' : World} {l : List Adv} {m f : Int} (hb : Below w.heap.size w w') (h : f = fillF l m) (h0 : f ≠ 0) : FlP w l m (.returned (.tuple #[.slice none 0 0, .int .i64 0, .int .i64 f])) w' :=
  ⟨hb, .inl ⟨by omega, by rw [h]⟩⟩
theorem FlP.good {w w' : World} {l : List Adv} {m : Int} {v : Value} {B : List Int} (hb : Below w.heap.size w w') (h : fillF l m = 0) (hB : bestL l m B) (hs : Sl w' 1 encI v B) : FlP w l m (.returned (.tuple #[v, .int .i64 (selV l B), .int .i64 0])) w' :=
  ⟨hb, .inr ⟨h, B, v, hB, hs, rfl⟩⟩

set_option maxHeartbeats 2000000 in
theorem Fill_any (w : World) (l : List Adv) (v : Value) (m : Int) (hl : Sl w 4 encA v l) (hw : ∀ x, x ∈ l → WfF x) :
    Calls Try.prog 9 #[v, .int .i64 m] w (FlP w l m) := by
  have HA := Lib.hid (adsFault_any w l v hl hw)
  have HF : Hid (fillF l m = if adsG l ≠ 0 then adsG l else if outB m 0 1000000000000000 = true then 1 else 0) := Lib.hid rfl
  have HOK := Lib.hid (fun (h : adsG l = 0) => AdsOk.of h)
  obtain ⟨f, hf⟩ : ∃ f, f = adsG l := ⟨_, rfl⟩
  rw [← hf] at HA HF HOK
  have HL := Lib.hid hl
  clear hf hl hw
  cases e1 : (f != 0)
  case true =>
    have hv : Hid (f = fillF l m) := Lib.hid (by rw [HF.out, if_pos (by simpa using e1)])
    have hne : f ≠ 0 := by simpa using e1
    have HNE := Lib.hid hne
    clear hne
    go_enter Try.func9, Try.ntmps9
    go_wp2_with (go_at_call 23; refine HA.out.mono ?_; rintro e w2 ⟨rfl, hb⟩)
    go_ret3
    exact FlP.bad hb hv.out HNE.out
  obtain rfl : f = 0 := by simpa using e1
  have HF2 : Hid (fillF l m = if outB m 0 1000000000000000 = true then 1 else 0) := Lib.hid (by rw [HF.out]; rfl)
  clear e1 HF
  cases o1 : outB m 0 1000000000000000
  case true =>
    have hv : Hid (1 = fillF l m) := Lib.hid (by rw [HF2.out, o1]; rfl)
    go_enter Try.func9, Try.ntmps9
    go_wp2_with (first | (go_at_call 23; refine HA.out.mono ?_; rintro e w2 ⟨rfl, hb⟩; have HB := Lib.hid hb; clear hb) | (go_at_call 21; refine (out_any _ _ _ _).mono ?_; rintro e w' ⟨rfl, rfl⟩))
    go_ret3
    exact FlP.bad HB.out hv.out (by decide)
  have hv : Hid (fillF l m = 0) := Lib.hid (by rw [HF2.out, o1]; rfl)
  have hm := outB_no o1
  have ha := Lib.hid (HOK.out rfl)
  clear HF2 HOK
  obtain ⟨ao, L, cap, rfl⟩ : ∃ ao L cap, v = .slice ao L cap := by obtain ⟨ao, cap, rfl, _⟩ := HL.out; exact ⟨_, _, _, rfl⟩
  have HFR : Hid (∀ W, Below w.heap.size w W → Calls Try.prog 24 #[.pointer (some ⟨W.heap.size, 0, none⟩), .int .i64 0, .agg #[.int .i64 0, .int .i64 0, .slice none 0 0]] (W.alloc (.cells #[.slice ao L cap, .int .i64 m, .int .i64 0, .int .i64 0, .slice none 0 0] 86))
      (FromP (W.alloc (.cells #[.slice ao L cap, .int .i64 m, .int .i64 0, .int .i64 0, .slice none 0 0] 86)) W.heap.size (.slice ao L cap) m l [] 0 [])) := Lib.hid (fun W hb => by
    have hb2 := hb.alloc hb.size (.cells #[.slice ao L cap, .int .i64 m, .int .i64 0, .int .i64 0, .slice none 0 0] 86)
    exact from_any l m hm ha.out (l.length + 1) 0 _ W.heap.size _ (.slice none 0 0) [] [] (by omega) (by omega) (HL.out.below hb2 (Nat.le_refl _)) (fun hne => HL.out.offE (fun x => by rw [encA_len]; decide) hb.size hne)
      ⟨_, block_new W _, Sl.nil, .nil _⟩ Sl.nil (.nil _) (okL_nil l hm.1) (fun j hj => by simp at hj) (okL_nil l hm.1))
  go_enter Try.func9, Try.ntmps9
  go_wp2_with (first | (go_at_call 23; refine HA.out.mono ?_; rintro e w2 ⟨rfl, hb⟩; have HB := Lib.hid hb; clear hb) | (go_at_call 21; refine (out_any _ _ _ _).mono ?_; rintro e w' ⟨rfl, rfl⟩) | (go_at_call 24; refine (HFR.out _ HB.out).mono ?_; rintro e w3 ⟨B, rfl, hF, hB, hU, hC, hO⟩))
  obtain ⟨vb, hk, hs, _⟩ := hF
  obtain ⟨bo, bL, bcap, rfl⟩ : ∃ ao L cap, vb = .slice ao L cap := by obtain ⟨ao, cap, rfl, _⟩ := hs; exact ⟨_, _, _, rfl⟩
  have g2 := (cell_of_block (i := 2) hk).trans rfl
  have g4 := (cell_of_block (i := 4) hk).trans rfl
  have hlt := lt_of_blk hk
  have HS := Lib.hid hs
  have HBST := Lib.hid (hC.best hB)
  have HB3 : Hid (Below w.heap.size w w3) := Lib.hid ((HB.out.alloc HB.out.size _).trans (hO.toBelow (by have := HB.out.size; simp; omega) HB.out.size))
  clear hs hk hC hB hU hO
  go_quiet (fail)
  go_wp2
  go_ret3
  exact FlP.good (below_drewN HB3.out _) hv.out HBST.out HS.out
end Go.Proofs.Ytpdeodoidlcdoaa

/- kit.Out and the reference's within. -/
namespace Go.Proofs.Ytpdeodoidlcdoaa
open Go.RowKit
end Go.Proofs.Ytpdeodoidlcdoaa

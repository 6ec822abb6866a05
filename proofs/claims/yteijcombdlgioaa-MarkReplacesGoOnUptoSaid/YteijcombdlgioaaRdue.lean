/- Due of the reference: what it returns. -/
import Derived.Test.YteijcombdlgioaaDue
namespace Go.Proofs.Yteijcombdlgioaa
open Go.RowKit

theorem Sl.drewN {α : Type} {w : World} {k : Nat} {enc : α → List Value} {v : Value} {l : List α} (h : Sl w k enc v l) (n : Nat) : Sl (w.drewN n) k enc v l := h

set_option maxRecDepth 100000 in
set_option maxHeartbeats 4000000 in
theorem dueR_any (w : World) (l : List Prt) (v : Value) (a t : Int) (hl : Sl w 3 encP v l) (hw : ∀ p, p ∈ l → WfP p) :
    Calls Try.prog 11 #[v, .int .i64 a, .int .i64 t] w (SlPost w 4 encE (dueL l a t) (dueF l a t)) := by
  have h1 := checkPartsR_any w l v hl hw
  have hF : dueF l a t = if checkP l ≠ 0 then checkP l else if (outB a 0 1000000000000000 || outB t a 1000000000000000) = true then 1 else 0 := rfl
  have HL0 := Lib.hid hl
  obtain ⟨ao, cap, rfl, hcap, hmax, hnil, hel⟩ := hl
  unfold maxLen at hmax
  obtain ⟨f, hf⟩ : ∃ f, f = checkP l := ⟨_, rfl⟩
  rw [← hf] at h1 hF
  have HFt := Lib.hid hf
  have HF := Lib.hid hF
  clear hf hF
  cases e1 : (f != 0)
  case true =>
    have hv : Hid (f = dueF l a t) := Lib.hid (by rw [HF.out, if_pos (by simpa using e1)])
    have hv2 : Hid (dueL l a t = []) := Lib.hid (by
      have : f ≠ 0 := by simpa using e1
      rw [dueL, if_neg (by rw [← hv.out]; exact this)])
    clear hel
    go_enter Try.func11, Try.ntmps11
    go_wp2_with (first | (go_at_call 21; refine h1.mono ?_; rintro e w' ⟨rfl, hb'⟩))
    go_ret2
    exact SlPost.mk hv.out (by rw [hv2.out]; exact Sl.nil) hb'
  obtain rfl : f = 0 := by simpa using e1
  clear e1
  have hO : Hid (dueF l a t = if (outB a 0 1000000000000000 || outB t a 1000000000000000) = true then 1 else 0) := Lib.hid (by rw [HF.out]; rfl)
  clear HF
  cases o1 : outB a 0 1000000000000000
  case true =>
    have hv : Hid (1 = dueF l a t) := Lib.hid (by rw [hO.out, o1]; rfl)
    have hv2 : Hid (dueL l a t = []) := Lib.hid (by rw [dueL, ← hv.out]; rfl)
    clear hel
    go_enter Try.func11, Try.ntmps11
    go_wp2_with (first | (go_at_call 21; refine h1.mono ?_; rintro e w' ⟨rfl, hb'⟩) | (go_at_call 35; refine (within_any _ _ _ _).mono ?_; rintro e w' ⟨rfl, rfl⟩))
    go_ret2
    exact SlPost.mk hv.out (by rw [hv2.out]; exact Sl.nil) hb'
  cases o2 : outB t a 1000000000000000
  case true =>
    have hv : Hid (1 = dueF l a t) := Lib.hid (by rw [hO.out, o1, o2]; rfl)
    have hv2 : Hid (dueL l a t = []) := Lib.hid (by rw [dueL, ← hv.out]; rfl)
    clear hel
    go_enter Try.func11, Try.ntmps11
    go_wp2_with (first | (go_at_call 21; refine h1.mono ?_; rintro e w' ⟨rfl, hb'⟩) | (go_at_call 35; refine (within_any _ _ _ _).mono ?_; rintro e w' ⟨rfl, rfl⟩))
    go_ret2
    exact SlPost.mk hv.out (by rw [hv2.out]; exact Sl.nil) hb'
  have hv : Hid (0 = dueF l a t) := Lib.hid (by rw [hO.out, o1, o2]; rfl)
  have hv2 : Hid (dueL l a t = evAll l a t l.length) := Lib.hid (by rw [dueL, ← hv.out]; rfl)
  have hch : checkP l = 0 := HFt.out.symm
  have hlen := (checkP_parts hch).1
  have hbd := checkP_bd hch
  have hsum : ∀ i p, l[i]? = some p → 0 ≤ sumL (l.take i) ∧ sumL (l.take i) ≤ 1000000000000000000 := fun i p hp => by
    have h := sumL_bd (l := l.take i) (fun q hq => hbd q (List.mem_of_mem_take hq))
    have h' : ((l.take i).length : Int) ≤ 1000 := by simp; omega
    omega
  have HBD := Lib.hid hbd
  have HSU := Lib.hid hsum
  clear hch hbd hsum hO
  go_enter Try.func11, Try.ntmps11
  go_wp2_with (first | (go_at_call 21; refine h1.mono ?_; rintro e w2 ⟨rfl, hb1⟩) | (go_at_call 35; refine (within_any _ _ _ _).mono ?_; rintro e w' ⟨rfl, rfl⟩))
  clear h1
  have HEL := Lib.hid (el_below hel hb1 (Nat.le_refl _))
  have HSL := Lib.hid (HL0.out.below hb1 (Nat.le_refl _))
  have HB1 := Lib.hid hb1
  clear hel hb1 HL0
  go_loopg [9, 10] l.length (fun gg s9 s10 wr => ∃ kk : Nat, kk ≤ l.length ∧ l.length - kk ≤ gg ∧ s10 = .int .i64 kk ∧ Aside (Below w2.heap.size w2 wr) ∧ Aside (Own wr w2.heap.size 29 4 encE s9 (evAll l a t kk)))
  case atStart => exact ⟨0, Nat.zero_le _, by omega, rfl, Below.refl _ _, Own.nil⟩
  case round =>
    obtain ⟨kk, hkk, hg, rfl, BW, OW⟩ := hrel
    by_cases hlt : kk < l.length
    · have hltz : (kk : Int) < (l.length : Int) := by omega
      obtain ⟨p, hx⟩ : ∃ x, l[kk]? = some x := ⟨l[kk], by simp [hlt]⟩
      obtain ⟨b, off, hao, hc⟩ := HEL.out kk p hx
      subst hao
      have hlt0 := World.block_lt_of_cell? w2 _ (hc 0 _ rfl)
      have HC := Lib.hid hc
      have hp := HBD.out p (List.mem_of_getElem? hx)
      have hs := HSU.out kk p hx
      have hget : Hid (l.getD kk default = p) := Lib.hid (by rw [List.getD_eq_getElem?_getD, hx]; rfl)
      obtain ⟨S, hS⟩ : ∃ S, S = sumL (l.take kk) := ⟨_, rfl⟩
      rw [← hS] at hs
      have HS := Lib.hid hS
      obtain ⟨hp0, hp1⟩ := hp
      obtain ⟨hs0, hs1⟩ := hs
      clear hS hx hc
      obtain ⟨wo, rfl⟩ : ∃ wo : World, wo = wr := ⟨_, rfl⟩
      go_wp2
      go_loopg [9, 11] 5 (fun gg s9 s11 wr => ∃ j : Nat, j ≤ 5 ∧ 5 - j ≤ gg ∧ s11 = .int .i64 ((j : Int) + 1) ∧ Aside (Below w2.heap.size w2 wr) ∧ Aside (Own wr w2.heap.size 29 4 encE s9 (evAll l a t kk ++ evRow l a t kk j)))
      case atStart => exact ⟨0, by omega, by omega, rfl, BW.out, (show Own _ _ _ _ _ _ _ from by rw [evRow, List.append_nil]; exact OW.out)⟩
      obtain ⟨j, hj, hgj, rfl, BI, OI⟩ := hrel
      by_cases hj5 : j < 5
      · have hjz : (j : Int) + 1 ≤ 5 := by omega
        have hnb := need_bd (k := (j : Int) + 1) hp0 hp1
        have htk : Hid (tickOf l kk ((j : Int) + 1) = S + need p.ln ((j : Int) + 1) - 1) := Lib.hid (by rw [tickOf, hget.out, ← HS.out])
        have hnc := fun w => needed_any p.ln ((j : Int) + 1) w hp0 hp1 (by omega) (by omega)
        have hbc := fun (w : World) (h : Sl w 3 encP (.slice (some ⟨b, off, none⟩) l.length cap) l) => begins_any w l _ kk h hlen HBD.out hkk
        rw [← HS.out] at hbc
        obtain ⟨N, hN⟩ : ∃ N, N = need p.ln ((j : Int) + 1) := ⟨_, rfl⟩
        rw [← hN] at hnb htk hnc
        have c0 := (BI.out.cell (p := ⟨b, off + kk * 3, none⟩) hlt0).trans (HC.out 0 _ rfl)
        have c2 := (BI.out.cell (p := ⟨b, off + kk * 3 + 2, none⟩) hlt0).trans (HC.out 2 _ rfl)
        have hszi := BI.out.size
        have hlen2 : Hid ((evAll l a t kk ++ evRow l a t kk j).length ≤ 5005) := Lib.hid (by
          have h1 := evAll_len l a t kk
          have h2 := evRow_len l a t kk j
          rw [List.length_append]
          omega)
        obtain ⟨hn1, hn2⟩ := hnb
        have hn3 : N ≤ 1000000000000000 := by omega
        have HNC := Lib.hid hnc
        have HBC := Lib.hid hbc
        have HSLi := Lib.hid (HSL.out.below BI.out (Nat.le_refl _))
        clear hN hnc hbc
        go_upto_region 13 with (fail)
        have hw1 : IntKind.i64.wrap (S + N) = S + N := IntWalk.i64_in _ (by omega)
        have hw2 : IntKind.i64.wrap (S + N - 1) = S + N - 1 := IntWalk.i64_in _ (by omega)
        go_cut [12] (fun s12 w4 => s12 = .int .i64 (S + N - 1) ∧ ∃ n, w4 = wr.drewN n)
        case first =>
          go_quiet (first | (go_at_call 36; exact Calls.quiet_of_same ((HBC.out _ (HSLi.out.drewN _)).mono fun _ _ h => ⟨h.1, h.2.symm⟩)) | (go_at_call 37; exact Calls.quiet_of_same ((HNC.out _).mono fun _ _ h => ⟨h.1, h.2.symm⟩)))
          go_wp2
          go_meet
          exact ⟨rfl, _, rfl⟩
        clear hw1 hw2
        obtain ⟨rfl, nq, rfl⟩ := hcut
        have e0 := hget.out
        have hno : Hid (noAd (l.getD kk default) = p.ad.toList.isEmpty) := Lib.hid (by rw [hget.out]; rfl)
        clear e0
        obtain ⟨na, hna⟩ : ∃ na, na = p.ad.toList.isEmpty := ⟨_, rfl⟩
        have HNA := Lib.hid hna
        clear hna
        go_upto_region 14 with (fail)
        go_cut [64] (fun s64 w4 => s64 = .bool (!na && decide (a ≤ S + N - 1) && decide (S + N - 1 < t)) ∧ w4 = wr.drewN nq)
        case first =>
          cases na
          · have e1 : p.ad.toList.isEmpty = false := HNA.out.symm
            have e2 : ¬ p.ad.toList = [] := by simpa using e1
            by_cases ha : a ≤ S + N - 1
            · go_wp2
              go_meet
              exact ⟨by simp [*], rfl⟩
            · have ha' : decide (a ≤ S + N - 1) = false := by simp; omega
              go_wp2
              go_meet
              exact ⟨by simp [*], rfl⟩
          · have e1 : p.ad.toList.isEmpty = true := HNA.out.symm
            have e2 : p.ad.toList = [] := by simpa using e1
            go_wp2
            go_meet
            exact ⟨by simp [*], rfl⟩
        obtain ⟨rfl, rfl⟩ := hcut
        generalize hO : (!na && decide (a ≤ S + N - 1) && decide (S + N - 1 < t)) = O
        have HO := Lib.hid hO
        clear hO
        cases O
        case false =>
          have hev : Hid (evRow l a t kk (j + 1) = evRow l a t kk j) := Lib.hid (by
            have h := HO.out
            rw [evRow, evOf, if_neg (by rw [htk.out, hno.out, ← HNA.out]; cases na <;> simp at h ⊢ <;> omega), List.append_nil])
          go_wp2
          go_roundg (5 - (j + 1))
          case measure => omega
          case rel => exact ⟨j + 1, by omega, by omega, by go_num, below_drewN BI.out _, (show Own _ _ _ _ _ _ _ from by rw [hev.out]; exact OI.out.drewN _)⟩
        case true =>
          have hev : Hid (evAll l a t kk ++ evRow l a t kk (j + 1) = (evAll l a t kk ++ evRow l a t kk j) ++ [⟨⟨#[]⟩, kk, p.ad, (j : Int) + 1⟩]) := Lib.hid (by
            have h := HO.out
            simp at h
            rw [evRow, evOf, if_pos ⟨by rw [hno.out, ← HNA.out]; exact h.1.1, by rw [htk.out]; omega, by rw [htk.out]; omega⟩, hget.out, List.append_assoc])
          have hC : Hid (encE ⟨⟨#[]⟩, kk, p.ad, (j : Int) + 1⟩ = [.string ⟨#[]⟩, .int .i64 kk, .string p.ad, .int .i64 ((j : Int) + 1)]) := Lib.hid rfl
          obtain ⟨w9, hw9⟩ : ∃ w9, w9 = wr.drewN nq := ⟨_, rfl⟩
          have c0' : w9.cell? ⟨b, off + kk * 3, none⟩ = some (.string p.ad) := by rw [hw9]; exact c0
          have BI9 := Lib.hid (show Below w2.heap.size w2 w9 from by rw [hw9]; exact below_drewN BI.out _)
          have OI9 := Lib.hid (show Own w9 w2.heap.size 29 4 encE _ (evAll l a t kk ++ evRow l a t kk j) from by rw [hw9]; exact OI.out.drewN _)
          have hsz9 := BI9.out.size
          rw [← hw9]
          clear hw9 c0 c2 hszi
          go_wp2_with (at_builtin; go_loud (refine wpList_pushK rfl _ _ 23 rfl slE rfl rfl ⟨⟨#[]⟩, kk, p.ad, (j : Int) + 1⟩ hC.out rfl rfl OI9.out rfl (by have := hlen2.out; omega) hsz9 ?_); intro v5 w5 ho5 hb5 hk5; rw [← hev.out] at ho5; have HO5 := Lib.hid ho5; have HB5 := Lib.hid hb5; clear ho5 hb5 hk5)
          go_roundg (5 - (j + 1))
          case measure => omega
          case rel => exact ⟨j + 1, by omega, by omega, by go_num, BI9.out.trans HB5.out, HO5.out⟩
      · obtain rfl : j = 5 := by omega
        go_wp2
        go_roundg (l.length - (kk + 1))
        case measure => omega
        case rel => exact ⟨kk + 1, by omega, by omega, by go_num, BI.out, OI.out⟩
    · obtain rfl : kk = l.length := by omega
      go_wp2
      go_ret2
      exact SlPost.mk hv.out (by rw [hv2.out]; exact OW.out.sl encE_len) (HB1.out.thru BW.out)
end Go.Proofs.Yteijcombdlgioaa

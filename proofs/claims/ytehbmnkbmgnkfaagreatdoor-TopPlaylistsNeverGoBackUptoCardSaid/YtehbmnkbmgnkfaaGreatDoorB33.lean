/- Text of playlists: how long it is. -/
import Derived.Test.YtehbmnkbmgnkfaaGreatDoorB31
import Derived.Test.YtehbmnkbmgnkfaaGreatDoorB32
import Derived.Test.YtehbmnkbmgnkfaaGreatDoorB29
import Derived.Test.YtehbmnkbmgnkfaaGreatDoorB22
import Derived.Deep.RegionHeld3
namespace Go.Proofs.YtehbmnkbmgnkfaaGreatDoor
open Go.RowKit Go.Lib Go.Shelf

/-- While a text is written: at most n bytes so far. -/
structure TxI (w : World) (l : Lst) (v : Value) (n : Nat) (W : World) : Prop where
  bu : ∃ m, m ≤ n ∧ Bui (w.heap.size + 1) m W
  be : Below w.heap.size w W
  bk : BkLs W w.heap.size l v
theorem BkLs.kp {w W : World} {g : Nat} {l : Lst} {v : Value} (h : BkLs w g l v) (k : KpW w W) : BkLs W g l v := k _ _ _ _ h (by decide) (by decide)
theorem BkE.kp {w W : World} {g : Nat} {l : Ent} {v : Value} (h : BkE w g l v) (k : KpW w W) : BkE W g l v := k _ _ _ _ h (by decide) (by decide)
section
variable {w W W' : World} {l : Lst} {v : Value} {n k : Nat}
theorem TxI.wr (h : TxI w l v n W) {n' : Nat} (hn : ∃ m, m ≤ n' ∧ Bui (w.heap.size + 1) m W') (hb : Below (w.heap.size + 1) W W') (hk : KpW W W') : TxI w l v n' W' :=
  ⟨hn, h.be.trans (hb.mono (Nat.le_succ _)), h.bk.kp hk⟩
theorem TxI.below (h : TxI w l v n W) (hb : Below W.heap.size W W') : TxI w l v n W' := by
  obtain ⟨m, hm, h1⟩ := h.bu
  exact ⟨⟨m, hm, h1.below hb⟩, h.be.thru hb, h.bk.below hb h.bk.lt⟩
theorem TxI.mono (h : TxI w l v n W) (hk : n ≤ k) : TxI w l v k W := by
  obtain ⟨m, hm, h1⟩ := h.bu
  exact ⟨⟨m, by omega, h1⟩, h.be, h.bk⟩
theorem TxI.put1 (h : TxI w l v n W) {x : ByteArray} (hx : x.size ≤ k) (hn : n + k + 1 ≤ 100000000) :
    Calls Tryz.prog 22 #[.slice (some ⟨W.heap.size, 0, none⟩) 1 1, .pointer (some ⟨w.heap.size + 1, 0, none⟩)] (W.alloc (.cells #[.string x] 9)) fun e w' => e = .returned (.tuple #[]) ∧ TxI w l v (n + k + 1) w' ∧ KpW W w' := by
  have hb := (Below.refl _ W).alloc (Nat.le_refl _) (.cells #[.string x] 9)
  have h2 := h.below hb
  obtain ⟨m, hm, h1⟩ := h2.bu
  refine (put_any (w.heap.size + 1) m W.heap.size [x] _ h1 (by simp) (block_new W _) (by simp [szL]; omega)).mono ?_
  rintro e w' ⟨rfl, h3, h4, h5⟩
  exact ⟨rfl, h2.wr ⟨_, by simp [szL]; omega, h3⟩ h4 h5, (KpW.of_below hb).trans h5⟩
theorem TxI.put2 (h : TxI w l v n W) {x y : ByteArray} (hx : x.size + y.size ≤ k) (hn : n + k + 1 ≤ 100000000) :
    Calls Tryz.prog 22 #[.slice (some ⟨W.heap.size, 0, none⟩) 2 2, .pointer (some ⟨w.heap.size + 1, 0, none⟩)] (W.alloc (.cells #[.string x, .string y] 9)) fun e w' => e = .returned (.tuple #[]) ∧ TxI w l v (n + k + 1) w' ∧ KpW W w' := by
  have hb := (Below.refl _ W).alloc (Nat.le_refl _) (.cells #[.string x, .string y] 9)
  have h2 := h.below hb
  obtain ⟨m, hm, h1⟩ := h2.bu
  refine (put_any (w.heap.size + 1) m W.heap.size [x, y] _ h1 (by simp) (block_new W _) (by simp [szL]; omega)).mono ?_
  rintro e w' ⟨rfl, h3, h4, h5⟩
  exact ⟨rfl, h2.wr ⟨_, by simp [szL]; omega, h3⟩ h4 h5, (KpW.of_below hb).trans h5⟩
theorem TxI.write (h : TxI w l v n W) {x : ByteArray} (hx : x.size ≤ k) (hn : n + k ≤ 100000000) :
    Calls Tryz.prog 23 #[.pointer (some ⟨w.heap.size + 1, 0, none⟩), .string x] W fun e w' => (∃ a, e = .returned a) ∧ TxI w l v (n + k) w' ∧ KpW W w' := by
  obtain ⟨m, hm, h1⟩ := h.bu
  refine (writeW_any (w.heap.size + 1) m x W h1 (by omega)).mono ?_
  rintro e w' ⟨rfl, h3, h4, h5⟩
  exact ⟨⟨_, rfl⟩, h.wr ⟨_, by omega, h3⟩ h4 h5, h5⟩
theorem TxI.str (h : TxI w l v n W) :
    Calls Tryz.prog 29 #[.pointer (some ⟨w.heap.size + 1, 0, none⟩)] W fun e w' => (∃ s : ByteArray, e = .returned (.string s) ∧ s.size ≤ n) ∧ Below w.heap.size w w' := by
  obtain ⟨m, hm, h1⟩ := h.bu
  refine (stringW_any (w.heap.size + 1) m W h1).mono ?_
  rintro e w' ⟨⟨s, rfl, hs⟩, hb⟩
  exact ⟨⟨s, rfl, by omega⟩, h.be.trans (hb.mono (Nat.le_succ _))⟩
end
theorem sz2 {a s : ByteArray} {m : Nat} (ha : a.size ≤ 20) (hs : s.size ≤ m) : a.size + s.size ≤ 20 + m := by omega
theorem dash_any (s : ByteArray) (w : World) : Calls Tryz.prog 27 #[.string s] w fun e w' => (∃ r : ByteArray, e = .returned (.string r) ∧ r.size ≤ s.size + 1) ∧ w = w' := by
  by_cases h : s = ⟨#[]⟩
  · subst h
    go_enter Tryz.func27, Tryz.ntmps27
    go_wp2
    go_ret
    exact ⟨⟨_, rfl, by decide⟩, rfl⟩
  · obtain ⟨f1, f2, f3⟩ := str_emp h
    clear h
    go_enter Tryz.func27, Tryz.ntmps27
    go_wp2
    go_ret
    exact ⟨⟨_, rfl, Nat.le_succ _⟩, rfl⟩
theorem bounded_any (s : ByteArray) (w : World) (hs : s.size ≤ 100000000) : Calls Tryz.prog 10 #[.string s] w fun e w' => (∃ (r : ByteArray) (f : Int), e = .returned (.tuple #[.string r, .int .i64 f]) ∧ (f ≠ 0 → r = ⟨#[]⟩) ∧ (f = 0 → r.size ≤ 500000)) ∧ w = w' := by
  by_cases h : 500000 < s.size
  · have hz : (500000 : Int) < (s.size : Int) := by omega
    go_enter Tryz.func10, Tryz.ntmps10
    go_wp2
    go_ret2
    exact ⟨⟨_, _, rfl, fun _ => rfl, fun h => absurd h (by decide)⟩, rfl⟩
  · have hz : ¬ (500000 : Int) < (s.size : Int) := by omega
    have HS : Hid (s.size ≤ 500000) := Lib.hid (by omega)
    go_enter Tryz.func10, Tryz.ntmps10
    go_wp2
    go_ret2
    exact ⟨⟨_, _, rfl, fun h => absurd rfl h, fun _ => HS.out⟩, rfl⟩

set_option maxRecDepth 100000 in
set_option maxHeartbeats 16000000 in
theorem listText_any (w : World) (l : Lst) (v : Value) (hl : EnS w v l.en) (hg : GdL l) (ht : TabW w) :
    Calls Tryz.prog 11 #[agLs l v, .string ⟨#[]⟩] w fun e w' => (∃ s : ByteArray, e = .returned (.string s) ∧ s.size ≤ 100000000) ∧ Below w.heap.size w w' := by
  have HTB := Lib.hid ht
  have HGD := Lib.hid hg
  have hta := hg.ta
  have hfi := hg.fi
  have hbr := hg.br
  have hln := hg.ln
  obtain ⟨w1, hw1⟩ : ∃ w1, w1 = (w.alloc (litL l v)).alloc (.cells #[.pointer none, .slice none 0 0] 87) := ⟨_, rfl⟩
  have HT0 : Hid (TxI w l v 0 w1) := Lib.hid (by
    have e : w.heap.size + 1 = (w.alloc (litL l v)).heap.size := by simp
    have h1 := Bui.start (w.alloc (litL l v))
    rw [← e] at h1
    have h2 := BkLs.new w l v
    rw [hw1]
    exact ⟨⟨0, Nat.le_refl _, h1⟩, ((Below.refl _ w).alloc (Nat.le_refl _) _).alloc (by simp) _, h2.below ((Below.refl _ _).alloc (Nat.le_refl _) _) h2.lt⟩)
  obtain ⟨ao, cap, rfl, hcap, hmax, -, hel⟩ := hl.op
  have HEL := Lib.hid hel
  unfold maxLen at hmax
  obtain ⟨b0, b1, b2, b3, b4⟩ := HT0.out.bk.cells
  have eg : ∀ args w, (callFunc 22 args).run Tryz.prog w = .ok (.enter 22 args) w := enters_of Tryz.func22 (by kernel_rfl) rfl
  have HW1 := Lib.hid hw1
  have hlz : (l.en.length : Int) ≤ 1000 := by omega
  clear hw1 hel hl hg ht
  go_enter Tryz.func11, Tryz.ntmps11
  go_upto_region 2 with (fail)
  rw [← HW1.out]
  clear HW1
  go_wp2_with (go_at_fn 22; (with_reducible refine (HT0.out.put1 (k := 20) (by decide) (by omega)).mono ?_); rintro e w2 ⟨rfl, ht, hk⟩; have HT1 := Lib.hid ht; clear b0 b1 b2 b3 b4; obtain ⟨b0, b1, b2, b3, b4⟩ := ht.bk.cells; clear ht hk)
  have HI1 := Lib.hid (itoaP_any l.ta w2 (by omega) (by omega) (tab_below HTB.out HT1.out.be))
  go_wp2_with fail
  refine HI1.out.mono ?_
  rintro e w3 ⟨s1, rfl, ⟨-, hs1⟩, hb⟩
  have HT2 := Lib.hid (HT1.out.below hb)
  clear hb HI1
  clear b0 b1 b2 b3 b4
  obtain ⟨b0, b1, b2, b3, b4⟩ := HT2.out.bk.cells
  have hq1 : (40 : Nat) ≤ 40 := Nat.le_refl _
  go_wp2_with (go_at_fn 22; (with_reducible refine (HT2.out.put2 (k := 41) (sz2 (by decide) hs1) (by omega)).mono ?_); rintro e w4 ⟨rfl, ht, hk⟩; have HT3 := Lib.hid ht; clear b0 b1 b2 b3 b4; obtain ⟨b0, b1, b2, b3, b4⟩ := ht.bk.cells; clear ht hk)
  clear hq1 hs1
  have HI2 := Lib.hid (itoaP_any l.fi w4 (by omega) (by omega) (tab_below HTB.out HT3.out.be))
  go_wp2_with fail
  refine HI2.out.mono ?_
  rintro e w5 ⟨s2, rfl, ⟨-, hs2⟩, hb⟩
  have HT4 := Lib.hid (HT3.out.below hb)
  clear hb HI2
  clear b0 b1 b2 b3 b4
  obtain ⟨b0, b1, b2, b3, b4⟩ := HT4.out.bk.cells
  have hq2 : (40 : Nat) ≤ 40 := Nat.le_refl _
  go_wp2_with (go_at_fn 22; (with_reducible refine (HT4.out.put2 (k := 41) (sz2 (by decide) hs2) (by omega)).mono ?_); rintro e w6 ⟨rfl, ht, hk⟩; have HT5 := Lib.hid ht; clear b0 b1 b2 b3 b4; obtain ⟨b0, b1, b2, b3, b4⟩ := ht.bk.cells; clear ht hk)
  clear hq2 hs2
  have HI3 := Lib.hid (itoaP_any l.br w6 (by omega) (by omega) (tab_below HTB.out HT5.out.be))
  go_wp2_with fail
  refine HI3.out.mono ?_
  rintro e w7 ⟨s3, rfl, ⟨-, hs3⟩, hb⟩
  have HT6 := Lib.hid (HT5.out.below hb)
  clear hb HI3
  clear b0 b1 b2 b3 b4
  obtain ⟨b0, b1, b2, b3, b4⟩ := HT6.out.bk.cells
  have hq3 : (40 : Nat) ≤ 40 := Nat.le_refl _
  go_wp2_with (go_at_fn 22; (with_reducible refine (HT6.out.put2 (k := 41) (sz2 (by decide) hs3) (by omega)).mono ?_); rintro e w8 ⟨rfl, ht, hk⟩; have HT7 := Lib.hid ht; clear b0 b1 b2 b3 b4; obtain ⟨b0, b1, b2, b3, b4⟩ := ht.bk.cells; clear ht hk)
  clear hq3 hs3
  go_wp2_with (go_at_call 23; (with_reducible refine (HT7.out.write (k := 0) (by decide) (by omega)).mono ?_); rintro e w9 ⟨⟨a, rfl⟩, ht, hk⟩; have HT8 := Lib.hid ht; clear b0 b1 b2 b3 b4; obtain ⟨b0, b1, b2, b3, b4⟩ := ht.bk.cells; clear ht hk)
  have HTA : Hid (TxI w l (.slice ao l.en.length cap) 400 w9) := Lib.hid (HT8.out.mono (by decide))
  clear HT0 HT1 HT2 HT3 HT4 HT5 HT6 HT7 HT8 b0 b1 b2 b3 b4
  go_loopg [7, 43] l.en.length (fun gg s7 s43 wr => ∃ (kk : Nat) (ky : ByteArray), kk ≤ l.en.length ∧ l.en.length - kk ≤ gg ∧ s43 = .int .i64 kk ∧ s7 = .string ky ∧ Aside (TxI w l (.slice ao l.en.length cap) (400 + 10000 * kk) wr))
  case atStart => exact ⟨0, _, Nat.zero_le _, by omega, by go_num, rfl, HTA.out⟩
  case round =>
    obtain ⟨kk, ky, hkk, hg, rfl, rfl, AT⟩ := hrel
    have HTR := Lib.hid AT.out
    clear AT HTA
    by_cases hlt : kk < l.en.length
    · have hltz : (kk : Int) < (l.en.length : Int) := by omega
      obtain ⟨x, hx⟩ : ∃ x, l.en[kk]? = some x := ⟨l.en[kk], by simp [hlt]⟩
      obtain ⟨b, off, xv, hao, hce, hxs⟩ := HEL.out kk x hx
      subst hao
      obtain ⟨c0, c1, c2, c3, c4, c5, c6⟩ := hce.below HTR.out.be
      obtain ⟨xa, xc, hxv, hxc, hxm, -, hxe⟩ := hxs
      subst hxv
      unfold maxLen at hxm
      have hgx := HGD.out.en x (List.mem_of_getElem? hx)
      have hmi := hgx.mi
      have hda := hgx.da
      have hke := hgx.ke
      have hur := hgx.ur
      have hexl := hgx.ex
      have hexz : (x.ex.length : Int) ≤ 20 := by omega
      have HES := Lib.hid hgx.es
      have HXE := Lib.hid hxe
      obtain ⟨K, hK⟩ : ∃ K, K = wr.heap.size := ⟨_, rfl⟩
      obtain ⟨u1, hu1⟩ : ∃ u1, u1 = wr.alloc (litE x (.slice xa x.ex.length xc)) := ⟨_, rfl⟩
      have HU1 : Hid (TxI w l (.slice (some ⟨b, off, none⟩) l.en.length cap) (400 + 10000 * kk) u1) := Lib.hid (by rw [hu1]; exact HTR.out.below ((Below.refl _ _).alloc (Nat.le_refl _) _))
      have HE1 : Hid (BkE u1 K x (.slice xa x.ex.length xc)) := Lib.hid (by rw [hu1, hK]; exact BkE.new _ _ _)
      have HU1e := Lib.hid hu1
      have HKe := Lib.hid hK
      clear hx hce hgx hxe hu1 hK
      go_upto_region 12 with (fail)
      rw [← HU1e.out, ← HKe.out]
      clear HU1e HKe HTR c0 c1 c2 c3 c4 c5 c6
      obtain ⟨e0, e1, e2, e3, e4, e5, e6⟩ := HE1.out.cells
      go_wp2_with fail
      clear e0 e1 e2 e3 e4 e5 e6
      go_loopg [50] x.ex.length (fun gg2 s50 wq => ∃ jj : Nat, jj ≤ x.ex.length ∧ x.ex.length - jj ≤ gg2 ∧ s50 = .int .i64 jj ∧ Aside (TxI w l (.slice (some ⟨b, off, none⟩) l.en.length cap) (400 + 10000 * kk + 301 * jj) wq) ∧ Aside (BkE wq K x (.slice xa x.ex.length xc)))
      case atStart => exact ⟨0, Nat.zero_le _, by omega, by go_num, HU1.out, HE1.out⟩
      case round =>
        obtain ⟨jj, hjj, hg2, rfl, AT, AE⟩ := hrel
        obtain ⟨wq, rfl⟩ : ∃ wq : World, wq = wr := ⟨_, rfl⟩
        have HTQ := Lib.hid AT.out
        have HEQ := Lib.hid AE.out
        clear AT AE HU1 HE1
        by_cases hjt : jj < x.ex.length
        · have hjtz : (jj : Int) < (x.ex.length : Int) := by omega
          obtain ⟨s, hs⟩ : ∃ s, x.ex[jj]? = some s := ⟨x.ex[jj], by simp [hjt]⟩
          obtain ⟨p, po, hxo, hc⟩ := HXE.out jj s hs
          subst hxo
          have hlt0 := World.block_lt_of_cell? w ⟨p, po + jj * 1 + 0, none⟩ (hc 0 _ rfl)
          have d0 : wq.cell? ⟨p, po + jj, none⟩ = some (.string s) := by
            have := (HTQ.out.be.cell (p := ⟨p, po + jj * 1 + 0, none⟩) hlt0).trans (hc 0 _ rfl)
            rwa [Nat.mul_one, Nat.add_zero] at this
          have hss := HES.out s (List.mem_of_getElem? hs)
          clear hs hc hlt0
          go_wp2_with (go_at_fn 22; (with_reducible refine (HTQ.out.put1 (k := 300) hss (by omega)).mono ?_); rintro e w2 ⟨rfl, ht, hk⟩; have HT2 := Lib.hid ht; have HE2 := Lib.hid (HEQ.out.kp hk); clear ht hk)
          go_roundg (x.ex.length - (jj + 1))
          case measure => omega
          case rel => exact ⟨jj + 1, by omega, by omega, by go_num, HT2.out.mono (by omega), HE2.out⟩
        · have hjtz : ¬ (jj : Int) < (x.ex.length : Int) := by omega
          have HT1 : Hid (TxI w l (.slice (some ⟨b, off, none⟩) l.en.length cap) (400 + 10000 * kk + 6100) wq) := Lib.hid (HTQ.out.mono (by omega))
          have HE1 : Hid (BkE wq K x (.slice xa x.ex.length xc)) := HEQ
          obtain ⟨e0, e1, e2, e3, e4, e5, e6⟩ := HE1.out.cells
          clear HTQ HEQ HXE HES
          obtain ⟨xur, xmi, xbr, xda, xke, xga, xex⟩ := x
          simp only at e0 e1 e2 e3 e4 e5 e6 hmi hda hke hur
          go_upto_if 60 with (fail)
          go_cut [5] (fun s wc => s = .pointer (some ⟨w.heap.size + 1, 0, none⟩) ∧ Aside (TxI w l (.slice (some ⟨b, off, none⟩) l.en.length cap) (400 + 10000 * kk + 6150) wc) ∧ Aside (BkE wc K ⟨xur, xmi, xbr, xda, xke, xga, xex⟩ (.slice xa xex.length xc)))
          case first =>
            cases xbr
            · go_wp2_with fail
              go_meet
              exact ⟨rfl, HT1.out.mono (by omega), HE1.out⟩
            · go_wp2_with (go_at_fn 22; (with_reducible refine (HT1.out.put1 (k := 20) (by decide) (by omega)).mono ?_); rintro e w2 ⟨rfl, ht, hk⟩; have HT2 := Lib.hid ht; have HE2 := Lib.hid (HE1.out.kp hk); clear ht hk)
              go_meet
              exact ⟨rfl, HT2.out.mono (by omega), HE2.out⟩
          obtain ⟨rfl, AT, AE⟩ := hcut
          obtain ⟨u2, hwn⟩ : ∃ u, u = wc := ⟨_, rfl⟩
          have HT2 : Hid (TxI w l (.slice (some ⟨b, off, none⟩) l.en.length cap) (400 + 10000 * kk + 6150) u2) := Lib.hid (by rw [hwn]; exact AT.out)
          have HE2 : Hid (BkE u2 K ⟨xur, xmi, xbr, xda, xke, xga, xex⟩ (.slice xa xex.length xc)) := Lib.hid (by rw [hwn]; exact AE.out)
          rw [← hwn]
          clear hwn AT AE HT1 HE1 e0 e1 e2 e3 e4 e5 e6
          obtain ⟨e0, e1, e2, e3, e4, e5, e6⟩ := HE2.out.cells
          go_upto_if 66 with (fail)
          go_cut [5] (fun s wc => s = .pointer (some ⟨w.heap.size + 1, 0, none⟩) ∧ Aside (TxI w l (.slice (some ⟨b, off, none⟩) l.en.length cap) (400 + 10000 * kk + 6450) wc) ∧ Aside (BkE wc K ⟨xur, xmi, xbr, xda, xke, xga, xex⟩ (.slice xa xex.length xc)))
          case first =>
            by_cases hdz : 0 ≤ xda
            · have HD := Lib.hid (date_any xda u2 ⟨hdz, hda.2⟩ (tab_below HTB.out HT2.out.be))
              go_wp2_with fail
              refine HD.out.mono ?_
              rintro e w3 ⟨s3, rfl, hs3, hb⟩
              have HT3 := Lib.hid (HT2.out.below hb)
              have HE3 := Lib.hid (HE2.out.below hb HE2.out.lt)
              clear hb HD e0 e1 e2 e3 e4 e5 e6
              go_wp2_with (go_at_fn 22; (with_reducible refine (HT3.out.put2 (k := 220) (sz2 (by decide) hs3) (by omega)).mono ?_); rintro e w4 ⟨rfl, ht, hk⟩; have HT4 := Lib.hid ht; have HE4 := Lib.hid (HE3.out.kp hk); clear ht hk)
              go_meet
              exact ⟨rfl, HT4.out.mono (by omega), HE4.out⟩
            · go_wp2_with fail
              go_meet
              exact ⟨rfl, HT2.out.mono (by omega), HE2.out⟩
          obtain ⟨rfl, AT, AE⟩ := hcut
          obtain ⟨u3, hwn⟩ : ∃ u, u = wc := ⟨_, rfl⟩
          have HT3 : Hid (TxI w l (.slice (some ⟨b, off, none⟩) l.en.length cap) (400 + 10000 * kk + 6450) u3) := Lib.hid (by rw [hwn]; exact AT.out)
          have HE3 : Hid (BkE u3 K ⟨xur, xmi, xbr, xda, xke, xga, xex⟩ (.slice xa xex.length xc)) := Lib.hid (by rw [hwn]; exact AE.out)
          rw [← hwn]
          clear hwn AT AE HT2 HE2 e0 e1 e2 e3 e4 e5 e6
          obtain ⟨e0, e1, e2, e3, e4, e5, e6⟩ := HE3.out.cells
          obtain ⟨kq, hkq⟩ : ∃ kq, (xke.toList == ky.toList) = kq := ⟨_, rfl⟩
          go_upto_if 80 with (fail)
          clear hkq
          go_cut [7] (fun s wc => (∃ k2 : ByteArray, s = .string k2) ∧ Aside (TxI w l (.slice (some ⟨b, off, none⟩) l.en.length cap) (400 + 10000 * kk + 6600) wc) ∧ Aside (BkE wc K ⟨xur, xmi, xbr, xda, xke, xga, xex⟩ (.slice xa xex.length xc)))
          case first =>
            cases kq
            · have HD := Lib.hid (dash_any xke u3)
              go_wp2_with fail
              refine HD.out.mono ?_
              rintro e w3 ⟨⟨s3, rfl, hs3⟩, rfl⟩
              go_wp2_with (go_at_fn 22; (with_reducible refine (HT3.out.put2 (k := 100) (sz2 (by decide) (Nat.le_trans hs3 (by omega : _ ≤ 80))) (by omega)).mono ?_); rintro e w4 ⟨rfl, ht, hk⟩; have HT4 := Lib.hid ht; have HE4 := Lib.hid (HE3.out.kp hk); clear ht hk)
              go_meet
              exact ⟨⟨_, rfl⟩, HT4.out.mono (by omega), HE4.out⟩
            · go_wp2_with fail
              go_meet
              exact ⟨⟨_, rfl⟩, HT3.out.mono (by omega), HE3.out⟩
          obtain ⟨⟨k2, rfl⟩, AT, AE⟩ := hcut
          obtain ⟨u4, hwn⟩ : ∃ u, u = wc := ⟨_, rfl⟩
          have HT4 : Hid (TxI w l (.slice (some ⟨b, off, none⟩) l.en.length cap) (400 + 10000 * kk + 6600) u4) := Lib.hid (by rw [hwn]; exact AT.out)
          have HE4 : Hid (BkE u4 K ⟨xur, xmi, xbr, xda, xke, xga, xex⟩ (.slice xa xex.length xc)) := Lib.hid (by rw [hwn]; exact AE.out)
          rw [← hwn]
          clear hwn AT AE HT3 HE3 e0 e1 e2 e3 e4 e5 e6
          obtain ⟨e0, e1, e2, e3, e4, e5, e6⟩ := HE4.out.cells
          go_upto_if 89 with (fail)
          go_cut [5] (fun s wc => s = .pointer (some ⟨w.heap.size + 1, 0, none⟩) ∧ Aside (TxI w l (.slice (some ⟨b, off, none⟩) l.en.length cap) (400 + 10000 * kk + 6650) wc) ∧ Aside (BkE wc K ⟨xur, xmi, xbr, xda, xke, xga, xex⟩ (.slice xa xex.length xc)))
          case first =>
            cases xga
            · go_wp2_with fail
              go_meet
              exact ⟨rfl, HT4.out.mono (by omega), HE4.out⟩
            · go_wp2_with (go_at_fn 22; (with_reducible refine (HT4.out.put1 (k := 20) (by decide) (by omega)).mono ?_); rintro e w2 ⟨rfl, ht, hk⟩; have HT5 := Lib.hid ht; have HE5 := Lib.hid (HE4.out.kp hk); clear ht hk)
              go_meet
              exact ⟨rfl, HT5.out.mono (by omega), HE5.out⟩
          obtain ⟨rfl, AT, AE⟩ := hcut
          obtain ⟨u5, hwn⟩ : ∃ u, u = wc := ⟨_, rfl⟩
          have HT5 : Hid (TxI w l (.slice (some ⟨b, off, none⟩) l.en.length cap) (400 + 10000 * kk + 6650) u5) := Lib.hid (by rw [hwn]; exact AT.out)
          have HE5 : Hid (BkE u5 K ⟨xur, xmi, xbr, xda, xke, xga, xex⟩ (.slice xa xex.length xc)) := Lib.hid (by rw [hwn]; exact AE.out)
          rw [← hwn]
          clear hwn AT AE HT4 HE4 e0 e1 e2 e3 e4 e5 e6
          obtain ⟨e0, e1, e2, e3, e4, e5, e6⟩ := HE5.out.cells
          have HD := Lib.hid (decimal_any xmi u5 hmi (tab_below HTB.out HT5.out.be))
          go_wp2_with fail
          refine HD.out.mono ?_
          rintro e w3 ⟨s3, rfl, hs3, hb⟩
          have HT6 := Lib.hid (HT5.out.below hb)
          have HE6 := Lib.hid (HE5.out.below hb HE5.out.lt)
          clear hb HD e0 e1 e2 e3 e4 e5 e6
          go_wp2_with (go_at_fn 22; (with_reducible refine (HT6.out.put2 (k := 120) (sz2 (by decide) hs3) (by omega)).mono ?_); rintro e w4 ⟨rfl, ht, hk⟩; have HT7 := Lib.hid ht; have HE7 := Lib.hid (HE6.out.kp hk); obtain ⟨e0, e1, e2, e3, e4, e5, e6⟩ := HE7.out.cells; clear ht hk)
          go_wp2_with (go_at_fn 22; (with_reducible refine (HT7.out.put1 (k := 200) hur (by omega)).mono ?_); rintro e w5 ⟨rfl, ht, hk⟩; have HT8 := Lib.hid ht; clear ht hk e0 e1 e2 e3 e4 e5 e6)
          go_roundg (l.en.length - (kk + 1))
          case measure => omega
          case rel => exact ⟨kk + 1, k2, by omega, by omega, by go_num, rfl, HT8.out.mono (by omega)⟩
    · obtain rfl : kk = l.en.length := by omega
      have hltz : ¬ (l.en.length : Int) < (l.en.length : Int) := by omega
      obtain ⟨b0, b1, b2, b3, b4⟩ := HTR.out.bk.cells
      obtain ⟨ED, hED⟩ : ∃ E, E = l.ed := ⟨_, rfl⟩
      rw [← hED] at b4
      clear hED
      cases ED
      · have HS := Lib.hid HTR.out.str
        go_wp2_with (go_at_call 29; (with_reducible refine HS.out.mono ?_); rintro e w3 ⟨⟨s, rfl, hs⟩, hb⟩; have HB := Lib.hid hb; clear hb)
        go_ret
        exact ⟨⟨s, rfl, by omega⟩, HB.out⟩
      · go_wp2_with (go_at_fn 22; (with_reducible refine (HTR.out.put1 (k := 20) (by decide) (by omega)).mono ?_); rintro e w2 ⟨rfl, ht, hk⟩; have HT2 := Lib.hid ht; clear ht hk)
        have HS := Lib.hid HT2.out.str
        go_wp2_with (go_at_call 29; (with_reducible refine HS.out.mono ?_); rintro e w3 ⟨⟨s, rfl, hs⟩, hb⟩; have HB := Lib.hid hb; clear hb)
        go_ret
        exact ⟨⟨s, rfl, by omega⟩, HB.out⟩

set_option maxRecDepth 100000 in
set_option maxHeartbeats 4000000 in
/-- Text: a right list has one that is not too long, or there is a fault and none. -/
theorem TextL_any (w : World) (l : Lst) (v : Value) (hl : EnS w v l.en) (hw : WfLs l) (ht : TabW w) :
    Calls Tryz.prog 4 #[agLs l v] w fun e w' => (∃ (s : ByteArray) (f : Int), e = .returned (.tuple #[.string s, .int .i64 f]) ∧ (f ≠ 0 → s = ⟨#[]⟩) ∧ (f = 0 → chkL l = 0 ∧ s.size ≤ 500000)) ∧ Below w.heap.size w w' := by
  obtain ⟨w1, hw1⟩ : ∃ w1, w1 = w.alloc (litL l v) := ⟨_, rfl⟩
  have HB1 : Hid (Below w.heap.size w w1) := Lib.hid (by rw [hw1]; exact (Below.refl _ w).alloc (Nat.le_refl _) _)
  have hk0 : BkLs w1 w.heap.size l v := by rw [hw1]; exact BkLs.new w l v
  have HK0 := Lib.hid hk0
  have HCK := Lib.hid (chkLs_any w1 l v (hl.below HB1.out) hw)
  have HLT : Hid (chkL l = 0 → ∀ W, Below w1.heap.size w1 W → Calls Tryz.prog 11 #[agLs l v, .string ⟨#[]⟩] W fun e w' => (∃ s : ByteArray, e = .returned (.string s) ∧ s.size ≤ 100000000) ∧ Below W.heap.size W w') := Lib.hid (fun h W hb => listText_any W l v ((hl.below HB1.out).below hb) (chkL_zero h) (tab_below ht (HB1.out.thru hb)))
  obtain ⟨ao, cap, rfl, -, -, -, -⟩ := hl.op
  have HW1 := Lib.hid hw1
  obtain ⟨b0, b1, b2, b3, b4⟩ := hk0.cells
  obtain ⟨F, hF⟩ : ∃ F, F = chkL l := ⟨_, rfl⟩
  rw [← hF] at HCK HLT ⊢
  clear hw1 hk0 hl hw ht hF
  go_enter Tryz.func4, Tryz.ntmps4
  go_upto_region 1 with (fail)
  rw [← HW1.out]
  clear HW1
  go_wp2_with fail
  refine HCK.out.mono ?_
  rintro e w2 ⟨rfl, hb2⟩
  have HB2 := Lib.hid hb2
  clear b0 b1 b2 b3 b4
  obtain ⟨b0, b1, b2, b3, b4⟩ := (HK0.out.below hb2 HK0.out.lt).cells
  clear hb2
  by_cases hF : F = 0
  rotate_left
  next =>
    have HF := Lib.hid hF
    go_wp2_with fail
    go_ret2
    exact ⟨⟨_, _, rfl, fun _ => rfl, fun h => absurd h HF.out⟩, HB1.out.thru HB2.out⟩
  have HL2 := Lib.hid (HLT.out hF w2 HB2.out)
  subst hF
  go_wp2_with fail
  refine HL2.out.mono ?_
  rintro e w3 ⟨⟨s, rfl, hs⟩, hb3⟩
  have HB3 := Lib.hid hb3
  have HBD := Lib.hid (bounded_any s w3 hs)
  clear hb3
  go_wp2_with fail
  refine HBD.out.mono ?_
  rintro e w4 ⟨⟨r, f, rfl, h1, h2⟩, rfl⟩
  have H1 := Lib.hid h1
  have H2 := Lib.hid h2
  clear h1 h2
  go_wp2_with fail
  go_ret2
  exact ⟨⟨r, f, rfl, H1.out, by first | exact fun h => ⟨rfl, H2.out h⟩ | exact H2.out⟩, HB1.out.thru (HB2.out.thru HB3.out)⟩
end Go.Proofs.YtehbmnkbmgnkfaaGreatDoor

/- sameList, follows, Follows of playlists: of lists that follow one another. -/
namespace Go.Proofs.YtehbmnkbmgnkfaaGreatDoor
open Go.RowKit

set_option maxRecDepth 100000 in
set_option maxHeartbeats 4000000 in
theorem eqFn_any (w : World) (l : List Ent) (u v : Value) (hu : EnS w u l) (hv : EnS w v l) :
    Calls Tryz.prog 72 #[u, v, .func (.func 44) #[] #[]] w fun e w' => e = .returned (.bool true) ∧ Below w.heap.size w w' := by
  obtain ⟨ao, cap, rfl, hcap, hmax, hnil, hel⟩ := hu.op
  obtain ⟨bo, bap, rfl, hbap, hbax, hbil, hem⟩ := hv.op
  have HEL := Lib.hid hel
  have HEM := Lib.hid hem
  unfold maxLen at hmax hbax
  clear hel hem hnil hbil hu hv
  go_enter Tryz.func72, Tryz.ntmps72
  go_wp2_with fail
  go_loopg [17] l.length (fun gg s17 wr => ∃ kk : Nat, kk ≤ l.length ∧ l.length - kk ≤ gg ∧ s17 = .int .i64 kk ∧ Aside (Below w.heap.size w wr))
  case atStart => exact ⟨0, Nat.zero_le _, by omega, by go_num, Below.refl _ _⟩
  case round =>
    obtain ⟨kk, hkk, hg, rfl, BW⟩ := hrel
    have HBW := Lib.hid BW.out
    clear BW
    by_cases hlt : kk < l.length
    · have hltz : (kk : Int) < (l.length : Int) := by omega
      obtain ⟨x, hx⟩ : ∃ x, l[kk]? = some x := ⟨l[kk], by simp [hlt]⟩
      obtain ⟨b, off, xv, rfl, hce, hxs⟩ := HEL.out kk x hx
      obtain ⟨b', off', yv, rfl, hcf, hys⟩ := HEM.out kk x hx
      obtain ⟨xa, xc, hxv, -, -, -, -⟩ := id hxs
      subst hxv
      obtain ⟨ya, yc, hyv, -, -, -, -⟩ := id hys
      subst hyv
      obtain ⟨c0, c1, c2, c3, c4, c5, c6⟩ := hce.below HBW.out
      have hb5 := HBW.out.alloc HBW.out.size (litE x (.slice xa x.ex.length xc))
      obtain ⟨d0, d1, d2, d3, d4, d5, d6⟩ := hcf.below hb5
      have hk0 := BkE.new wr x (.slice xa x.ex.length xc)
      have hb6 := hb5.alloc hb5.size (litE x (.slice ya x.ex.length yc))
      have hk1 := hk0.below ((Below.refl _ _).alloc (Nat.le_refl _) (litE x (.slice ya x.ex.length yc))) hk0.lt
      have hk2 := BkE.new (wr.alloc (litE x (.slice xa x.ex.length xc))) x (.slice ya x.ex.length yc)
      have hsz : (wr.alloc (litE x (.slice xa x.ex.length xc))).heap.size = wr.heap.size + 1 := by simp
      rw [hsz] at hk2
      obtain ⟨e0, e1, e2, e3, e4, e5, e6⟩ := hk1.cells
      obtain ⟨f0, f1, f2, f3, f4, f5, f6⟩ := hk2.cells
      have HB6 := Lib.hid hb6
      have HS := Lib.hid (sameE_any _ x (.slice xa x.ex.length xc) (.slice ya x.ex.length yc) (hxs.below hb6 (Nat.le_refl _)) (hys.below hb6 (Nat.le_refl _)))
      have eg : ∀ args w, (callFunc 44 args).run Tryz.prog w = .ok (.enter 44 args) w := enters_of Tryz.func44 (by kernel_rfl) rfl
      clear hx hce hcf hxs hys hb5 hb6 hk0 hk1 hk2 hsz
      go_wp2_with (go_at_fn 44; (with_reducible refine HS.out.mono ?_); rintro e w7 ⟨rfl, hb7⟩; have HB7 := Lib.hid hb7; clear hb7)
      go_roundg (l.length - (kk + 1))
      case measure => omega
      case rel => exact ⟨kk + 1, by omega, by omega, by go_num, HB6.out.thru HB7.out⟩
    · obtain rfl : kk = l.length := by omega
      have hltz : ¬ (l.length : Int) < (l.length : Int) := by omega
      go_wp2_with fail
      go_ret
      exact ⟨rfl, HBW.out⟩

set_option maxRecDepth 100000 in
set_option maxHeartbeats 4000000 in
theorem sameL_any (w : World) (l : Lst) (u v : Value) (hu : EnS w u l.en) (hv : EnS w v l.en) :
    Calls Tryz.prog 42 #[agLs l u, agLs l v] w fun e w' => e = .returned (.bool true) ∧ Below w.heap.size w w' := by
  obtain ⟨w2, hw2⟩ : ∃ w2, w2 = (w.alloc (litL l u)).alloc (litL l v) := ⟨_, rfl⟩
  have HB2 : Hid (Below w.heap.size w w2) := Lib.hid (by rw [hw2]; exact ((Below.refl _ w).alloc (Nat.le_refl _) _).alloc (by simp) _)
  have hk0 : BkLs w2 w.heap.size l u := by
    have h1 := BkLs.new w l u
    rw [hw2]
    exact h1.below ((Below.refl _ _).alloc (Nat.le_refl _) _) h1.lt
  have hk1 : BkLs w2 (w.heap.size + 1) l v := by
    have e : w.heap.size + 1 = (w.alloc (litL l u)).heap.size := by simp
    rw [hw2, e]
    exact BkLs.new _ _ _
  have HEQ := Lib.hid (eqFn_any w2 l.en u v (hu.below HB2.out) (hv.below HB2.out))
  obtain ⟨ao, cap, rfl, -, -, -, -⟩ := hu.op
  obtain ⟨bo, bap, rfl, -, -, -, -⟩ := hv.op
  obtain ⟨b0, b1, b2, b3, b4⟩ := hk0.cells
  obtain ⟨c0, c1, c2, c3, c4⟩ := hk1.cells
  have HW2 := Lib.hid hw2
  clear hw2 hk0 hk1 hu hv
  go_enter Tryz.func42, Tryz.ntmps42
  go_upto_region 1 with (fail)
  rw [← HW2.out]
  clear HW2
  go_wp2_with (go_at_call 72; (with_reducible refine HEQ.out.mono ?_); rintro e w3 ⟨rfl, hb3⟩; have HB3 := Lib.hid hb3; clear hb3)
  go_ret
  exact ⟨by simp, HB2.out.thru HB3.out⟩
end Go.Proofs.YtehbmnkbmgnkfaaGreatDoor

/- follows, Follows of playlists: of lists that follow one another. -/
namespace Go.Proofs.YtehbmnkbmgnkfaaGreatDoor
open Go.RowKit

set_option maxRecDepth 100000 in
set_option maxHeartbeats 8000000 in
theorem follows_any (w : World) (a b : Lst) (u v : Value) (hu : EnS w u a.en) (hv : EnS w v b.en) (ga : GdL a) (gb : GdL b) (hf : Fol a b) :
    Calls Tryz.prog 19 #[agLs a u, agLs b v] w fun e w' => e = .returned (.int .i64 0) ∧ Below w.heap.size w w' := by
  obtain ⟨w2, hw2⟩ : ∃ w2, w2 = (w.alloc (litL a u)).alloc (litL b v) := ⟨_, rfl⟩
  have HB2 : Hid (Below w.heap.size w w2) := Lib.hid (by rw [hw2]; exact ((Below.refl _ w).alloc (Nat.le_refl _) _).alloc (by simp) _)
  have hk0 : BkLs w2 w.heap.size a u := by
    have h1 := BkLs.new w a u
    rw [hw2]
    exact h1.below ((Below.refl _ _).alloc (Nat.le_refl _) _) h1.lt
  have hk1 : BkLs w2 (w.heap.size + 1) b v := by
    have e : w.heap.size + 1 = (w.alloc (litL a u)).heap.size := by simp
    rw [hw2, e]
    exact BkLs.new _ _ _
  have hta := hf.1
  obtain ⟨g, hfi, hle, hen, hla⟩ := hf.facts
  have HSL : Hid (a.ed = true → ∀ W, Below w2.heap.size w2 W → Calls Tryz.prog 42 #[agLs a u, agLs b v] W fun e w' => e = .returned (.bool true) ∧ Below W.heap.size W w') := Lib.hid (fun he W hW => by
    have e := hf.2.1 he
    subst e
    exact sameL_any W _ u v ((hu.below HB2.out).below hW) ((hv.below HB2.out).below hW))
  have T1 := Lib.hid (fun (W : World) (hb : Below w2.heap.size w2 W) => breakN_any W a u ((hu.below HB2.out).below hb) ga)
  have T2 := Lib.hid (fun (W : World) (hb : Below w2.heap.size w2 W) => breakN_any W b v ((hv.below HB2.out).below hb) gb)
  obtain ⟨uo, uc, rfl, huc, hum, -, hel⟩ := hu.op
  obtain ⟨vo, vc, rfl, hvc, hvm, -, hem⟩ := hv.op
  have HEL := Lib.hid hel
  have HEM := Lib.hid hem
  have HEN := Lib.hid hen
  have HLA := Lib.hid hla
  have HK0 := Lib.hid hk0
  have HK1 := Lib.hid hk1
  have haf := ga.fi
  have hal := ga.ln
  have hbf := gb.fi
  have hbl := gb.ln
  have hab := ga.br
  have hbb := gb.br
  have HAB := Lib.hid (cntB_bd a.en)
  have HW2 := Lib.hid hw2
  have hsz0 := hk0.lt
  have hsz1 := hk1.lt
  unfold maxLen at hum hvm
  clear hw2 hel hem hen hla hu hv ga gb hf hk0 hk1
  obtain ⟨ata, afi, abr, aen, aed⟩ := a
  obtain ⟨bta, bfi, bbr, ben, bed⟩ := b
  simp only at hta hfi hle haf hal hbf hbl hab hbb huc hvc
  subst hta
  subst hfi
  have hlz : (aen.length : Int) ≤ 1000 := by omega
  have hmz : (ben.length : Int) ≤ 1000 := by omega
  have hgz : (0 : Int) ≤ (g : Int) := by omega
  have HSS : Hid (∀ W : World, Below w2.heap.size w2 W → (W.cell? ⟨w.heap.size, 0, none⟩ = some (.int .i64 bta) ∧ W.cell? ⟨w.heap.size, 1, none⟩ = some (.int .i64 afi) ∧ W.cell? ⟨w.heap.size, 2, none⟩ = some (.int .i64 abr) ∧ W.cell? ⟨w.heap.size, 3, none⟩ = some (.slice uo aen.length uc) ∧ W.cell? ⟨w.heap.size, 4, none⟩ = some (.bool aed) ∧ W.cell? ⟨w.heap.size + 1, 0, none⟩ = some (.int .i64 bta) ∧ W.cell? ⟨w.heap.size + 1, 1, none⟩ = some (.int .i64 (afi + g)) ∧ W.cell? ⟨w.heap.size + 1, 2, none⟩ = some (.int .i64 bbr) ∧ W.cell? ⟨w.heap.size + 1, 3, none⟩ = some (.slice vo ben.length vc) ∧ W.cell? ⟨w.heap.size + 1, 4, none⟩ = some (.bool bed))) := Lib.hid (fun W hW => by
    obtain ⟨b0, b1, b2, b3, b4⟩ := (HK0.out.below hW hsz0).cells
    obtain ⟨c0, c1, c2, c3, c4⟩ := (HK1.out.below hW hsz1).cells
    exact ⟨b0, b1, b2, b3, b4, c0, c1, c2, c3, c4⟩)
  obtain ⟨b0, b1, b2, b3, b4, c0, c1, c2, c3, c4⟩ := HSS.out w2 (Below.refl _ _)
  go_enter Tryz.func19, Tryz.ntmps19
  go_upto_region 1 with (fail)
  rw [← HW2.out]
  clear HW2
  have q1 : IntKind.i64.wrap (afi + (aen.length : Int)) = afi + (aen.length : Int) := IntWalk.i64_in _ (by omega)
  have q2 : IntKind.i64.wrap (afi + (g : Int) + (ben.length : Int)) = afi + (g : Int) + (ben.length : Int) := IntWalk.i64_in _ (by omega)
  have hund : undef = Value.tuple #[] := rfl
  go_quiet (fail)
  clear hund q1 q2 b0 b1 b2 b3 b4 c0 c1 c2 c3 c4
  obtain ⟨w3, hw3⟩ : ∃ w3, w3 = w2.drewN nq := ⟨_, rfl⟩
  have HB3 : Hid (Below w2.heap.size w2 w3) := Lib.hid (by rw [hw3]; exact below_drewN (Below.refl _ _) _)
  rw [← hw3]
  clear hw3
  obtain ⟨b0, b1, b2, b3, b4, c0, c1, c2, c3, c4⟩ := HSS.out w3 HB3.out
  go_upto_region 4 with (fail)
  go_cut [31] (fun s wc => s = .bool false ∧ Aside (Below w2.heap.size w2 wc))
  case first =>
    cases aed
    · go_wp2_with fail
      go_meet
      exact ⟨rfl, HB3.out⟩
    · have HS2 := Lib.hid (HSL.out rfl w3 HB3.out)
      go_wp2_with (go_at_call 42; (with_reducible refine HS2.out.mono ?_); rintro e w4 ⟨rfl, hb4⟩; have HB4 := Lib.hid (HB3.out.thru hb4); clear hb4)
      go_meet
      exact ⟨rfl, HB4.out⟩
  obtain ⟨rfl, B4⟩ := hcut
  obtain ⟨w4, hw4⟩ : ∃ w4, w4 = wc := ⟨_, rfl⟩
  have HB4 : Hid (Below w2.heap.size w2 w4) := Lib.hid (by rw [hw4]; exact B4.out)
  rw [← hw4]
  clear hw4 B4 b0 b1 b2 b3 b4 c0 c1 c2 c3 c4 HB3 HSL
  obtain ⟨b0, b1, b2, b3, b4, c0, c1, c2, c3, c4⟩ := HSS.out w4 HB4.out
  have n1 : ¬ (afi + (g : Int) < afi) := by omega
  have n2 : ¬ (afi + (g : Int) + (ben.length : Int) < afi + (aen.length : Int)) := by omega
  go_upto_region 8 with (fail)
  clear n1 n2 b0 b1 b2 b3 b4 c0 c1 c2 c3 c4
  have hbc : Below w2.heap.size w2 w4.drew := HB4.out.drew
  go_cut [7, 8] (fun s7 s8 wc => Aside (Sl wc 1 encI s7 (bnL abr aen)) ∧ Aside (Sl wc 1 encI s8 (bnL bbr ben)) ∧ Aside (Below w2.heap.size w2 wc))
  case first =>
    go_region_held3 (fun W => W.cell? ⟨w.heap.size, 0, none⟩ = some (.int .i64 bta) ∧ W.cell? ⟨w.heap.size, 1, none⟩ = some (.int .i64 afi) ∧ W.cell? ⟨w.heap.size, 2, none⟩ = some (.int .i64 abr) ∧ W.cell? ⟨w.heap.size, 3, none⟩ = some (.slice uo aen.length uc) ∧ W.cell? ⟨w.heap.size, 4, none⟩ = some (.bool aed) ∧ W.cell? ⟨w.heap.size + 1, 0, none⟩ = some (.int .i64 bta) ∧ W.cell? ⟨w.heap.size + 1, 1, none⟩ = some (.int .i64 (afi + g)) ∧ W.cell? ⟨w.heap.size + 1, 2, none⟩ = some (.int .i64 bbr) ∧ W.cell? ⟨w.heap.size + 1, 3, none⟩ = some (.slice vo ben.length vc) ∧ W.cell? ⟨w.heap.size + 1, 4, none⟩ = some (.bool bed))
      (first | exact HSS.out _ hbc | fail "keep")
      (first | (go_at_call 43; (first | ((with_reducible refine (T1.out _ hbc).mono ?_); rintro e w5 ⟨va, rfl, hsa, hba⟩; replace hbc := hbc.thru hba) | ((with_reducible refine (T2.out _ hbc).mono ?_); rintro e w6 ⟨vb, rfl, hsb, hbb⟩; replace hbc := hbc.thru hbb))) | fail "arms")
    all_goals
      go_wp2_with fail
      go_meet
      first | exact ⟨hsa.below hbb (Nat.le_refl _), hsb, hbc⟩ | exact ⟨hsa, hsb.below hba (Nat.le_refl _), hbc⟩
  obtain ⟨AA, AB, B5⟩ := hcut
  obtain ⟨w5, hw5⟩ : ∃ w5, w5 = wc := ⟨_, rfl⟩
  have HB5 : Hid (Below w2.heap.size w2 w5) := Lib.hid (by rw [hw5]; exact B5.out)
  obtain ⟨ao7, c7, rfl, hc7, hm7, -, he7⟩ := AA.out
  obtain ⟨ao8, c8, rfl, hc8, hm8, -, he8⟩ := AB.out
  rw [bnL_len] at hc7 hc8 ⊢
  rw [bnL_len]
  rw [← hw5] at he7 he8 ⊢
  have HE7 := Lib.hid he7
  have HE8 := Lib.hid he8
  unfold maxLen at hm7 hm8
  clear hw5 AA AB B5 hbc T1 T2 he7 he8 HB4
  obtain ⟨b0, b1, b2, b3, b4, c0, c1, c2, c3, c4⟩ := HSS.out w5 HB5.out
  go_wp2_with fail
  clear b0 b1 b2 b3 b4 c0 c1 c2 c3 c4
  go_loopg [9, 10, 11] (aen.length - g) (fun gg s9 _ _ wr => ∃ t : Nat, t ≤ aen.length - g ∧ aen.length - g - t ≤ gg ∧ s9 = .int .i64 (afi + g + t) ∧ Aside (Below w5.heap.size w5 wr))
  case atStart => exact ⟨0, Nat.zero_le _, by omega, by go_num, Below.refl _ _⟩
  case round =>
    obtain ⟨t, ht, hg, rfl, BW⟩ := hrel
    have HBW := Lib.hid BW.out
    have HB6 := Lib.hid (HB5.out.thru BW.out)
    clear BW
    obtain ⟨b0, b1, b2, b3, b4, c0, c1, c2, c3, c4⟩ := HSS.out wr HB6.out
    by_cases hlt : g + t < aen.length
    · have hltz : afi + (g : Int) + (t : Int) < afi + (aen.length : Int) := by omega
      have htb : t < ben.length := by omega
      have hbz1 : (g : Int) + (t : Int) < (aen.length : Int) := by omega
      have hbz2 : ((g + t : Nat) : Int) < (aen.length : Int) := by omega
      have hbz3 : (t : Int) < (ben.length : Int) := by omega
      obtain ⟨h1, h2⟩ := HEN.out t hlt
      obtain ⟨x, hx⟩ : ∃ x, aen[g + t]? = some x := ⟨aen[g + t], by simp [hlt]⟩
      rw [hx] at h1
      obtain ⟨p, po, xv, hxo, hce, hxs⟩ := HEL.out (g + t) x hx
      obtain ⟨r, ro, yv, hyo, hcf, hys⟩ := HEM.out t x h1
      obtain ⟨p7, o7, h7, hn7⟩ := HE7.out (g + t) _ (bnL_get hlt)
      obtain ⟨p8, o8, h8, hn8⟩ := HE8.out t _ (bnL_get htb)
      subst hxo
      subst hyo
      subst h7
      subst h8
      have hn7 := hn7 0 _ rfl
      have hn8 := hn8 0 _ rfl
      rw [Nat.mul_one, Nat.add_zero] at hn7 hn8
      rw [h2] at hn7
      generalize bbr + cntB (ben.take (t + 1)) = N at hn7 hn8
      obtain ⟨xa, xc, hxv, -, -, -, -⟩ := id hxs
      subst hxv
      obtain ⟨ya, yc, hyv, -, -, -, -⟩ := id hys
      subst hyv
      have HCE := Lib.hid hce
      have HCF := Lib.hid hcf
      have HXS := Lib.hid hxs
      have HYS := Lib.hid hys
      have HN7 := Lib.hid hn7
      have HN8 := Lib.hid hn8
      clear hx h1 h2 hce hcf hxs hys hn7 hn8
      obtain ⟨ex, hex⟩ : ∃ ex, ex = g + t := ⟨_, rfl⟩
      have hexz : (ex : Int) = (g : Int) + (t : Int) := by omega
      have hex0 : (0 : Int) ≤ (ex : Int) := by omega
      have hex1 : (ex : Int) < (aen.length : Int) := by omega
      have ht0 : (0 : Int) ≤ (t : Int) := by omega
      have huz : (aen.length : Int) ≤ (uc : Int) := by omega
      have hvz : (ben.length : Int) ≤ (vc : Int) := by omega
      rw [← hex] at HCE HN7
      have q1 : IntKind.i64.wrap (afi + (g : Int) + (t : Int) - afi) = (ex : Int) := by rw [IntWalk.i64_in _ (by omega)]; omega
      clear hexz hex hbz1 hbz2
      go_upto_region 12 with (fail)
      have q2 : IntKind.i64.wrap (afi + (g : Int) + (t : Int) - (afi + (g : Int))) = (t : Int) := by rw [IntWalk.i64_in _ (by omega)]; omega
      have hund : undef = Value.tuple #[] := rfl
      go_quiet (fail)
      clear hund q1 q2 b0 b1 b2 b3 b4 c0 c1 c2 c3 c4
      obtain ⟨w6, hw6⟩ : ∃ w6, w6 = wr.drewN nq := ⟨_, rfl⟩
      have HBN : Hid (Below w5.heap.size w5 w6) := Lib.hid (by rw [hw6]; exact below_drewN HBW.out _)
      have HB7 : Hid (Below w2.heap.size w2 w6) := Lib.hid (HB5.out.thru HBN.out)
      rw [← hw6]
      clear hw6 HB6 HBW
      have HSA : Hid (∀ W : World, Below w5.heap.size w5 W → (W.cell? ⟨w.heap.size, 3, none⟩ = some (.slice (some ⟨p, po, none⟩) aen.length uc) ∧ W.cell? ⟨w.heap.size + 1, 3, none⟩ = some (.slice (some ⟨r, ro, none⟩) ben.length vc) ∧ CellsE W p (po + ex * 7) x (.slice xa x.ex.length xc) ∧ CellsE W r (ro + t * 7) x (.slice ya x.ex.length yc))) := Lib.hid (fun W hW => by
        have h2 := HB5.out.thru hW
        obtain ⟨-, -, -, h3, -, -, -, -, h4, -⟩ := HSS.out W h2
        exact ⟨h3, h4, HCE.out.below (HB2.out.thru h2), HCF.out.below (HB2.out.thru h2)⟩)
      have HSE : Hid (∀ W, Below w5.heap.size w5 W → Calls Tryz.prog 44 #[aggE x (.slice xa x.ex.length xc), aggE x (.slice ya x.ex.length yc)] W fun e w' => e = .returned (.bool true) ∧ Below W.heap.size W w') := Lib.hid (fun W hW => by
        have h2 := HB2.out.thru (HB5.out.thru hW)
        exact sameE_any W x _ _ (HXS.out.below h2 (Nat.le_refl _)) (HYS.out.below h2 (Nat.le_refl _)))
      have hbc : Below w5.heap.size w5 w6.drew := HBN.out.drew
      obtain ⟨h3, h4, hpc, hrc⟩ := HSA.out w6 HBN.out
      go_upto_region 13 with (fail)
      go_cut [70] (fun s wc => s = .bool false ∧ Aside (Below w5.heap.size w5 wc))
      case first =>
        unfold CellsE at HSA
        go_region_held3 (fun W => W.cell? ⟨w.heap.size, 3, none⟩ = some (.slice (some ⟨p, po, none⟩) aen.length uc) ∧ W.cell? ⟨w.heap.size + 1, 3, none⟩ = some (.slice (some ⟨r, ro, none⟩) ben.length vc) ∧
          (W.cell? ⟨p, po + ex * 7, none⟩ = some (.string x.ur) ∧ W.cell? ⟨p, po + ex * 7 + 1, none⟩ = some (.int .i64 x.mi) ∧ W.cell? ⟨p, po + ex * 7 + 2, none⟩ = some (.bool x.br) ∧ W.cell? ⟨p, po + ex * 7 + 3, none⟩ = some (.int .i64 x.da) ∧ W.cell? ⟨p, po + ex * 7 + 4, none⟩ = some (.string x.ke) ∧ W.cell? ⟨p, po + ex * 7 + 5, none⟩ = some (.bool x.ga) ∧ W.cell? ⟨p, po + ex * 7 + 6, none⟩ = some (.slice xa x.ex.length xc)) ∧
          (W.cell? ⟨r, ro + t * 7, none⟩ = some (.string x.ur) ∧ W.cell? ⟨r, ro + t * 7 + 1, none⟩ = some (.int .i64 x.mi) ∧ W.cell? ⟨r, ro + t * 7 + 2, none⟩ = some (.bool x.br) ∧ W.cell? ⟨r, ro + t * 7 + 3, none⟩ = some (.int .i64 x.da) ∧ W.cell? ⟨r, ro + t * 7 + 4, none⟩ = some (.string x.ke) ∧ W.cell? ⟨r, ro + t * 7 + 5, none⟩ = some (.bool x.ga) ∧ W.cell? ⟨r, ro + t * 7 + 6, none⟩ = some (.slice ya x.ex.length yc)))
          (first | exact HSA.out _ hbc | fail "keep")
          (first | (go_at_call 44; ((with_reducible refine (HSE.out _ hbc).mono ?_); rintro e w7 ⟨rfl, hb7⟩; replace hbc := hbc.thru hb7)) | fail "arms")
        all_goals
          go_wp2_with fail
          go_meet
          exact ⟨rfl, hbc⟩
      obtain ⟨rfl, B8⟩ := hcut
      obtain ⟨w8, hw8⟩ : ∃ w8, w8 = wc := ⟨_, rfl⟩
      have HB8 : Hid (Below w5.heap.size w5 w8) := Lib.hid (by rw [hw8]; exact B8.out)
      rw [← hw8]
      clear hw8 B8 hbc h3 h4 hpc hrc
      have l7 := World.block_lt_of_cell? w5 _ HN7.out
      have l8 := World.block_lt_of_cell? w5 _ HN8.out
      have m7 : w8.cell? ⟨p7, o7 + ex, none⟩ = some (.int .i64 N) := (HB8.out.cell (p := ⟨p7, o7 + ex, none⟩) l7).trans HN7.out
      have m8 : w8.cell? ⟨p8, o8 + t, none⟩ = some (.int .i64 N) := (HB8.out.cell (p := ⟨p8, o8 + t, none⟩) l8).trans HN8.out
      go_upto_region 15 with (fail)
      have hund : undef = Value.tuple #[] := rfl
      go_quiet (fail)
      clear hund
      have HB9 : Hid (Below w5.heap.size w5 (w8.drewN nq)) := Lib.hid (below_drewN HB8.out _)
      go_wp2_with fail
      go_roundg (aen.length - g - (t + 1))
      case measure => omega
      case rel => exact ⟨t + 1, by omega, by omega, by go_num, HB9.out⟩
    · have hltz : ¬ (afi + (g : Int) + (t : Int) < afi + (aen.length : Int)) := by omega
      by_cases hz : aen.length = 0
      · have hn0 : aen = [] := List.length_eq_zero_iff.1 hz
        have hzz : ¬ (0 : Int) < (aen.length : Int) := by omega
        have hzb : ¬ bbr < abr := by
          have h := HLA.out (by simp [hz])
          rw [hn0] at h
          simp only [cntB] at h
          omega
        clear hn0 hz
        go_wp2_with fail
        go_ret
        exact ⟨rfl, HB2.out.thru HB6.out⟩
      · have hzz : (0 : Int) < (aen.length : Int) := by omega
        obtain ⟨p7, o7, h7, hn7⟩ := HE7.out (aen.length - 1) _ (bnL_get (by omega))
        subst h7
        have hn7 := hn7 0 _ rfl
        rw [Nat.mul_one, Nat.add_zero] at hn7
        have m7 := (HBW.out.cell (p := ⟨p7, o7 + (aen.length - 1), none⟩) (World.block_lt_of_cell? w5 _ hn7)).trans hn7
        have hcz : (aen.length : Int) - 1 = ((aen.length - 1 : Nat) : Int) := by omega
        rw [show aen.take (aen.length - 1 + 1) = aen from by rw [show aen.length - 1 + 1 = aen.length from by omega]; exact List.take_length] at m7
        have hcb := HAB.out
        obtain ⟨K, hK⟩ : ∃ K, K = aen.length - 1 := ⟨_, rfl⟩
        rw [← hK] at m7 hcz
        have hkb1 : (K : Int) < (aen.length : Int) := by omega
        have hkb2 : IntKind.i64.wrap ((aen.length : Int) - 1) = (K : Int) := by rw [IntWalk.i64_in _ (by omega)]; exact hcz
        clear hK
        obtain ⟨N, hN⟩ : ∃ N, N = abr + cntB aen := ⟨_, rfl⟩
        rw [← hN] at m7
        by_cases hge : aen.length ≤ g
        · have hnb : ¬ bbr < N := by
            have h := HLA.out hge
            omega
          clear hn7 hN hcb
          go_wp2_with fail
          go_ret
          exact ⟨rfl, HB2.out.thru HB6.out⟩
        · have hnb : ¬ afi + (aen.length : Int) ≤ afi + (g : Int) := by omega
          clear hn7 hN hcb
          go_wp2_with fail
          go_ret
          exact ⟨rfl, HB2.out.thru HB6.out⟩

set_option maxRecDepth 100000 in
set_option maxHeartbeats 8000000 in
/-- Follows: of lists that follow one another it is 0. -/
theorem Follows_any (w : World) (a b : Lst) (u v : Value) (hu : EnS w u a.en) (hv : EnS w v b.en) (wa : WfLs a) (wb : WfLs b) (ca : chkL a = 0) (cb : chkL b = 0) (hf : Fol a b) :
    Calls Tryz.prog 8 #[agLs a u, agLs b v] w fun e w' => e = .returned (.int .i64 0) ∧ Below w.heap.size w w' := by
  obtain ⟨w2, hw2⟩ : ∃ w2, w2 = (w.alloc (litL a u)).alloc (litL b v) := ⟨_, rfl⟩
  have HB2 : Hid (Below w.heap.size w w2) := Lib.hid (by rw [hw2]; exact ((Below.refl _ w).alloc (Nat.le_refl _) _).alloc (by simp) _)
  have hk0 : BkLs w2 w.heap.size a u := by
    have h1 := BkLs.new w a u
    rw [hw2]
    exact h1.below ((Below.refl _ _).alloc (Nat.le_refl _) _) h1.lt
  have hk1 : BkLs w2 (w.heap.size + 1) b v := by
    have e : w.heap.size + 1 = (w.alloc (litL a u)).heap.size := by simp
    rw [hw2, e]
    exact BkLs.new _ _ _
  have T1 : Hid (∀ W : World, Below w2.heap.size w2 W → Calls Tryz.prog 9 #[agLs a u] W fun e w' => e = .returned (.int .i64 0) ∧ Below W.heap.size W w') := Lib.hid (fun W hb => by
    have h := chkLs_any W a u ((hu.below HB2.out).below hb) wa
    rw [ca] at h
    exact h)
  have T2 : Hid (∀ W : World, Below w2.heap.size w2 W → Calls Tryz.prog 9 #[agLs b v] W fun e w' => e = .returned (.int .i64 0) ∧ Below W.heap.size W w') := Lib.hid (fun W hb => by
    have h := chkLs_any W b v ((hv.below HB2.out).below hb) wb
    rw [cb] at h
    exact h)
  have HFI : Hid (∀ W : World, Calls Tryz.prog 18 #[.slice (some ⟨W.heap.size, 0, none⟩) 2 2] (W.alloc (.cells #[.int .i64 0, .int .i64 0] 30)) fun e w' => e = .returned (.int .i64 0) ∧ (W.alloc (.cells #[.int .i64 0, .int .i64 0] 30)) = w') := Lib.hid (fun W => first_any _ [0, 0] _ (Sl.fresh encI_len W 30 (0, 0) [0, 0] (by simp [maxLen])))
  have HFW : Hid (∀ W : World, Below w2.heap.size w2 W → Calls Tryz.prog 19 #[agLs a u, agLs b v] W fun e w' => e = .returned (.int .i64 0) ∧ Below W.heap.size W w') := Lib.hid (fun W hb => follows_any W a b u v ((hu.below HB2.out).below hb) ((hv.below HB2.out).below hb) (chkL_zero ca) (chkL_zero cb) hf)
  have hsz0 := hk0.lt
  have hsz1 := hk1.lt
  obtain ⟨uo, uc, rfl, -, -, -, -⟩ := hu.op
  obtain ⟨vo, vc, rfl, -, -, -, -⟩ := hv.op
  have HSS : Hid (∀ W : World, Below w2.heap.size w2 W → (W.cell? ⟨w.heap.size, 0, none⟩ = some (.int .i64 a.ta) ∧ W.cell? ⟨w.heap.size, 1, none⟩ = some (.int .i64 a.fi) ∧ W.cell? ⟨w.heap.size, 2, none⟩ = some (.int .i64 a.br) ∧ W.cell? ⟨w.heap.size, 3, none⟩ = some (.slice uo a.en.length uc) ∧ W.cell? ⟨w.heap.size, 4, none⟩ = some (.bool a.ed) ∧ W.cell? ⟨w.heap.size + 1, 0, none⟩ = some (.int .i64 b.ta) ∧ W.cell? ⟨w.heap.size + 1, 1, none⟩ = some (.int .i64 b.fi) ∧ W.cell? ⟨w.heap.size + 1, 2, none⟩ = some (.int .i64 b.br) ∧ W.cell? ⟨w.heap.size + 1, 3, none⟩ = some (.slice vo b.en.length vc) ∧ W.cell? ⟨w.heap.size + 1, 4, none⟩ = some (.bool b.ed))) := Lib.hid (fun W hW => by
    obtain ⟨b0, b1, b2, b3, b4⟩ := (hk0.below hW hsz0).cells
    obtain ⟨c0, c1, c2, c3, c4⟩ := (hk1.below hW hsz1).cells
    exact ⟨b0, b1, b2, b3, b4, c0, c1, c2, c3, c4⟩)
  have HW2 := Lib.hid hw2
  clear hw2 hu hv wa wb ca cb hf hk0 hk1
  go_enter Tryz.func8, Tryz.ntmps8
  go_upto_region 1 with (fail)
  rw [← HW2.out]
  clear HW2
  have hbc : Below w2.heap.size w2 w2.drew := (Below.refl _ w2).drew
  go_cut [5] (fun s wc => s = .int .i64 0 ∧ Aside (Below w2.heap.size w2 wc))
  case first =>
    go_region_held3 (fun W => W.cell? ⟨w.heap.size, 0, none⟩ = some (.int .i64 a.ta) ∧ W.cell? ⟨w.heap.size, 1, none⟩ = some (.int .i64 a.fi) ∧ W.cell? ⟨w.heap.size, 2, none⟩ = some (.int .i64 a.br) ∧ W.cell? ⟨w.heap.size, 3, none⟩ = some (.slice uo a.en.length uc) ∧ W.cell? ⟨w.heap.size, 4, none⟩ = some (.bool a.ed) ∧ W.cell? ⟨w.heap.size + 1, 0, none⟩ = some (.int .i64 b.ta) ∧ W.cell? ⟨w.heap.size + 1, 1, none⟩ = some (.int .i64 b.fi) ∧ W.cell? ⟨w.heap.size + 1, 2, none⟩ = some (.int .i64 b.br) ∧ W.cell? ⟨w.heap.size + 1, 3, none⟩ = some (.slice vo b.en.length vc) ∧ W.cell? ⟨w.heap.size + 1, 4, none⟩ = some (.bool b.ed))
      (first | exact HSS.out _ hbc | exact HSS.out _ (hbc.alloc hbc.size _) | fail "keep")
      (first | (go_at_call 9; (first | ((with_reducible refine (T1.out _ hbc).mono ?_); rintro e w5 ⟨rfl, hba⟩; replace hbc := hbc.thru hba) | ((with_reducible refine (T2.out _ hbc).mono ?_); rintro e w6 ⟨rfl, hbb⟩; replace hbc := hbc.thru hbb))) | (go_at_call 18; (refine (HFI.out _).mono ?_; rintro e w' ⟨rfl, rfl⟩; replace hbc := hbc.alloc hbc.size (.cells #[.int .i64 0, .int .i64 0] 30))) | fail "arms")
    all_goals
      go_wp2_with fail
      go_meet
      exact ⟨rfl, hbc⟩
  obtain ⟨rfl, B4⟩ := hcut
  obtain ⟨w4, hw4⟩ : ∃ w4, w4 = wc := ⟨_, rfl⟩
  have HB4 : Hid (Below w2.heap.size w2 w4) := Lib.hid (by rw [hw4]; exact B4.out)
  rw [← hw4]
  clear hw4 B4 hbc
  obtain ⟨b0, b1, b2, b3, b4, c0, c1, c2, c3, c4⟩ := HSS.out w4 HB4.out
  have HF4 := Lib.hid (HFW.out w4 HB4.out)
  go_wp2_with (go_at_call 19; (with_reducible refine HF4.out.mono ?_); rintro e w5 ⟨rfl, hb5⟩; have HB5 := Lib.hid hb5; clear hb5)
  go_ret
  exact ⟨rfl, HB2.out.thru (HB4.out.thru HB5.out)⟩
end Go.Proofs.YtehbmnkbmgnkfaaGreatDoor

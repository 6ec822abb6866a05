/- The program's day is the document's: requests that come, answers that come back. -/
import Derived.Test.YtgohddfnhofjhaaGreatDoorK14
import Derived.Test.YtgohddfnhofjhaaGreatDoorK13
import Derived.Deep.CutBlock
import Derived.Test.YtgohddfnhofjhaaGreatDoorK01
set_option maxRecDepth 100000
set_option maxHeartbeats 4000000
namespace Go.Proofs.YtgohddfnhofjhaaGreatDoor
open Go.RowKit
section
variable {P : Program} {ops : Array Oper} {Q : Exit → Act → World → Prop} {md : Region.Mode} {S : World → Prop}
theorem tkI (i t : Nat) {oi : Oper} {v : Value} {fuel : Nat} {listed : Array Bool} {a : Act} {w : World} (hS : S w) (hi : ops[i]? = some oi := by rfl) (hd : oi.dst = some t := by rfl)
 (hs : Region.noSelect ops = true := by kernel_rfl) (hf : Region.free md ops listed i = true := by kernel_rfl) (hr : (Region.ready md ops listed).contains i = true := by kernel_rfl)
 (hQ : ∀ c a w, Q (.panic c) (a.put oi.dst v) w → Q (.panic c) a w := by exact fun _ _ _ h => h) (hw : Region.wanted oi (yielded ops a.tmps) = true := by rfl) (hy : ∀ w, S w → (execOp a.eval oi).run P w = .ok (.value v) w := by (intro w' hSw; go_simp) <;> with_reducible rfl)
 (h : wpAnyH P md ops Q S fuel (listed.setIfInBounds i true) (a.put (some t) v) w) : wpAnyH P md ops Q S (fuel + 1) listed a w :=
 wpAnyH_take hi hs hf hr hQ (.inl ⟨hw, hy⟩) hS (by rw [hd]; exact h)
theorem tkO (i t : Nat) {oi : Oper} {fuel : Nat} {listed : Array Bool} {a : Act} {w : World} (hS : S w) (hi : ops[i]? = some oi := by rfl) (hd : oi.dst = some t := by rfl)
 (hs : Region.noSelect ops = true := by kernel_rfl) (hf : Region.free md ops listed i = true := by kernel_rfl) (hr : (Region.ready md ops listed).contains i = true := by kernel_rfl)
 (hQ : ∀ c a w, Q (.panic c) (a.put oi.dst undef) w → Q (.panic c) a w := by exact fun _ _ _ h => h) (hw : Region.wanted oi (yielded ops a.tmps) = false := by rfl)
 (h : wpAnyH P md ops Q S fuel (listed.setIfInBounds i true) (a.put (some t) undef) w) : wpAnyH P md ops Q S (fuel + 1) listed a w :=
 wpAnyH_take hi hs hf hr hQ (.inr ⟨hw, rfl⟩) hS (by rw [hd]; exact h)
theorem tkS (i t : Nat) {oi : Oper} {v : Value} {fuel : Nat} {listed : Array Bool} {a : Act} {w : World} (hS : S w) (h : wpAnyH P md ops Q S fuel (listed.setIfInBounds i true) (a.put (some t) v) w) (hi : ops[i]? = some oi := by rfl) (hd : oi.dst = some t := by rfl) (hs : Region.noSelect ops = true := by kernel_rfl) (hf : Region.free md ops listed i = true := by kernel_rfl) (hr : (Region.ready md ops listed).contains i = true := by kernel_rfl) (hQ : ∀ c a w, Q (.panic c) (a.put oi.dst v) w → Q (.panic c) a w := by exact fun _ _ _ h => h) (hw : Region.wanted oi (yielded ops a.tmps) = true := by rfl) (hy : ∀ w, S w → (execOp a.eval oi).run P w = .ok (.value v) w := by (intro w' hSw; (try dsimp only at hSw); go_simp) <;> with_reducible rfl) : wpAnyH P md ops Q S (fuel + 1) listed a w :=
  wpAnyH_take hi hs hf hr hQ (.inl ⟨hw, hy⟩) hS (by rw [hd]; exact h)
end
theorem pu : (∀ (a : Act) (t : Nat) (v : Value), a.put (some t) v = { a with tmps := a.tmps.setIfInBounds t v }) ∧ (∀ (l : List Value) (i : Nat) (v : Value), l.toArray.setIfInBounds i v = (l.set i v).toArray) ∧ (∀ (a b : Value) (l : List Value), (a :: l).set 0 b = b :: l) ∧ (∀ (a b : Value) (l : List Value) (n : Nat), (a :: l).set (n + 1) b = a :: l.set n b) := ⟨fun _ _ _ => rfl, fun l i v => List.setIfInBounds_toArray l i v, fun _ _ _ => rfl, fun _ _ _ _ => rfl⟩
theorem uH (f : ByteArray → Hld) {k : ByteArray} : ∀ {ks : List ByteArray}, ks.Nodup → k ∈ ks → gB f ks = aT (f k).an + gB f (rmv k ks)
 | [], _, h => by cases h
 | a :: ks, hn, h => by
  rw [qI]; obtain ⟨h1, h2⟩ := List.nodup_cons.1 hn; by_cases e : a = k
  ·subst e; rw [if_pos rfl, AZ h1]
   rfl
  ·rw [if_neg e]; have hk : k ∈ ks := (List.mem_cons.1 h).resolve_left (fun h => e h.symm); have ih := uH f h2 hk; show aT (f a).an + gB f ks = aT (f k).an + (aT (f a).an + gB f (rmv k ks))
   omega
theorem lX {x : Ans} (h : lw x) : 0 ≤ aT x ∧ aT x ≤ 1000000000 := by
 unfold aT; split
 ·exact ⟨by decide, by decide⟩
 ·exact h.si
theorem qA {f : ByteArray → Hld} : ∀ {ks : List ByteArray}, (∀ k, k ∈ ks → lw (f k).an) → 0 ≤ gB f ks ∧ gB f ks ≤ ks.length * 1000000000
 | [], _ => ⟨Int.le_refl _, by simp [gB]⟩
 | k :: ks, h => by
  obtain ⟨h1, h2⟩ := qA (ks := ks) (fun y hy => h y (List.mem_cons_of_mem _ hy)); obtain ⟨h3, h4⟩ := lX (h k (List.mem_cons_self ..)); show 0 ≤ aT (f k).an + gB f ks ∧ aT (f k).an + gB f ks ≤ ((ks.length + 1 : Nat) : Int) * 1000000000
  omega
theorem fE (k : ByteArray) (ks : List ByteArray) : (rmv k ks).length ≤ ks.length := List.length_filter_le _ _
theorem E8 {f : ByteArray → Hld} {ro nd : Int} : ∀ {g : Nat} {ks : List ByteArray}, gB f ks + nd ≤ ro → evK f ro nd g ks = ks
 | 0, _, _ => rfl
 | g + 1, ks, h => by unfold evK; rw [if_neg (by omega)]
theorem E5 {f : ByteArray → Hld} {ro nd : Int} {g : Nat} {ks : List ByteArray} (h : ro < gB f ks + nd) : evK f ro nd (g + 1) ks = evK f ro nd g (rmv (Ip f ks) ks) := by
 rw [evK, if_pos h]
theorem iJ {f : ByteArray → Hld} {ro nd : Int} : ∀ {g : Nat}, evK f ro nd g [] = []
 | 0 => rfl
 | g + 1 => by
  unfold evK; split
  ·show evK f ro nd g [] = []; exact iJ
  ·rfl
theorem rE {f : ByteArray → Hld} {ro nd : Int} : ∀ {g h : Nat} {ks : List ByteArray}, ks.length ≤ g → ks.length ≤ h → evK f ro nd g ks = evK f ro nd h ks
 | 0, h, ks, hg, _ => by
  have : ks = [] := List.length_eq_zero_iff.1 (by omega); rw [this, iJ, iJ]
 | g + 1, 0, ks, _, hh => by
  have : ks = [] := List.length_eq_zero_iff.1 (by omega); rw [this, iJ, iJ]
 | g + 1, h + 1, ks, hg, hh => by
  by_cases hne : ks = []
  ·rw [hne, iJ, iJ]
  ·unfold evK; have hl := pR (uQ f hne).1; rw [rE (g := g) (h := h) (by omega) (by omega)]
theorem rD {f : ByteArray → Hld} {ro nd : Int} : ∀ {g : Nat} {ks : List ByteArray} {k : ByteArray}, k ∈ evK f ro nd g ks → k ∈ ks
 | 0, _, _, h => h
 | g + 1, ks, k, h => by
  unfold evK at h; split at h
  ·exact (aU.1 (rD h)).1
  ·exact h
theorem keep_any (w0 w : World) (B : Nat) (A : Adr) (D : Day) (C : List Cch) (R : List Crl) (E : List Rel) (P : List Pur) (n i : Nat) (s : Sto) (key : ByteArray) (x : Ans) (h : PD w B A D) (hF : Fit n D) (hn : n ≤ 700000) (hs : D.st[i]? = some s) (hx : lw x) (hE : zZ w0 B A C R E P) (hw : Below w0.heap.size w0 w) (hk : key.size ≤ 300) :
 Calls Tryz.prog 109 #[.pointer (some ⟨A.q, 0, none⟩), .pointer (some ⟨A.sb i, 0, none⟩), .string key, zW x] w fun e w' => e = .returned (.tuple #[]) ∧ PD w' B A (D.keepD R P i s key x) ∧ Below B w w' := by
 obtain ⟨w1, hw1⟩ : ∃ w1, w1 = w.alloc (.cells #[.int .i64 x.ve, .int .i64 x.bo, .int .i64 x.si, .bool x.no, .string x.fr] 95) := ⟨_, rfl⟩
 have hb1 : Below B w w1 := by rw [hw1]; exact (LD _ w).alloc h.base _
 have hp1 := h.jf (.cells #[.int .i64 x.ve, .int .i64 x.bo, .int .i64 x.si, .bool x.no, .string x.fr] 95 (0, 0)); rw [← hw1] at hp1; obtain ⟨A1, hA1⟩ : ∃ A1, A1 = { A with x := A.x ++ [(w.heap.size, Obj.cells #[.int .i64 x.ve, .int .i64 x.bo, .int .i64 x.si, .bool x.no, .string x.fr] 95 (0, 0))] } := ⟨_, rfl⟩
 rw [← hA1] at hp1; have d1 : w1.cell? ⟨A.q, 1, none⟩ = some A.d1 := by have h := af hp1.qb.2 1 (v := A1.d1) rfl; rw [hA1] at h; exact h
 have hw01 : Below w0.heap.size w0 w1 := hw.trans (hb1.mono hE.le); have hRU := pO w1 R A.d1 key (hE.r.below hw01 (Ls _)); obtain ⟨r, hr⟩ : ∃ r, r = lV R (ruI R key R.length) := ⟨_, rfl⟩
 obtain ⟨ok, hok⟩ : ∃ r, r = (ruI R key R.length).isSome := ⟨_, rfl⟩
 have hrb := uM hE.rb (ruI R key R.length); rw [← hr] at hrb; rw [← hr, ← hok] at hRU; obtain ⟨has, hhas⟩ : ∃ b, b = onL key s.ks := ⟨_, rfl⟩
 obtain ⟨last, hlast⟩ : ∃ b, b = fQ P key D.no := ⟨_, rfl⟩
 obtain ⟨u2, hu2⟩ : ∃ b, b = eG r x true := ⟨_, rfl⟩
 have HNK : Hid (iF D R P s key x = ((has && decide (x.bo < (s.hm key).an.bo)) || (decide (x.bo < last) || decide (u2 ≤ D.no)))) := Lr (by rw [hu2, hr, hhas, hlast]; rfl); have HU : Hid (∀ W : World, Calls Tryz.prog 112 #[.agg #[.string r.pr, .int .i64 r.li, .int .i64 r.st, .int .i64 r.go], .agg #[.int .i64 x.ve, .int .i64 x.bo, .int .i64 x.si, .bool x.no, .string x.fr], .bool true] W fun e w' => e = .returned (.int .i64 u2) ∧ Below W.heap.size W w') := Lr fun W => by
  rw [hu2]; exact sG W r x true ⟨hx.bo.1, Int.le_trans hx.bo.2 (by decide)⟩ hrb.1 hrb.2.1 hrb.2.2
 have HRU := Lr hRU; have HW1 := Lr hw1; have HP1 := Lr hp1; have HB1 := Lr hb1; have HF := Lr hF; have HE := Lr hE; have HW0 := Lr hw; have HS := Lr hs; have HX := Lr hx; have HA1 := Lr hA1; have HN := Lr (And.intro hn hk); have HHAS := Lr hhas; have HLA := Lr hlast; clear h hp1 hw1 hb1 hF hE hw hw01 hx hA1 hs hn hk hhas hr hok hRU hlast hu2 hrb
 go_enter Tryz.func109, Tryz.ntmps109
 go_upto_region 1 with (fail)
 rw [← HW1.out]
 go_wp2_with fail
 refine HRU.out.mono ?_; rintro e w3 ⟨rfl, hb3⟩; obtain ⟨w4, hw4⟩ : ∃ w4, w4 = w3.alloc (.cells #[.string r.pr, .int .i64 r.li, .int .i64 r.st, .int .i64 r.go] 126) := ⟨_, rfl⟩
 have hp4 := (HP1.out.below hb3).jf (.cells #[.string r.pr, .int .i64 r.li, .int .i64 r.st, .int .i64 r.go] 126 (0, 0)); rw [← hw4] at hp4; have hb4 : Below B w w4 := by rw [hw4]; exact (HB1.out.trans (hb3.mono HP1.out.base)).alloc (HP1.out.below hb3).base _
 obtain ⟨A2, hA2⟩ : ∃ A2, A2 = { A1 with x := A1.x ++ [(w3.heap.size, Obj.cells #[.string r.pr, .int .i64 r.li, .int .i64 r.st, .int .i64 r.go] 126 (0, 0))] } := ⟨_, rfl⟩
 rw [← hA2] at hp4; have es2 : A2.sb = A.sb := by rw [hA2, HA1.out]
 have em2 : A2.mb = A.mb := by rw [hA2, HA1.out]
 have hm4 := (hp4.map HS.out).2; rw [em2] at hm4; obtain ⟨c, hlk, hcf⟩ := hm4.look key (Nat.le_trans HN.out.2 (by unfold maxLen; omega)); have hlk' : (Instr.lookup 81 (.map (some (A.mb i))) (.string key) true).run Tryz.prog w4 = .ok (.tuple #[.agg #[.int .i64 c.an.ve, .int .i64 c.an.bo, .int .i64 c.an.si, .bool c.an.no, .string c.an.fr, .int .i64 c.us], .bool has]) w4 := by rw [HHAS.out]; exact hlk
 have HCF : Hid (has = true → c = s.hm key) := Lr (fun h => hcf (bF.1 (show onL key s.ks = true by rw [← HHAS.out]; exact h))); have c5 : w4.cell? ⟨A.sb i, 2 + 3, none⟩ = some (.map (some (A.mb i))) := by rw [← es2, ← em2]; exact af (hp4.sb HS.out).2 5 rfl
 have c5 : w4.cell? ⟨A.sb i, 5, none⟩ = some (.map (some (A.mb i))) := c5; obtain ⟨w5, hw5⟩ : ∃ w5, w5 = w4.alloc (.cells #[.int .i64 c.an.ve, .int .i64 c.an.bo, .int .i64 c.an.si, .bool c.an.no, .string c.an.fr, .int .i64 c.us] 97) := ⟨_, rfl⟩
 have hp5 := hp4.jf (.cells #[.int .i64 c.an.ve, .int .i64 c.an.bo, .int .i64 c.an.si, .bool c.an.no, .string c.an.fr, .int .i64 c.us] 97 (0, 0)); rw [← hw5] at hp5; have hb5 : Below B w w5 := by rw [hw5]; exact hb4.alloc hp4.base _
 obtain ⟨A3, hA3⟩ : ∃ A3, A3 = { A2 with x := A2.x ++ [(w4.heap.size, Obj.cells #[.int .i64 c.an.ve, .int .i64 c.an.bo, .int .i64 c.an.si, .bool c.an.no, .string c.an.fr, .int .i64 c.us] 97 (0, 0))] } := ⟨_, rfl⟩
 rw [← hA3] at hp5; have HW4 := Lr hw4; have HW5 := Lr hw5; have HP5 := Lr hp5; have HB5 := Lr hb5; have hx7 : A3.x[A.x.length]? = some (w.heap.size, Obj.cells #[.int .i64 x.ve, .int .i64 x.bo, .int .i64 x.si, .bool x.no, .string x.fr] 95 (0, 0)) := by rw [hA3, hA2, HA1.out]; simp
 have hx10 : A3.x[A.x.length + 1]? = some (w3.heap.size, Obj.cells #[.string r.pr, .int .i64 r.li, .int .i64 r.st, .int .i64 r.go] 126 (0, 0)) := by rw [hA3, hA2, HA1.out]; simp
 have hx12 : A3.x[A.x.length + 2]? = some (w4.heap.size, Obj.cells #[.int .i64 c.an.ve, .int .i64 c.an.bo, .int .i64 c.an.si, .bool c.an.no, .string c.an.fr, .int .i64 c.us] 97 (0, 0)) := by rw [hA3, hA2, HA1.out]; simp
 have EQ3 : Hid (A3.q = A.q ∧ A3.sb = A.sb ∧ A3.mb = A.mb ∧ A3.d3 = A.d3) := Lr (by rw [hA3, hA2, HA1.out]; exact ⟨rfl, rfl, rfl, rfl⟩); have HEN : Hid (∀ (W : World) (D2 : Day), PD W B A3 D2 → PD W B A D2) := Lr (fun W D2 h1 => by
  have h2 := h1.lM (x := A.x) (by rw [hA3, hA2, HA1.out]; simp only [List.append_assoc]; exact ⟨_, rfl⟩); rw [hA3, hA2, HA1.out] at h2; exact h2)
 have HW0B : Hid (∀ W, Below B w W → Below w0.heap.size w0 W) := Lr (fun W hb => HW0.out.trans (hb.mono HE.out.le)); have HX7 := Lr hx7; have HPU : Hid (∀ W : World, Below w5.heap.size w5 W → Calls Tryz.prog 152 #[.pointer (some ⟨A.q, 0, none⟩), .string key] W fun e w' => e = .returned (.int .i64 last) ∧ Below W.heap.size W w') := Lr fun W hb => by
  have hpw := hp5.below hb; have hqw := hpw.qb.2; rw [EQ3.out.1] at hqw; rw [HLA.out]; exact pU W A.q P A3.d3 key D.no (by rw [EQ3.out.2.2.2]; exact HE.out.p.below (HW0B.out _ (hb5.trans (hb.mono hp5.base))) (Ls _)) (af hqw 3 rfl) (af hqw 8 rfl)
 obtain ⟨cb, hcb⟩ : ∃ cb, cb = c.an.bo := ⟨_, rfl⟩
 have HCB : Hid (has = true → cb = (s.hm key).an.bo) := Lr (fun h => by rw [hcb, HCF.out h]); have k7 := hp5.fr hx7; have k10 := hp5.fr hx10; have k12 := hp5.fr hx12; have hq8 : w5.cell? ⟨A.q, 8, none⟩ = some (.int .i64 D.no) := by rw [← EQ3.out.1]; exact af hp5.qb.2 8 rfl
 have HSS : Hid (∀ W : World, Below w5.heap.size w5 W → W.cell? ⟨A.q, 8, none⟩ = some (.int .i64 D.no) ∧ W.cell? ⟨w3.heap.size, 0, none⟩ = some (.string r.pr) ∧ W.cell? ⟨w3.heap.size, 1, none⟩ = some (.int .i64 r.li) ∧ W.cell? ⟨w3.heap.size, 2, none⟩ = some (.int .i64 r.st) ∧ W.cell? ⟨w3.heap.size, 3, none⟩ = some (.int .i64 r.go) ∧ W.cell? ⟨w4.heap.size, 1, none⟩ = some (.int .i64 cb) ∧ W.cell? ⟨w.heap.size, 0, none⟩ = some (.int .i64 x.ve) ∧ W.cell? ⟨w.heap.size, 1, none⟩ = some (.int .i64 x.bo) ∧ W.cell? ⟨w.heap.size, 2, none⟩ = some (.int .i64 x.si) ∧ W.cell? ⟨w.heap.size, 3, none⟩ = some (.bool x.no) ∧ W.cell? ⟨w.heap.size, 4, none⟩ = some (.string x.fr)) := Lr fun W hb => by
  have g7 := (hb.block _ (Array.getElem?_eq_some_iff.1 k7).1).trans k7; have g10 := (hb.block _ (Array.getElem?_eq_some_iff.1 k10).1).trans k10; have g12 := (hb.block _ (Array.getElem?_eq_some_iff.1 k12).1).trans k12; refine ⟨(hb.cell (p := ⟨A.q, 8, none⟩) (LC w5 _ hq8)).trans hq8, af g10 0 rfl, af g10 1 rfl, af g10 2 rfl, af g10 3 rfl, ?_, af g7 0 rfl, af g7 1 rfl, af g7 2 rfl, af g7 3 rfl, af g7 4 rfl⟩; rw [hcb]; exact af g12 1 rfl
 have HBD : Hid (Below w5.heap.size w5 w5.drew) := Lr (LD _ w5).drew; clear hb3 hw4 hp4 hb4 hm4 hlk hcf hw5 hp5 hb5 hA2 hA3 hx7 hx10 hx12 es2 em2 HA1 HP1 HB1 HW1 HRU d1 hcb k7 k10 k12 hq8 HCF
 go_upto_region 2 with (fail)
 rw [← HW4.out]
 go_upto_region 3 with (fail)
 rw [← HW5.out]; clear c5 hlk'
 go_cut [61] (fun sv W => sv = .bool (iF D R P s key x) ∧ Aside (Below w5.heap.size w5 W))
 case first =>
  cases has
  case false =>
   by_cases hl : x.bo < last
   ·have HV : Hid (iF D R P s key x = true) := Lr (by rw [HNK.out]; simp [hl]); refine wp_region_held_drew (S := fun W => W.cell? ⟨A.q, 8, none⟩ = some (.int .i64 D.no) ∧ W.cell? ⟨w3.heap.size, 0, none⟩ = some (.string r.pr) ∧ W.cell? ⟨w3.heap.size, 1, none⟩ = some (.int .i64 r.li) ∧ W.cell? ⟨w3.heap.size, 2, none⟩ = some (.int .i64 r.st) ∧ W.cell? ⟨w3.heap.size, 3, none⟩ = some (.int .i64 r.go) ∧ W.cell? ⟨w4.heap.size, 1, none⟩ = some (.int .i64 cb) ∧ W.cell? ⟨w.heap.size, 0, none⟩ = some (.int .i64 x.ve) ∧ W.cell? ⟨w.heap.size, 1, none⟩ = some (.int .i64 x.bo) ∧ W.cell? ⟨w.heap.size, 2, none⟩ = some (.int .i64 x.si) ∧ W.cell? ⟨w.heap.size, 3, none⟩ = some (.bool x.no) ∧ W.cell? ⟨w.heap.size, 4, none⟩ = some (.string x.fr)) (by kernel_rfl) (by exact HSS.out _ HBD.out) (fun hHeld => ?_); have HB9 := HBD; refine tkS 0 35 hHeld ?_
    try simp only [pu]
    refine tkS 1 36 hHeld ?_
    try simp only [pu]
    refine tkO 2 37 hHeld (h := ?_)
    try simp only [pu]
    refine tkO 3 38 hHeld (h := ?_)
    try simp only [pu]
    refine tkO 4 39 hHeld (h := ?_)
    try simp only [pu]
    refine tkO 5 40 hHeld (h := ?_)
    try simp only [pu]
    refine tkO 6 41 hHeld (h := ?_)
    try simp only [pu]
    refine tkO 7 42 hHeld (h := ?_)
    try simp only [pu]
    refine tkS 8 43 hHeld ?_
    try simp only [pu]
    refine tkS 9 44 hHeld ?_
    try simp only [pu]
    refine tkS 10 45 hHeld ?_
    try simp only [pu]
    refine tkS 11 46 hHeld ?_
    try simp only [pu]
    refine tkS 12 47 hHeld ?_
    try simp only [pu]
    refine tkS 13 48 hHeld ?_
    try simp only [pu]
    refine iK (f := 152) (args := #[.pointer (some ⟨A.q, 0, none⟩), .string key]) 14 49 rfl rfl (by kernel_rfl) (by rfl) (by go_simp) ?_; clear hHeld; refine (HPU.out _ HB9.out).mono ?_; rintro e w9 ⟨rfl, hb9⟩; replace HB9 := Lr (HB9.out.bf hb9)
    clear hb9; have hHeld : w9.cell? ⟨A.q, 8, none⟩ = some (.int .i64 D.no) ∧ w9.cell? ⟨w3.heap.size, 0, none⟩ = some (.string r.pr) ∧ w9.cell? ⟨w3.heap.size, 1, none⟩ = some (.int .i64 r.li) ∧ w9.cell? ⟨w3.heap.size, 2, none⟩ = some (.int .i64 r.st) ∧ w9.cell? ⟨w3.heap.size, 3, none⟩ = some (.int .i64 r.go) ∧ w9.cell? ⟨w4.heap.size, 1, none⟩ = some (.int .i64 cb) ∧ w9.cell? ⟨w.heap.size, 0, none⟩ = some (.int .i64 x.ve) ∧ w9.cell? ⟨w.heap.size, 1, none⟩ = some (.int .i64 x.bo) ∧ w9.cell? ⟨w.heap.size, 2, none⟩ = some (.int .i64 x.si) ∧ w9.cell? ⟨w.heap.size, 3, none⟩ = some (.bool x.no) ∧ w9.cell? ⟨w.heap.size, 4, none⟩ = some (.string x.fr) := HSS.out _ HB9.out; refine ⟨_, rfl, hHeld, ?_⟩
    try simp only [pu]
    refine tkS 15 50 hHeld ?_
    try simp only [pu]
    refine tkS 16 51 hHeld ?_
    try simp only [pu]
    refine tkS 17 52 hHeld ?_
    try simp only [pu]
    refine tkO 18 53 hHeld (h := ?_)
    try simp only [pu]
    refine tkO 19 54 hHeld (h := ?_)
    try simp only [pu]
    refine tkO 20 55 hHeld (h := ?_)
    try simp only [pu]
    refine tkO 21 56 hHeld (h := ?_)
    try simp only [pu]
    refine tkO 22 57 hHeld (h := ?_)
    try simp only [pu]
    refine tkO 23 58 hHeld (h := ?_)
    try simp only [pu]
    refine tkO 24 59 hHeld (h := ?_)
    try simp only [pu]
    refine tkO 25 60 hHeld (h := ?_)
    try simp only [pu]
    refine tkS 26 61 hHeld ?_
    try simp only [pu]
    refine wpAnyH_done (by kernel_rfl) ?_ _; clear hHeld
    go_wp2
    go_meet
    exact ⟨by rw [HV.out], (show Aside _ from HB9.out)⟩
   ·have HV : Hid (iF D R P s key x = decide (u2 ≤ D.no)) := Lr (by rw [HNK.out]; simp [hl]); refine wp_region_held_drew (S := fun W => W.cell? ⟨A.q, 8, none⟩ = some (.int .i64 D.no) ∧ W.cell? ⟨w3.heap.size, 0, none⟩ = some (.string r.pr) ∧ W.cell? ⟨w3.heap.size, 1, none⟩ = some (.int .i64 r.li) ∧ W.cell? ⟨w3.heap.size, 2, none⟩ = some (.int .i64 r.st) ∧ W.cell? ⟨w3.heap.size, 3, none⟩ = some (.int .i64 r.go) ∧ W.cell? ⟨w4.heap.size, 1, none⟩ = some (.int .i64 cb) ∧ W.cell? ⟨w.heap.size, 0, none⟩ = some (.int .i64 x.ve) ∧ W.cell? ⟨w.heap.size, 1, none⟩ = some (.int .i64 x.bo) ∧ W.cell? ⟨w.heap.size, 2, none⟩ = some (.int .i64 x.si) ∧ W.cell? ⟨w.heap.size, 3, none⟩ = some (.bool x.no) ∧ W.cell? ⟨w.heap.size, 4, none⟩ = some (.string x.fr)) (by kernel_rfl) (by exact HSS.out _ HBD.out) (fun hHeld => ?_); have HB9 := HBD; refine tkS 0 35 hHeld ?_
    try simp only [pu]
    refine tkS 1 36 hHeld ?_
    try simp only [pu]
    refine tkO 2 37 hHeld (h := ?_)
    try simp only [pu]
    refine tkO 3 38 hHeld (h := ?_)
    try simp only [pu]
    refine tkO 4 39 hHeld (h := ?_)
    try simp only [pu]
    refine tkO 5 40 hHeld (h := ?_)
    try simp only [pu]
    refine tkO 6 41 hHeld (h := ?_)
    try simp only [pu]
    refine tkO 7 42 hHeld (h := ?_)
    try simp only [pu]
    refine tkS 8 43 hHeld ?_
    try simp only [pu]
    refine tkS 9 44 hHeld ?_
    try simp only [pu]
    refine tkS 10 45 hHeld ?_
    try simp only [pu]
    refine tkS 11 46 hHeld ?_
    try simp only [pu]
    refine tkS 12 47 hHeld ?_
    try simp only [pu]
    refine tkS 13 48 hHeld ?_
    try simp only [pu]
    refine iK (f := 152) (args := #[.pointer (some ⟨A.q, 0, none⟩), .string key]) 14 49 rfl rfl (by kernel_rfl) (by rfl) (by go_simp) ?_; clear hHeld; refine (HPU.out _ HB9.out).mono ?_; rintro e w9 ⟨rfl, hb9⟩; replace HB9 := Lr (HB9.out.bf hb9)
    clear hb9; have hHeld : w9.cell? ⟨A.q, 8, none⟩ = some (.int .i64 D.no) ∧ w9.cell? ⟨w3.heap.size, 0, none⟩ = some (.string r.pr) ∧ w9.cell? ⟨w3.heap.size, 1, none⟩ = some (.int .i64 r.li) ∧ w9.cell? ⟨w3.heap.size, 2, none⟩ = some (.int .i64 r.st) ∧ w9.cell? ⟨w3.heap.size, 3, none⟩ = some (.int .i64 r.go) ∧ w9.cell? ⟨w4.heap.size, 1, none⟩ = some (.int .i64 cb) ∧ w9.cell? ⟨w.heap.size, 0, none⟩ = some (.int .i64 x.ve) ∧ w9.cell? ⟨w.heap.size, 1, none⟩ = some (.int .i64 x.bo) ∧ w9.cell? ⟨w.heap.size, 2, none⟩ = some (.int .i64 x.si) ∧ w9.cell? ⟨w.heap.size, 3, none⟩ = some (.bool x.no) ∧ w9.cell? ⟨w.heap.size, 4, none⟩ = some (.string x.fr) := HSS.out _ HB9.out; refine ⟨_, rfl, hHeld, ?_⟩
    try simp only [pu]
    refine tkS 15 50 hHeld ?_
    try simp only [pu]
    refine tkS 16 51 hHeld ?_
    try simp only [pu]
    refine tkS 17 52 hHeld ?_
    try simp only [pu]
    refine tkS 18 53 hHeld ?_
    try simp only [pu]
    refine tkS 19 54 hHeld ?_
    try simp only [pu]
    refine tkS 20 55 hHeld ?_
    try simp only [pu]
    refine tkS 21 56 hHeld ?_
    try simp only [pu]
    refine tkS 22 57 hHeld ?_
    try simp only [pu]
    refine tkS 23 58 hHeld ?_
    try simp only [pu]
    refine iK (f := 112) (args := #[.agg #[.string r.pr, .int .i64 r.li, .int .i64 r.st, .int .i64 r.go], .agg #[.int .i64 x.ve, .int .i64 x.bo, .int .i64 x.si, .bool x.no, .string x.fr], .bool true]) 24 59 rfl rfl (by kernel_rfl) (by rfl) (by go_simp) ?_; clear hHeld; refine (HU.out _).mono ?_; rintro e w9 ⟨rfl, hb9⟩; replace HB9 := Lr (HB9.out.bf hb9)
    clear hb9; have hHeld : w9.cell? ⟨A.q, 8, none⟩ = some (.int .i64 D.no) ∧ w9.cell? ⟨w3.heap.size, 0, none⟩ = some (.string r.pr) ∧ w9.cell? ⟨w3.heap.size, 1, none⟩ = some (.int .i64 r.li) ∧ w9.cell? ⟨w3.heap.size, 2, none⟩ = some (.int .i64 r.st) ∧ w9.cell? ⟨w3.heap.size, 3, none⟩ = some (.int .i64 r.go) ∧ w9.cell? ⟨w4.heap.size, 1, none⟩ = some (.int .i64 cb) ∧ w9.cell? ⟨w.heap.size, 0, none⟩ = some (.int .i64 x.ve) ∧ w9.cell? ⟨w.heap.size, 1, none⟩ = some (.int .i64 x.bo) ∧ w9.cell? ⟨w.heap.size, 2, none⟩ = some (.int .i64 x.si) ∧ w9.cell? ⟨w.heap.size, 3, none⟩ = some (.bool x.no) ∧ w9.cell? ⟨w.heap.size, 4, none⟩ = some (.string x.fr) := HSS.out _ HB9.out; refine ⟨_, rfl, hHeld, ?_⟩
    try simp only [pu]
    refine tkS 25 60 hHeld ?_
    try simp only [pu]
    refine tkS 26 61 hHeld ?_
    try simp only [pu]
    refine wpAnyH_done (by kernel_rfl) ?_ _; clear hHeld
    go_wp2
    go_meet
    exact ⟨by rw [HV.out], (show Aside _ from HB9.out)⟩
  case true =>
   have hcb := HCB.out (by trivial); rw [← hcb] at HNK; clear hcb; by_cases hc : x.bo < cb
   ·have HV : Hid (iF D R P s key x = true) := Lr (by rw [HNK.out]; simp [hc]); obtain ⟨y0, y1, y2, y3, y4, y5, y6, y7, y8, y9, y10⟩ := HSS.out _ (LD _ w5); have hund : undef = Value.tuple #[] := rfl
    go_quiet (fail)
    clear hund
    go_wp2
    go_meet
    exact ⟨by rw [HV.out], (show Aside _ from below_drewN (LD _ _) _)⟩
   ·by_cases hl : x.bo < last
    ·have HV : Hid (iF D R P s key x = true) := Lr (by rw [HNK.out]; simp [hl]); refine wp_region_held_drew (S := fun W => W.cell? ⟨A.q, 8, none⟩ = some (.int .i64 D.no) ∧ W.cell? ⟨w3.heap.size, 0, none⟩ = some (.string r.pr) ∧ W.cell? ⟨w3.heap.size, 1, none⟩ = some (.int .i64 r.li) ∧ W.cell? ⟨w3.heap.size, 2, none⟩ = some (.int .i64 r.st) ∧ W.cell? ⟨w3.heap.size, 3, none⟩ = some (.int .i64 r.go) ∧ W.cell? ⟨w4.heap.size, 1, none⟩ = some (.int .i64 cb) ∧ W.cell? ⟨w.heap.size, 0, none⟩ = some (.int .i64 x.ve) ∧ W.cell? ⟨w.heap.size, 1, none⟩ = some (.int .i64 x.bo) ∧ W.cell? ⟨w.heap.size, 2, none⟩ = some (.int .i64 x.si) ∧ W.cell? ⟨w.heap.size, 3, none⟩ = some (.bool x.no) ∧ W.cell? ⟨w.heap.size, 4, none⟩ = some (.string x.fr)) (by kernel_rfl) (by exact HSS.out _ HBD.out) (fun hHeld => ?_); have HB9 := HBD; refine tkS 0 35 hHeld ?_
     try simp only [pu]
     refine tkS 1 36 hHeld ?_
     try simp only [pu]
     refine tkS 2 37 hHeld ?_
     try simp only [pu]
     refine tkS 3 38 hHeld ?_
     try simp only [pu]
     refine tkS 4 39 hHeld ?_
     try simp only [pu]
     refine tkS 5 40 hHeld ?_
     try simp only [pu]
     refine tkS 6 41 hHeld ?_
     try simp only [pu]
     refine tkS 7 42 hHeld ?_
     try simp only [pu]
     refine tkS 8 43 hHeld ?_
     try simp only [pu]
     refine tkS 9 44 hHeld ?_
     try simp only [pu]
     refine tkS 10 45 hHeld ?_
     try simp only [pu]
     refine tkS 11 46 hHeld ?_
     try simp only [pu]
     refine tkS 12 47 hHeld ?_
     try simp only [pu]
     refine tkS 13 48 hHeld ?_
     try simp only [pu]
     refine iK (f := 152) (args := #[.pointer (some ⟨A.q, 0, none⟩), .string key]) 14 49 rfl rfl (by kernel_rfl) (by rfl) (by go_simp) ?_; clear hHeld; refine (HPU.out _ HB9.out).mono ?_; rintro e w9 ⟨rfl, hb9⟩; replace HB9 := Lr (HB9.out.bf hb9)
     clear hb9; have hHeld : w9.cell? ⟨A.q, 8, none⟩ = some (.int .i64 D.no) ∧ w9.cell? ⟨w3.heap.size, 0, none⟩ = some (.string r.pr) ∧ w9.cell? ⟨w3.heap.size, 1, none⟩ = some (.int .i64 r.li) ∧ w9.cell? ⟨w3.heap.size, 2, none⟩ = some (.int .i64 r.st) ∧ w9.cell? ⟨w3.heap.size, 3, none⟩ = some (.int .i64 r.go) ∧ w9.cell? ⟨w4.heap.size, 1, none⟩ = some (.int .i64 cb) ∧ w9.cell? ⟨w.heap.size, 0, none⟩ = some (.int .i64 x.ve) ∧ w9.cell? ⟨w.heap.size, 1, none⟩ = some (.int .i64 x.bo) ∧ w9.cell? ⟨w.heap.size, 2, none⟩ = some (.int .i64 x.si) ∧ w9.cell? ⟨w.heap.size, 3, none⟩ = some (.bool x.no) ∧ w9.cell? ⟨w.heap.size, 4, none⟩ = some (.string x.fr) := HSS.out _ HB9.out; refine ⟨_, rfl, hHeld, ?_⟩
     try simp only [pu]
     refine tkS 15 50 hHeld ?_
     try simp only [pu]
     refine tkS 16 51 hHeld ?_
     try simp only [pu]
     refine tkS 17 52 hHeld ?_
     try simp only [pu]
     refine tkO 18 53 hHeld (h := ?_)
     try simp only [pu]
     refine tkO 19 54 hHeld (h := ?_)
     try simp only [pu]
     refine tkO 20 55 hHeld (h := ?_)
     try simp only [pu]
     refine tkO 21 56 hHeld (h := ?_)
     try simp only [pu]
     refine tkO 22 57 hHeld (h := ?_)
     try simp only [pu]
     refine tkO 23 58 hHeld (h := ?_)
     try simp only [pu]
     refine tkO 24 59 hHeld (h := ?_)
     try simp only [pu]
     refine tkO 25 60 hHeld (h := ?_)
     try simp only [pu]
     refine tkS 26 61 hHeld ?_
     try simp only [pu]
     refine wpAnyH_done (by kernel_rfl) ?_ _; clear hHeld
     go_wp2
     go_meet
     exact ⟨by rw [HV.out], (show Aside _ from HB9.out)⟩
    ·have HV : Hid (iF D R P s key x = decide (u2 ≤ D.no)) := Lr (by rw [HNK.out]; simp [hl, hc]); refine wp_region_held_drew (S := fun W => W.cell? ⟨A.q, 8, none⟩ = some (.int .i64 D.no) ∧ W.cell? ⟨w3.heap.size, 0, none⟩ = some (.string r.pr) ∧ W.cell? ⟨w3.heap.size, 1, none⟩ = some (.int .i64 r.li) ∧ W.cell? ⟨w3.heap.size, 2, none⟩ = some (.int .i64 r.st) ∧ W.cell? ⟨w3.heap.size, 3, none⟩ = some (.int .i64 r.go) ∧ W.cell? ⟨w4.heap.size, 1, none⟩ = some (.int .i64 cb) ∧ W.cell? ⟨w.heap.size, 0, none⟩ = some (.int .i64 x.ve) ∧ W.cell? ⟨w.heap.size, 1, none⟩ = some (.int .i64 x.bo) ∧ W.cell? ⟨w.heap.size, 2, none⟩ = some (.int .i64 x.si) ∧ W.cell? ⟨w.heap.size, 3, none⟩ = some (.bool x.no) ∧ W.cell? ⟨w.heap.size, 4, none⟩ = some (.string x.fr)) (by kernel_rfl) (by exact HSS.out _ HBD.out) (fun hHeld => ?_); have HB9 := HBD; refine tkS 0 35 hHeld ?_
     try simp only [pu]
     refine tkS 1 36 hHeld ?_
     try simp only [pu]
     refine tkS 2 37 hHeld ?_
     try simp only [pu]
     refine tkS 3 38 hHeld ?_
     try simp only [pu]
     refine tkS 4 39 hHeld ?_
     try simp only [pu]
     refine tkS 5 40 hHeld ?_
     try simp only [pu]
     refine tkS 6 41 hHeld ?_
     try simp only [pu]
     refine tkS 7 42 hHeld ?_
     try simp only [pu]
     refine tkS 8 43 hHeld ?_
     try simp only [pu]
     refine tkS 9 44 hHeld ?_
     try simp only [pu]
     refine tkS 10 45 hHeld ?_
     try simp only [pu]
     refine tkS 11 46 hHeld ?_
     try simp only [pu]
     refine tkS 12 47 hHeld ?_
     try simp only [pu]
     refine tkS 13 48 hHeld ?_
     try simp only [pu]
     refine iK (f := 152) (args := #[.pointer (some ⟨A.q, 0, none⟩), .string key]) 14 49 rfl rfl (by kernel_rfl) (by rfl) (by go_simp) ?_; clear hHeld; refine (HPU.out _ HB9.out).mono ?_; rintro e w9 ⟨rfl, hb9⟩; replace HB9 := Lr (HB9.out.bf hb9)
     clear hb9; have hHeld : w9.cell? ⟨A.q, 8, none⟩ = some (.int .i64 D.no) ∧ w9.cell? ⟨w3.heap.size, 0, none⟩ = some (.string r.pr) ∧ w9.cell? ⟨w3.heap.size, 1, none⟩ = some (.int .i64 r.li) ∧ w9.cell? ⟨w3.heap.size, 2, none⟩ = some (.int .i64 r.st) ∧ w9.cell? ⟨w3.heap.size, 3, none⟩ = some (.int .i64 r.go) ∧ w9.cell? ⟨w4.heap.size, 1, none⟩ = some (.int .i64 cb) ∧ w9.cell? ⟨w.heap.size, 0, none⟩ = some (.int .i64 x.ve) ∧ w9.cell? ⟨w.heap.size, 1, none⟩ = some (.int .i64 x.bo) ∧ w9.cell? ⟨w.heap.size, 2, none⟩ = some (.int .i64 x.si) ∧ w9.cell? ⟨w.heap.size, 3, none⟩ = some (.bool x.no) ∧ w9.cell? ⟨w.heap.size, 4, none⟩ = some (.string x.fr) := HSS.out _ HB9.out; refine ⟨_, rfl, hHeld, ?_⟩
     try simp only [pu]
     refine tkS 15 50 hHeld ?_
     try simp only [pu]
     refine tkS 16 51 hHeld ?_
     try simp only [pu]
     refine tkS 17 52 hHeld ?_
     try simp only [pu]
     refine tkS 18 53 hHeld ?_
     try simp only [pu]
     refine tkS 19 54 hHeld ?_
     try simp only [pu]
     refine tkS 20 55 hHeld ?_
     try simp only [pu]
     refine tkS 21 56 hHeld ?_
     try simp only [pu]
     refine tkS 22 57 hHeld ?_
     try simp only [pu]
     refine tkS 23 58 hHeld ?_
     try simp only [pu]
     refine iK (f := 112) (args := #[.agg #[.string r.pr, .int .i64 r.li, .int .i64 r.st, .int .i64 r.go], .agg #[.int .i64 x.ve, .int .i64 x.bo, .int .i64 x.si, .bool x.no, .string x.fr], .bool true]) 24 59 rfl rfl (by kernel_rfl) (by rfl) (by go_simp) ?_; clear hHeld; refine (HU.out _).mono ?_; rintro e w9 ⟨rfl, hb9⟩; replace HB9 := Lr (HB9.out.bf hb9)
     clear hb9; have hHeld : w9.cell? ⟨A.q, 8, none⟩ = some (.int .i64 D.no) ∧ w9.cell? ⟨w3.heap.size, 0, none⟩ = some (.string r.pr) ∧ w9.cell? ⟨w3.heap.size, 1, none⟩ = some (.int .i64 r.li) ∧ w9.cell? ⟨w3.heap.size, 2, none⟩ = some (.int .i64 r.st) ∧ w9.cell? ⟨w3.heap.size, 3, none⟩ = some (.int .i64 r.go) ∧ w9.cell? ⟨w4.heap.size, 1, none⟩ = some (.int .i64 cb) ∧ w9.cell? ⟨w.heap.size, 0, none⟩ = some (.int .i64 x.ve) ∧ w9.cell? ⟨w.heap.size, 1, none⟩ = some (.int .i64 x.bo) ∧ w9.cell? ⟨w.heap.size, 2, none⟩ = some (.int .i64 x.si) ∧ w9.cell? ⟨w.heap.size, 3, none⟩ = some (.bool x.no) ∧ w9.cell? ⟨w.heap.size, 4, none⟩ = some (.string x.fr) := HSS.out _ HB9.out; refine ⟨_, rfl, hHeld, ?_⟩
     try simp only [pu]
     refine tkS 25 60 hHeld ?_
     try simp only [pu]
     refine tkS 26 61 hHeld ?_
     try simp only [pu]
     refine wpAnyH_done (by kernel_rfl) ?_ _; clear hHeld
     go_wp2
     go_meet
     exact ⟨by rw [HV.out], (show Aside _ from HB9.out)⟩
 obtain ⟨rfl, BW⟩ := hcut; obtain ⟨w6, rfl⟩ : ∃ W : World, W = wc := ⟨_, rfl⟩
 have HB6 := Lr BW.out; have HP6 := Lr (HP5.out.below HB6.out); have HBW6 : Hid (Below B w w6) := Lr (HB5.out.trans (HB6.out.mono HP5.out.base)); obtain ⟨nk, hnk⟩ : ∃ b, b = iF D R P s key x := ⟨_, rfl⟩
 rw [← hnk]; have HNV := Lr hnk; clear hnk BW HSS HBD HPU HU HNK HCB; cases nk
 case true =>
  have HK : Hid (D.keepD R P i s key x = D) := Lr (by unfold Day.keepD; rw [if_pos HNV.out.symm])
  go_wp2_with fail
  ((try simp only [Exit.inBlock, Exit.then]); refine bodyPost_ret (results_none rfl _ _ _) rfl ?_)
  exact ⟨rfl, by rw [HK.out]; exact HEN.out _ _ HP6.out, HBW6.out⟩
 obtain ⟨w7, hdl, hm7, hg7⟩ := (HP6.out.map HS.out).2.del key (Nat.le_trans HN.out.2 (by unfold maxLen; omega)) 0; have hsb6 := (HP6.out.sb HS.out).2; rw [EQ3.out.2.1] at hsb6; have c5 : w6.cell? ⟨A.sb i, 5, none⟩ = some (.map (some (A.mb i))) := by rw [← EQ3.out.2.2.1]; exact af hsb6 5 rfl
 have hp7 : PD w7 B A3 (D.uB i s (rmv key s.ks)) := HP6.out.sU HS.out hm7 (Ls _) hg7; have hdl' : (Builtin.delete_ #[81, 9] 0 #[.map (some (A.mb i)), .string key]).run Tryz.prog w6 = .ok (.tuple #[]) w7 := by rw [← EQ3.out.2.2.1]; exact hdl
 have HBW7 : Hid (Below B w w7) := Lr (HBW6.out.trans (Onl.dK hg7 HP6.out.base (HP6.out.map HS.out).1)); have hil : i < D.st.length := (List.getElem?_eq_some_iff.1 HS.out).1; have HSK : Hid (∀ ks, (D.uB i s ks).st[i]? = some { s with ks := ks }) := Lr (fun ks => by show (D.st.set i _)[i]? = _; rw [List.getElem?_set_self hil]); have HP7 := Lr hp7; have hq7 := (hp7.sb (HSK.out _)).2; rw [EQ3.out.2.1] at hq7; have k7 := hp7.fr HX7.out; have HSS : Hid (∀ W : World, Below w7.heap.size w7 W → W.cell? ⟨w.heap.size, 0, none⟩ = some (.int .i64 x.ve) ∧ W.cell? ⟨w.heap.size, 1, none⟩ = some (.int .i64 x.bo) ∧ W.cell? ⟨w.heap.size, 2, none⟩ = some (.int .i64 x.si) ∧ W.cell? ⟨w.heap.size, 3, none⟩ = some (.bool x.no) ∧ W.cell? ⟨w.heap.size, 4, none⟩ = some (.string x.fr) ∧ W.cell? ⟨A.sb i, 3, none⟩ = some (.int .i64 s.ch.ro)) := Lr fun W hb => by
  have g7 := (hb.block _ (Array.getElem?_eq_some_iff.1 k7).1).trans k7; have gs := (hb.block _ (Array.getElem?_eq_some_iff.1 hq7).1).trans hq7; exact ⟨af g7 0 rfl, af g7 1 rfl, af g7 2 rfl, af g7 3 rfl, af g7 4 rfl, af gs 3 rfl⟩
 have HBD : Hid (Below w7.heap.size w7 w7.drew) := Lr (LD _ w7).drew; have HND := Lr (lW w7.drew x); clear hdl hm7 hg7 hsb6 hp7 hq7 k7 
 go_upto_region 5 with (fail)
 clear c5 hdl'
 go_cut [74] (fun sv W => sv = .bool (decide (s.ch.ro < aT x)) ∧ Aside (Below w7.heap.size w7 W))
 case first =>
  go_region_held3 (fun W => W.cell? ⟨w.heap.size, 0, none⟩ = some (.int .i64 x.ve) ∧ W.cell? ⟨w.heap.size, 1, none⟩ = some (.int .i64 x.bo) ∧ W.cell? ⟨w.heap.size, 2, none⟩ = some (.int .i64 x.si) ∧ W.cell? ⟨w.heap.size, 3, none⟩ = some (.bool x.no) ∧ W.cell? ⟨w.heap.size, 4, none⟩ = some (.string x.fr) ∧ W.cell? ⟨A.sb i, 3, none⟩ = some (.int .i64 s.ch.ro))
   (first | exact HSS.out _ HBD.out | exact HSS.out _ HB9.out | fail)
   (first | (go_at_call 153; (with_reducible refine HND.out.mono ?_); rintro e w9 ⟨rfl, hb9⟩; have HB9 := Lr (HBD.out.bf hb9); clear hb9) | fail)
  go_wp2
  go_meet
  exact ⟨rfl, (show Aside _ from HB9.out)⟩
 obtain ⟨rfl, BW⟩ := hcut; obtain ⟨w8, rfl⟩ : ∃ W : World, W = wc := ⟨_, rfl⟩
 have HB8 := Lr BW.out; have HP8 := Lr (HP7.out.below HB8.out); have HBW8 : Hid (Below B w w8) := Lr (HBW7.out.trans (HB8.out.mono HP7.out.base)); clear BW HBD HND; by_cases hro : s.ch.ro < aT x
 ·have HK : Hid (D.keepD R P i s key x = D.uB i s (rmv key s.ks)) := Lr (by unfold Day.keepD; rw [if_neg (by rw [← HNV.out]; simp), if_pos hro])
  go_wp2_with fail
  ((try simp only [Exit.inBlock, Exit.then]); refine bodyPost_ret (results_none rfl _ _ _) rfl ?_)
  exact ⟨rfl, by rw [HK.out]; exact HEN.out _ _ HP8.out, HBW8.out⟩
 have hro' : aT x ≤ s.ch.ro := by omega
 clear hro
 go_upto_region 6 with (fail)
 have HK : Hid (D.keepD R P i s key x = { D with st := D.st.set i { s with ks := key :: evK s.hm s.ch.ro (aT x) s.ks.length (rmv key s.ks), hm := fun d => if d = key then ⟨x, D.no⟩ else s.hm d }, pu := D.pu + 1 }) := Lr (by unfold Day.keepD; rw [if_neg (by rw [← HNV.out]; simp), if_neg (by omega)]); obtain ⟨k0, hk0⟩ : ∃ k, k = rmv key s.ks := ⟨_, rfl⟩
 obtain ⟨nd, hnd⟩ : ∃ k, k = aT x := ⟨_, rfl⟩
 obtain ⟨f, hf⟩ : ∃ k, k = s.hm := ⟨_, rfl⟩
 obtain ⟨ro, hro0⟩ : ∃ k, k = s.ch.ro := ⟨_, rfl⟩
 obtain ⟨b, hb⟩ : ∃ k, k = A.mb i := ⟨_, rfl⟩
 rw [← hnd, ← hro0] at hro'; rw [← hk0] at HP8; have hsb8 := (HP8.out.sb (HSK.out _)).2; rw [EQ3.out.2.1] at hsb8; have hmp8 := (HP8.out.map (HSK.out _)).2; rw [EQ3.out.2.2.1, ← hb] at hmp8; have HM8 : Hid (gy w8 b D.pu f k0) := Lr (by rw [hf]; exact hmp8); have c3 : w8.cell? ⟨A.sb i, 3, none⟩ = some (.int .i64 ro) := by rw [hro0]; exact af hsb8 3 rfl
 have c5 : w8.cell? ⟨A.sb i, 5, none⟩ = some (.map (some b)) := by rw [hb, ← EQ3.out.2.2.1]; exact af hsb8 5 rfl
 obtain ⟨wi, hrg, hrv, hgi, hsi⟩ := HM8.out.range; have HRI : Hid (oN wi b w8.heap.size D.pu f k0 k0) := Lr hrv; have HBI : Hid (Below w8.heap.size w8 wi) := Lr ((LD _ w8).grown hgi (Ls _) (fun i hi => by cases hi)); have HBL : Hid (b < w8.heap.size) := Lr HM8.out.lt; obtain ⟨R8, hR8⟩ : ∃ R, R = w8.heap.size := ⟨_, rfl⟩
 rw [← hR8] at hrg HRI; have HR8 := Lr hR8; have HND := Lr hnd; have HRO0 := Lr hro0; have HFF := Lr hf; have HK0 := Lr hk0; have HBB := Lr hb; have hN0 : k0.Nodup ∧ (∀ k, k ∈ k0 → lw (f k).an) ∧ k0.length ≤ n ∧ ¬ key ∈ k0 := by
  obtain ⟨g1, g2⟩ := HF.out.ks i s HS.out; refine ⟨by rw [hk0]; exact bJ g1, fun k hk => ?_, ?_, by rw [hk0, aU]; exact fun h => h.2 rfl⟩
  ·rw [hf]; exact HF.out.an i s HS.out k (by rw [hk0] at hk; exact (aU.1 hk).1)
  ·rw [hk0]; exact Nat.le_trans (fE _ _) (HF.out.st i s HS.out).kl
 have HN0 := Lr hN0; have hRB := (HF.out.st i s HS.out).ro; rw [← hro0] at hRB; have HRB := Lr hRB; have hNX := lX HX.out; rw [← hnd] at hNX; have HNX := Lr hNX; have HRO := Lr hro'; clear hnd hro0 hf hk0 hb hsb8 hmp8 hrv hgi hsi hR8 hN0 hRB hNX hro'
 go_upto_region 7 with (fail)
 clear c3
 go_wp2_with fail
 go_loopg [12, 14] k0.length (fun gg s12 s14 wr => ∃ left : List ByteArray, left.length ≤ gg ∧ left.length ≤ k0.length ∧ s12 = .int .i64 (ro - (gB f k0 - gB f left)) ∧ Aside (oN wr b R8 D.pu f k0 left) ∧ Aside (Below w8.heap.size w8 wr))
 case atStart => exact ⟨k0, Ls _, Ls _, by rw [Int.sub_self, Int.sub_zero], (show Aside _ from HRI.out), (show Aside _ from HBI.out)⟩
 case round =>
  obtain ⟨wq, rfl⟩ : ∃ wq : World, wq = wr := ⟨_, rfl⟩
  obtain ⟨left, hgl, hgl2, rfl, RV, BU⟩ := hrel; rcases RV.out.step 0 with ⟨hnil, hrun⟩ | ⟨v, wn, hv, hrun, hrv, hgr, hsz, hen⟩
  ·
   have HBQ := Lr BU.out; have htl : ro - (gB f k0 - gB f left) = ro - gB f k0 := by rw [hnil]; simp [gB]
   rw [htl]; have HPQ := Lr (HP8.out.below HBQ.out); have HBWQ : Hid (Below B w wq) := Lr (HBW8.out.trans (HBQ.out.mono HP8.out.base)); clear hnil htl RV BU HRI HBI hrg HBL c5 hgl hgl2
   go_wp2_with fail
   go_loopg [12, 15] k0.length (fun gg s12 s15 wr => ∃ (ks : List ByteArray) (g : Nat), g ≤ gg ∧ ks.length ≤ g ∧ g ≤ k0.length ∧ s12 = .int .i64 (ro - gB f ks) ∧ Aside (PD wr B A3 (D.uB i s ks)) ∧ Aside (Below B w wr) ∧ Aside (evK f ro nd g ks = evK f ro nd k0.length k0 ∧ ks.Nodup ∧ ∀ k, k ∈ ks → k ∈ k0))
   case atStart => exact ⟨k0, k0.length, Ls _, Ls _, Ls _, rfl, (show Aside _ from HPQ.out), (show Aside _ from HBWQ.out), (show Aside (_ ∧ _) from ⟨rfl, HN0.out.1, fun _ h => h⟩)⟩
   case round =>
    obtain ⟨wp, rfl⟩ : ∃ wp : World, wp = wr := ⟨_, rfl⟩
    obtain ⟨ks, g, hgg, hlg, hg0, rfl, PR, BR, EV⟩ := hrel; have HPR := Lr PR.out; have HBR := Lr BR.out; have HEV := Lr EV.out; have k7 := HPR.out.fr HX7.out; have x0 := af k7 0 (v := .int .i64 x.ve) rfl; have x1 := af k7 1 (v := .int .i64 x.bo) rfl; have x2 := af k7 2 (v := .int .i64 x.si) rfl; have x3 := af k7 3 (v := .bool x.no) rfl; have x4 := af k7 4 (v := .string x.fr) rfl; have HND9 : Hid (Calls Tryz.prog 153 #[.agg #[.int .i64 x.ve, .int .i64 x.bo, .int .i64 x.si, .bool x.no, .string x.fr]] wp fun e w' => e = .returned (.int .i64 nd) ∧ Below wp.heap.size wp w') := Lr (by rw [HND.out]; exact lW wp x); clear PR BR EV k7
    go_wp2_with fail
    refine HND9.out.mono ?_; rintro e w9 ⟨rfl, hb9⟩; have HP9 := Lr (HPR.out.below hb9); have HB9 := Lr (HBR.out.trans (hb9.mono HPR.out.base)); clear hb9 x0 x1 x2 x3 x4; have hsb9 := (HP9.out.sb (HSK.out _)).2; rw [EQ3.out.2.1] at hsb9; have hmp9 := (HP9.out.map (HSK.out _)).2; rw [EQ3.out.2.2.1, ← HBB.out] at hmp9; have hm9 : gy w9 b D.pu f ks := by rw [HFF.out]; exact hmp9
    have c5 : w9.cell? ⟨A.sb i, 5, none⟩ = some (.map (some b)) := by rw [HBB.out, ← EQ3.out.2.2.1]; exact af hsb9 5 rfl
    have hsl := LC w9 _ c5; by_cases hlt : ro - gB f ks < nd
    ·
     have hne : ks ≠ [] := fun e => by
      rw [e] at hlt; have := HRO.out; simp [gB] at hlt
      omega
     have HLON := Lr (oW w9 b D.pu f ks hm9 hne); have HM9 := Lr hm9; have HC5 := Lr c5; have HSL := Lr hsl; have HG := Lr hgg; clear hsb9 hmp9 hm9 hne hsl
     go_wp2_with fail
     refine HLON.out.mono ?_; rintro e w10 ⟨z, rfl, hz, hb10⟩; have hze := hz.eq; have hzm := hz.1; have hm10 := HM9.out.same (hb10.block b HM9.out.lt); have c5' : w10.cell? ⟨A.sb i, 5, none⟩ = some (.map (some b)) := (hb10.cell (p := ⟨A.sb i, 5, none⟩) HSL.out).trans HC5.out; have hfd := Hr; have hlk : (Instr.lookup 81 (.map (some b)) (.string z) false).run Tryz.prog w10 = .ok (.agg #[.int .i64 (f z).an.ve, .int .i64 (f z).an.bo, .int .i64 (f z).an.si, .bool (f z).an.no, .string (f z).an.fr, .int .i64 (f z).us]) w10 := hm10.look1 z hzm; have HNDZ := Lr (lW w10 (f z).an); obtain ⟨nz, hnz⟩ : ∃ k, k = aT (f z).an := ⟨_, rfl⟩
     rw [← hnz] at HNDZ; have hzk : z ∈ k0 := HEV.out.2.2 z hzm; have haz := lX (HN0.out.2.1 z hzk); rw [← hnz] at haz; have htk := qA (f := f) (ks := ks) (fun k hk => HN0.out.2.1 k (HEV.out.2.2 k hk)); have hkl : ks.length ≤ n := Nat.le_trans hlg (Nat.le_trans hg0 HN0.out.2.2.1); have hrt := uH f HEV.out.2.1 hzm; rw [← hnz] at hrt; have hwn : IntKind.i64.wrap (ro - gB f ks + nz) = ro - gB f (rmv z ks) := by
      have h1 := HRB.out; have h2 := HN.out.1; rw [show ro - gB f ks + nz = ro - gB f (rmv z ks) by omega]; exact IntWalk.i64_in _ (by omega)
     have hm11 : ∀ W, Below w10.heap.size w10 W → gy W b D.pu f ks := fun W hb => hm10.same (hb.block b hm10.lt)
     have hpu := Lr (fun W hb => (hm11 W hb).drop z hzm 0); have HP10 := Lr (HP9.out.below (hb10)); have HB10 := Lr (HB9.out.trans (hb10.mono HP9.out.base)); have HC5' := Lr c5'; have hevn : evK f ro nd g ks = evK f ro nd (g - 1) (rmv z ks) := by
      cases g with
      | zero => have : ks.length = 0 := by omega
                rw [List.length_eq_zero_iff] at this; rw [this] at hzm; cases hzm
      | succ g => rw [E5 (by omega), hze]; rfl
     have hg1 : (rmv z ks).length + 1 ≤ ks.length := pR hzm; have HEV2 : Hid (evK f ro nd (g - 1) (rmv z ks) = evK f ro nd k0.length k0 ∧ (rmv z ks).Nodup ∧ ∀ k, k ∈ rmv z ks → k ∈ k0) := Lr ⟨hevn.symm.trans HEV.out.1, bJ HEV.out.2.1, fun k hk => HEV.out.2.2 k (aU.1 hk).1⟩; have HL2 : Hid ((rmv z ks).length ≤ g - 1 ∧ 1 ≤ g ∧ g ≤ k0.length) := Lr ⟨by omega, by omega, hg0⟩; have HWN := Lr hwn; clear hz hze hzm hm10 hnz hzk haz htk hkl hrt hm11 hb10 hevn hg1 hlt c5 hwn hgg hlg hg0
     go_wp2_with fail
     refine HNDZ.out.mono ?_; rintro e w11 ⟨rfl, hb11⟩; obtain ⟨w12, hdl, hm12, hg12⟩ := hpu.out w11 hb11; have c5b : w11.cell? ⟨A.sb i, 5, none⟩ = some (.map (some b)) := (hb11.cell (p := ⟨A.sb i, 5, none⟩) (LC _ _ HC5'.out)).trans HC5'.out; have hp11 := HP10.out.below hb11; have hp12 : PD w12 B A3 (D.uB i s (rmv z ks)) := by
      have h := hp11.sU (HSK.out ks) (i := i) (n := D.pu) (f := f) (ks := rmv z ks) (by rw [EQ3.out.2.2.1, ← HBB.out]; exact hm12) (Ls _) (by rw [EQ3.out.2.2.1, ← HBB.out]; exact hg12); rw [HFF.out] at h; have e : D.uB i s (rmv z ks) = { D.uB i s ks with st := (D.uB i s ks).st.set i { s with ks := rmv z ks }, pu := D.pu } := by
       unfold Day.uB Day.bz; simp only [List.set_set]
      rw [e]; exact h
     have hb12 : Below B w w12 := (HB10.out.trans (hb11.mono HP10.out.base)).trans (Onl.dK hg12 hp11.base (by rw [HBB.out, ← EQ3.out.2.2.1]; exact (hp11.map (HSK.out ks)).1)); have HP12 := Lr hp12; have HB12 := Lr hb12; have hwn := HWN.out; clear hb11 hm12 hg12 hp11 hp12 hb12 hlk hfd c5'
     go_wp2_with fail
     go_roundg (g - 1)
     case measure => have := HL2.out; have := HG.out; omega
     case rel => exact ⟨rmv z ks, g - 1, Ls _, HL2.out.1, by have := HL2.out; omega, rfl, (show Aside _ from HP12.out), (show Aside _ from HB12.out), (show Aside (_ ∧ _) from HEV2.out)⟩
    ·
     have hkn : ¬ key ∈ ks := fun h => HN0.out.2.2.2 (HEV.out.2.2 key h)
     have HEE : Hid (evK f ro nd s.ks.length k0 = ks) := Lr (by
      have h1 : evK f ro nd g ks = ks := E8 (by omega); rw [h1] at HEV; rw [HEV.out.1]; rw [HK0.out]; exact rE (fE _ _) (Ls _))
     have q8 : w9.cell? ⟨A.q, 8, none⟩ = some (.int .i64 D.no) := by rw [← EQ3.out.1]; exact af HP9.out.qb.2 8 rfl
     have k7 := HP9.out.fr HX7.out; have x0 := af k7 0 (v := .int .i64 x.ve) rfl; have x1 := af k7 1 (v := .int .i64 x.bo) rfl; have x2 := af k7 2 (v := .int .i64 x.si) rfl; have x3 := af k7 3 (v := .bool x.no) rfl; have x4 := af k7 4 (v := .string x.fr) rfl; have hpu : D.pu < maxLen := by have := HF.out.pu; have := HN.out.1; unfold maxLen; omega
     obtain ⟨w10, hup, hm10, hg10⟩ := (show gy w9.drew b D.pu f ks from hm9).put hpu key (Nat.le_trans HN.out.2 (by unfold maxLen; omega)) ⟨x, D.no⟩; have hup' : (Instr.mapUpdate 81 (.map (some b)) (.string key) (.agg #[.int .i64 x.ve, .int .i64 x.bo, .int .i64 x.si, .bool x.no, .string x.fr, .int .i64 D.no])).run Tryz.prog w9.drew = .ok () w10 := hup; have hon : Onl b w9 w10 := (Onl.of_below (LD _ w9).drew).trans hg10; have hp10 : PD w10 B A3 (D.keepD R P i s key x) := by
      have h := HP9.out.sU (HSK.out ks) (i := i) (n := D.pu + 1) (f := fun d => if d = key then ⟨x, D.no⟩ else f d) (ks := DZ key ks) (by rw [EQ3.out.2.2.1, ← HBB.out]; exact hm10) (Nat.le_succ _) (by rw [EQ3.out.2.2.1, ← HBB.out]; exact hon); rw [FC hkn] at h; rw [HK.out]; have e : ({ D with st := D.st.set i { s with ks := key :: evK s.hm s.ch.ro (aT x) s.ks.length (rmv key s.ks), hm := fun d => if d = key then ⟨x, D.no⟩ else s.hm d }, pu := D.pu + 1 } : Day) = { D.uB i s ks with st := (D.uB i s ks).st.set i { s with ks := key :: ks, hm := fun d => if d = key then ⟨x, D.no⟩ else f d }, pu := D.pu + 1 } := by
       rw [← HFF.out, ← HRO0.out, ← HND.out, ← HK0.out, HEE.out]; unfold Day.uB Day.bz; simp only [List.set_set]
      rw [e]; exact h
     have HP10 := Lr hp10; have HB10 : Hid (Below B w w10) := Lr (HB9.out.trans (Onl.dK hon HP9.out.base (by rw [HBB.out, ← EQ3.out.2.2.1]; exact (HP9.out.map (HSK.out ks)).1))); clear hsb9 hmp9 hm9 hsl hkn k7 hpu hup hm10 hg10 hon hp10 hgg hlg hg0
     go_upto_region 15 with (fail)
     go_still_tail 11, (by kernel_rfl)
     change wpList _ _ _ _ _ w9.drew
     go_wp2_with fail
     go_end0
     exact ⟨rfl, HEN.out _ _ HP10.out, HB10.out⟩
  have hrle := pR hv; have hvk := RV.out.2.1 v hv; have HBV : Hid (Below w8.heap.size w8 wn) := Lr (BU.out.grown hgr (by have := BU.out.size; have := HR8.out; omega) (fun j hj => by cases hj; have := HR8.out; omega)); obtain ⟨w2, hw2⟩ : ∃ w2, w2 = wn.alloc (.cells #[.int .i64 (f v).an.ve, .int .i64 (f v).an.bo, .int .i64 (f v).an.si, .bool (f v).an.no, .string (f v).an.fr, .int .i64 (f v).us] 97) := ⟨_, rfl⟩
  have HB2 : Hid (Below w8.heap.size w8 w2) := Lr (by rw [hw2]; exact HBV.out.alloc HBV.out.size _); have hr2 : oN w2 b R8 D.pu f k0 (rmv v left) := by rw [hw2]; exact hrv.kept (World.grownBy_alloc wn _ none) (by simp) (by simp)
  have hbk : w2.heap[wn.heap.size]? = some (.cells #[.int .i64 (f v).an.ve, .int .i64 (f v).an.bo, .int .i64 (f v).an.si, .bool (f v).an.no, .string (f v).an.fr, .int .i64 (f v).us] 97 (0, 0)) := by rw [hw2]; exact ag wn _
  have d0 : w2.cell? ⟨wn.heap.size, 0, none⟩ = some (.int .i64 (f v).an.ve) := (cell_of_block (i := 0) hbk).trans rfl; have d1 : w2.cell? ⟨wn.heap.size, 1, none⟩ = some (.int .i64 (f v).an.bo) := (cell_of_block (i := 1) hbk).trans rfl; have d2 : w2.cell? ⟨wn.heap.size, 2, none⟩ = some (.int .i64 (f v).an.si) := (cell_of_block (i := 2) hbk).trans rfl; have d3 : w2.cell? ⟨wn.heap.size, 3, none⟩ = some (.bool (f v).an.no) := (cell_of_block (i := 3) hbk).trans rfl; have d4 : w2.cell? ⟨wn.heap.size, 4, none⟩ = some (.string (f v).an.fr) := (cell_of_block (i := 4) hbk).trans rfl; have HW2 := Lr hw2; have HRR : Hid (∀ W, Below w2.heap.size w2 W → oN W b R8 D.pu f k0 (rmv v left)) := Lr (fun W hb => hr2.kept (⟨hb.os, hb.tape, hb.output, hb.size, fun k hk _ => hb.block k hk⟩ : w2.grownBy W none) (by simp) (by simp)); have hen2 : (Instr.entry (.pointer (some ⟨R8, 0, none⟩))).run Tryz.prog wn = .ok (.tuple #[.string v, .agg #[.int .i64 (f v).an.ve, .int .i64 (f v).an.bo, .int .i64 (f v).an.si, .bool (f v).an.no, .string (f v).an.fr, .int .i64 (f v).us]]) wn := hen; have hrun2 : (Instr.next (.pointer (some ⟨R8, 0, none⟩)) false 0).run Tryz.prog wq = .ok (.tuple #[.bool true, .string v, .agg #[.int .i64 (f v).an.ve, .int .i64 (f v).an.bo, .int .i64 (f v).an.si, .bool (f v).an.no, .string (f v).an.fr, .int .i64 (f v).us]]) wn := hrun; have HNV2 := Lr (lW w2 (f v).an); obtain ⟨nv, hnv⟩ : ∃ k, k = aT (f v).an := ⟨_, rfl⟩
  rw [← hnv] at HNV2; have hrt := uH f RV.out.1 hv; rw [← hnv] at hrt; have ha0 := lX (HN0.out.2.1 v hvk); rw [← hnv] at ha0; have ht0 := qA (f := f) HN0.out.2.1; have ht1 := qA (f := f) (ks := rmv v left) (fun k hk => HN0.out.2.1 k (RV.out.2.1 k (aU.1 hk).1)); have hl1 : (rmv v left).length ≤ k0.length := by omega
  have hwn : IntKind.i64.wrap (ro - (gB f k0 - gB f left) - nv) = ro - (gB f k0 - gB f (rmv v left)) := by
   have h1 := HRB.out; have h2 := HN.out.1; have h3 := HN0.out.2.2.1; rw [show ro - (gB f k0 - gB f left) - nv = ro - (gB f k0 - gB f (rmv v left)) by omega]; exact IntWalk.i64_in _ (by omega)
  have HLL : Hid ((rmv v left).length + 1 ≤ left.length ∧ left.length ≤ k0.length) := Lr ⟨hrle, hgl2⟩; have HLG := Lr hgl; have HWN := Lr hwn; clear hrv hgr hsz RV BU hv hvk hbk hw2 hen hrun hrle HRI HBI hr2 hnv hrt ha0 ht0 ht1 hl1 hrg
  go_upto_region 10 with (fail)
  rw [← HW2.out]; obtain ⟨NN, hNN⟩ : ∃ NN, NN = wn.heap.size := ⟨_, rfl⟩
  rw [← hNN] at d0 d1 d2 d3 d4 ⊢; clear hNN hwn hrun2 hen2 hgl hgl2 c5
  go_wp2_with fail
  refine HNV2.out.mono ?_; rintro e w11 ⟨rfl, hb11⟩; have HR11 := Lr (HRR.out _ hb11); have HB11 := Lr (HB2.out.bf hb11); have hwn := HWN.out; clear hb11 d0 d1 d2 d3 d4
  go_wp2_with fail
  go_roundg (rmv v left).length
  case measure => have := HLL.out; have := HLG.out; omega
  case rel => exact ⟨rmv v left, Ls _, by have := HLL.out; omega, rfl, (show Aside _ from HR11.out), (show Aside _ from HB11.out)⟩
def je (X : Xd) (i : Nat) : List Nat := (List.range X.ak.length).filter fun j => decide ((X.K j).ca = i) && !(X.K j).dn
structure lu (ks : List ByteArray) (hm : ByteArray → Hld) (l : List Xh) : Prop where
 pm : (l.map Xh.ke).Perm ks
 eq : ∀ h, h ∈ l → hm h.ke = ⟨h.an, h.us⟩
structure StR (C : List Cch) (X : Xd) (i : Nat) (s : Sto) : Prop where
 ch : s.ch = C.getD i default
 pa : s.pa = qK C i
 ld : s.ld = X.Ld i
 ar : s.ar = je X i
 he : lu s.ks s.hm (X.H i)
def D8 (X : Xd) (e : Evn) : Prop := ∃ k, X.ak[e.ak]? = some k ∧ ((e.bk = false ∧ k.cm = false ∧ e.ti = k.ar ∧ e.an = ⟨0, 0, 0, false, ⟨#[]⟩⟩) ∨ (e.bk = true ∧ k.kn = true ∧ k.dn = false ∧ e.ti = k.bk ∧ e.an = k.go))
structure Sim (C : List Cch) (pd : List Xw) (D : Day) (X : Xd) : Prop where
 len : D.st.length = C.length
 st : ∀ (i : Nat) (s : Sto), D.st[i]? = some s → StR C X i s
 ak : D.ak = X.ak.map fun k => ⟨k.ca, k.ma, k.ke, !k.al⟩
 wa : ∀ j, j < X.ak.length → D.wa j = (X.K j).ws.map fun w => ⟨w.ge, w.ak⟩
 ev : ∀ e, e ∈ D.qu ↔ D8 X e
 nd : D.qu.Nodup
 hp : jq (bfr D.K) D.qu
 no : D.no = X.no
 gl : D.go.length = X.go.length
 g1 : ∀ w, w ∈ pd ++ aB X → w.ak = none → D.G w.ge = { X.G w.ge with ho := w.ho }
 g2 : ∀ g, (∀ w, w ∈ pd ++ aB X → w.ak = none → w.ge ≠ g) → D.G g = X.G g
section
variable {C : List Cch} {R : List Crl} {E : List Rel} {P : List Pur} {L : List Gt} {X : Xd} {D : Day} {pd : List Xw}
theorem Sim.perm {pd' : List Xw} (h : Sim C pd D X) (hp : pd'.Perm pd) : Sim C pd' D X :=
 { h with
   g1 := fun w hw => h.g1 w ((hp.append_right _).subset hw)
   g2 := fun g hg => h.g2 g fun w hw => hg w ((hp.append_right _).symm.subset hw) }
theorem Sim.akl (h : Sim C pd D X) : D.ak.length = X.ak.length := by rw [h.ak, List.length_map]
theorem Sim.K (h : Sim C pd D X) {j : Nat} (hj : j < X.ak.length) : D.K j = ⟨(X.K j).ca, (X.K j).ma, (X.K j).ke, !(X.K j).al⟩ := by
 unfold Day.K; rw [h.ak, Lt, List.getElem?_map, Xd.at_ hj]
 rfl
theorem Sim.Kck (h : Sim C pd D X) (j : Nat) : (D.K j).ca = (X.K j).ca ∧ (D.K j).ke = (X.K j).ke := by
 by_cases hj : j < X.ak.length
 ·rw [h.K hj]; exact ⟨rfl, rfl⟩
 ·have e1 : D.K j = default := by unfold Day.K; rw [Lt, List.getElem?_eq_none (by rw [h.akl]; omega)]; rfl
  have e2 : X.K j = default := by unfold Xd.K; rw [Lt, List.getElem?_eq_none (by omega)]; rfl
  rw [e1, e2]; exact ⟨rfl, rfl⟩
theorem Sim.at_ (h : Sim C pd D X) {i : Nat} (hi : i < C.length) : D.st[i]? = some (D.S i) ∧ StR C X i (D.S i) := by
 have h1 := Day.at_ (D := D) (by rw [h.len]; exact hi); exact ⟨h1, h.st i _ h1⟩
theorem jI {i j : Nat} {f : Ldd → Ldd} (hi : i < X.ld.length) : (X.aO i f).Ld j = if j = i then f (X.Ld i) else X.Ld j := by
 unfold Xd.Ld Xd.aO; rw [Lt]; by_cases e : j = i
 ·subst e; rw [List.getElem?_set_self hi, if_pos rfl]; rfl
 ·rw [List.getElem?_set_ne (Ne.symm e), if_neg e, Lt]
theorem yw {i j : Nat} {l : List Xh} (hi : i < X.he.length) : (X.setH i l).H j = if j = i then l else X.H j := by
 unfold Xd.H Xd.setH; rw [Lt]; by_cases e : j = i
 ·subst e; rw [List.getElem?_set_self hi, if_pos rfl]; rfl
 ·rw [List.getElem?_set_ne (Ne.symm e), if_neg e, Lt]
theorem Sim.aO (h : Sim C pd D X) (hl : X.ld.length = C.length) {i : Nat} {s : Sto} (hs : D.st[i]? = some s) (f : Ldd → Ldd) : Sim C pd (D.bz i { s with ld := f s.ld }) (X.aO i f) := by
 have hil : i < X.ld.length := by rw [hl, ← h.len]; exact (List.getElem?_eq_some_iff.1 hs).1
 exact { h with
  len := by show (D.st.set i _).length = _; rw [List.length_set]; exact h.len
  st := fun j t ht => by
   rcases bI ht with ⟨rfl, rfl⟩ | ⟨hne, ht⟩
   ·have g := h.st j s hs; exact ⟨g.ch, g.pa, by rw [jI hil, if_pos rfl]; show f s.ld = _; rw [g.ld], g.ar, g.he⟩
   ·have g := h.st j t ht; exact ⟨g.ch, g.pa, by rw [jI hil, if_neg hne]; exact g.ld, g.ar, g.he⟩ }
theorem Sim.heS (h : Sim C pd D X) (hl : X.he.length = C.length) {i : Nat} {s : Sto} (hs : D.st[i]? = some s) {ks : List ByteArray} {hm : ByteArray → Hld} {l : List Xh} (hr : lu ks hm l) (pu : Nat) : Sim C pd { D with st := D.st.set i { s with ks := ks, hm := hm }, pu := pu } (X.setH i l) := by
 have hil : i < X.he.length := by rw [hl, ← h.len]; exact (List.getElem?_eq_some_iff.1 hs).1
 exact { h with
  len := by show (D.st.set i _).length = _; rw [List.length_set]; exact h.len
  st := fun j t ht => by
   rcases bI ht with ⟨rfl, rfl⟩ | ⟨hne, ht⟩
   ·have g := h.st j s hs; exact ⟨g.ch, g.pa, g.ld, g.ar, by rw [yw hil, if_pos rfl]; exact hr⟩
   ·have g := h.st j t ht; exact ⟨g.ch, g.pa, g.ld, g.ar, by rw [yw hil, if_neg hne]; exact g.he⟩ }
theorem DV {go : List Gtn} {ge g : Nat} {y : Gtn} (hg : ge < go.length) : (go.set ge y).getD g default = if g = ge then y else go.getD g default := by
 rw [Lt]; by_cases e : g = ge
 ·subst e; rw [List.getElem?_set_self hg, if_pos rfl]; rfl
 ·rw [List.getElem?_set_ne (Ne.symm e), if_neg e, Lt]
theorem Sim.how {w : Xw} (h : Sim C pd D X) (hw : w.ak = none → w.ge < D.go.length ∧ ∀ v, v ∈ pd ++ aB X → v.ak = none → v.ge ≠ w.ge) : Sim C (w :: pd) (D.dQ ⟨w.ge, w.ak⟩ w.ho) X := by
 unfold Day.dQ; cases ha : w.ak with
 | some a =>
  exact { h with
   g1 := fun v hv hn => by
    rcases List.mem_cons.1 hv with rfl | hv
    ·rw [ha] at hn; cases hn
    ·exact h.g1 v hv hn
   g2 := fun g hg => h.g2 g fun v hv => hg v (List.mem_cons_of_mem _ hv) }
 | none =>
  obtain ⟨hl, hd⟩ := hw ha; have hG : ∀ g, (D.go.set w.ge { D.G w.ge with ho := w.ho }).getD g default = if g = w.ge then { D.G w.ge with ho := w.ho } else D.G g := fun g => DV hl
  exact { h with
   gl := by show (D.go.set _ _).length = _; rw [List.length_set]; exact h.gl
   g1 := fun v hv hn => by
    show (D.go.set w.ge _).getD v.ge default = _
    rw [hG]; rcases List.mem_cons.1 hv with rfl | hv
    ·rw [if_pos rfl, h.g2 v.ge fun u hu hun => hd u hu hun]
    ·rw [if_neg (hd v hv hn)]; exact h.g1 v hv hn
   g2 := fun g hg => by
    show (D.go.set w.ge _).getD g default = _
    rw [hG, if_neg (Ne.symm (hg w (List.mem_cons_self ..) ha))]; exact h.g2 g fun v hv => hg v (List.mem_cons_of_mem _ hv) }
theorem dN {α β : Type} {l : List α} {j : Nat} {k k' : α} {f : α → β} (h : l[j]? = some k) (e : f k' = f k) : (l.set j k').map f = l.map f := by
 apply List.ext_getElem?; intro i; rw [List.getElem?_map, List.getElem?_map]; by_cases hi : i = j
 ·subst hi; rw [List.getElem?_set_self (List.getElem?_eq_some_iff.1 h).1, h]; simp [e]
 ·rw [List.getElem?_set_ne (Ne.symm hi)]
theorem kT {j : Nat} {k' : Xk} (hj : j < X.ak.length) (e1 : k'.ca = (X.K j).ca) (e2 : k'.dn = (X.K j).dn) (i : Nat) : je (X.bT j k') i = je X i := by
 unfold je; rw [bG]; refine List.filter_congr fun b _ => ?_
 rw [Xd.dB hj]; split
 ·rename_i e; rw [e1, e2, e]
 ·rfl
theorem ui {K : Nat → Akn} {l : List Evn} {x e : Evn} : e ∈ hpush (bfr K) l x ↔ e ∈ l ∨ e = x := by
 rw [(kV (lt := bfr K) l x).mem_iff]; simp
theorem Sim.give {w : Xw} {a : Ans} (h : Sim C (w :: pd) D X) (hx : aP C P L (w :: pd) X) : Sim C pd (D.aQ ⟨w.ge, w.ak⟩ a) (X.aI C w a) := by
 unfold Day.aQ Xd.aI; cases ha : w.ak with
 | none =>
  have hg : w.ge < D.go.length := by
   have := hx.wg w (List.mem_cons_self ..) ha; have := hx.le; rw [h.gl]; omega
  have hG : ∀ g, (D.go.set w.ge (ES (D.G w.ge) D.no a)).getD g default = if g = w.ge then ES (D.G w.ge) D.no a else D.G g := fun g => DV hg
  have hG2 : ∀ g, (X.go.set w.ge ⟨X.no, a.ve, a.bo, a.fr, w.ho⟩).getD g default = if g = w.ge then ⟨X.no, a.ve, a.bo, a.fr, w.ho⟩ else X.G g := fun g => DV (by rw [← h.gl]; exact hg)
  have hne : ∀ v, v ∈ pd ++ aB X → v.ak = none → v.ge ≠ w.ge := fun v hv hn e => by
   have hd := (List.pairwise_cons.1 hx.wu).1 v hv; unfold Dif at hd; rw [ha, hn] at hd; rcases hd with hd | hd
   ·exact hd rfl
   ·exact hd.2 e.symm
  show Sim C pd { D with go := D.go.set w.ge (ES (D.G w.ge) D.no a) } { X with go := X.go.set w.ge ⟨X.no, a.ve, a.bo, a.fr, w.ho⟩ }
  exact { h with
   st := fun i s hs => by
    have g := h.st i s hs; exact ⟨g.ch, g.pa, g.ld, g.ar, g.he⟩
   gl := by show (D.go.set _ _).length = (X.go.set _ _).length; rw [List.length_set, List.length_set]; exact h.gl
   g1 := fun v hv hn => by
    show (D.go.set w.ge _).getD v.ge default = { (X.go.set w.ge _).getD v.ge default with ho := v.ho }
    rw [hG, hG2, if_neg (hne v hv hn), if_neg (hne v hv hn)]; exact h.g1 v (List.mem_cons_of_mem _ hv) hn
   g2 := fun g hg => by
    show (D.go.set w.ge _).getD g default = (X.go.set w.ge _).getD g default
    rw [hG, hG2]; by_cases e : g = w.ge
    ·rw [if_pos e, if_pos e]; have h1 := h.g1 w (List.mem_cons_self ..) ha; rw [h1, h.no]
     rfl
    ·rw [if_neg e, if_neg e]; refine h.g2 g fun v hv hn => ?_
     rcases List.mem_cons.1 hv with rfl | hv
     ·exact Ne.symm e
     ·exact hg v hv hn }
 | some j =>
  obtain ⟨hj, hcm, hkn⟩ := hx.wk w (List.mem_cons_self ..) j ha; have hk := Xd.at_ hj; obtain ⟨k', hk'⟩ : ∃ k', k' = { X.K j with kn := true, go := a, bk := X.no + deO C (X.K j).ca } := ⟨_, rfl⟩
  have hci : (X.K j).ca < C.length := (hx.kk j _ hk).1; have hde : (D.S (D.K j).ca).ch.de = deO C (X.K j).ca := by
   rw [(h.Kck j).1, (h.at_ hci).2.ch]
   rfl
  show Sim C pd (D.EU j (D.S (D.K j).ca).ch.de a) (X.bT j { X.K j with kn := true, go := a, bk := X.no + deO C (X.K j).ca })
  rw [hde]; show Sim C pd (D.EU j (deO C (X.K j).ca) a) (X.bT j { X.K j with kn := true, go := a, bk := X.no + deO C (X.K j).ca })
  rw [← hk']; have e1 : k'.ca = (X.K j).ca := by rw [hk']
  have e2 : k'.dn = (X.K j).dn := by rw [hk']
  have hws : iP k' = iP (X.K j) := by rw [hk']; rfl
  have hpm := iQ (k' := k') hk hws; have hevn : ∀ e, D8 (X.bT j k') e ↔ D8 X e ∨ e = ⟨D.no + deO C (X.K j).ca, true, j, a⟩ := fun e => by
   unfold D8; constructor
   ·rintro ⟨k, hb, hh⟩; rcases aX hb with ⟨e0, rfl⟩ | ⟨_, hb⟩
    ·right
     rw [hk'] at hh; rcases hh with ⟨_, g2, _⟩ | ⟨g1, _, _, g4, g5⟩
     ·dsimp only at g2; rw [hcm] at g2; cases g2
     ·obtain ⟨t, b, q, an⟩ := e
      dsimp only at g1 g4 g5 e0
      subst g1 g4 g5 e0; rw [h.no]
    ·exact .inl ⟨k, hb, hh⟩
   ·rintro (⟨k, hb, hh⟩ | rfl)
    ·have hne : e.ak ≠ j := fun e0 => by
      rw [e0, hk] at hb; cases hb
      rcases hh with ⟨_, g2, _⟩ | ⟨_, g2, _⟩
      ·rw [hcm] at g2; cases g2
      ·rw [hkn] at g2; cases g2
     exact ⟨k, by show (X.ak.set j k')[e.ak]? = _; rw [List.getElem?_set_ne (Ne.symm hne)]; exact hb, hh⟩
    ·refine ⟨k', by show (X.ak.set j k')[j]? = _; rw [List.getElem?_set_self hj], .inr ⟨rfl, by rw [hk'], ?_, by rw [hk', h.no], by rw [hk']⟩⟩; rw [e2]; cases hd : (X.K j).dn
     ·rfl
     ·have := (hx.kk j _ hk).2.2.2 hd; rw [hkn] at this; cases this
  have hnew : ¬ (⟨D.no + deO C (X.K j).ca, true, j, a⟩ : Evn) ∈ D.qu := fun hm => by
   obtain ⟨k, hb, hh⟩ := (h.ev _).1 hm; have hb' : X.ak[j]? = some k := hb; rw [hk] at hb'; cases hb'
   rcases hh with ⟨g1, _⟩ | ⟨_, g2, _⟩
   ·cases g1
   ·rw [hkn] at g2; cases g2
  exact {
   len := h.len
   st := fun i s hs => by
    have g := h.st i s hs; exact ⟨g.ch, g.pa, g.ld, by rw [kT hj e1 e2]; exact g.ar, g.he⟩
   ak := by
    show D.ak = (X.ak.set j k').map _
    rw [dN hk (by rw [hk']), ← h.ak]
   wa := fun b hb => by
    rw [bG] at hb; show D.wa b = _
    rw [h.wa b hb, Xd.dB hj]; split
    ·rename_i e; rw [hk', e]
    ·rfl
   ev := fun e => by
    show e ∈ hpush (bfr D.K) D.qu _ ↔ _
    rw [ui, hevn, h.ev]
   nd := by
    show (hpush (bfr D.K) D.qu _).Nodup
    rw [(kV (lt := bfr D.K) _ _).nodup_iff, List.nodup_append]; refine ⟨h.nd, by simp, fun x hx y hy e => ?_⟩; simp only [List.mem_singleton] at hy
    subst hy; subst e; exact hnew hx
   hp := qh (iL _) h.hp _
   no := h.no
   gl := h.gl
   g1 := fun v hv hn => h.g1 v (List.mem_cons_of_mem _ ((hpm.append_left pd).subset hv)) hn
   g2 := fun g hg => h.g2 g fun v hv hn => by
    rcases List.mem_cons.1 hv with rfl | hv
    ·rw [ha] at hn; cases hn
    ·exact hg v ((hpm.append_left pd).symm.subset hv) hn }
theorem uf {α : Type} [Inhabited α] {lt lt' : α → α → Bool} {l : List α} (h : jq lt l) (he : ∀ a b, a ∈ l → b ∈ l → lt' a b = lt a b) : jq lt' l := fun i h0 hi => by
 rw [he _ _ (nV hi) (nV (by omega))]; exact h i h0 hi
theorem Sim.ask {i : Nat} {s : Sto} {key : ByteArray} {al : Bool} (h : Sim C pd D X) (hl : X.ld.length = C.length) (hs : D.st[i]? = some s) : Sim C pd (D.mG i s key (!al)) (X.aA C i key al []) := by
 have hi : i < C.length := by rw [← h.len]; exact (List.getElem?_eq_some_iff.1 hs).1
 have hil : i < X.ld.length := by rw [hl]; exact hi
 have g0 := h.st i s hs; have hde : s.ch.de = deO C i := by rw [g0.ch]; rfl
 have hn := h.akl; obtain ⟨n, hnn⟩ : ∃ n, n = X.ak.length := ⟨_, rfl⟩
 have hKo : ∀ b, b < n → (X.aA C i key al []).K b = X.K b := fun b hb => by
  show (X.ak ++ [_]).getD b default = _
  rw [Lt, List.getElem?_append_left (by omega), ← Lt]
  rfl
 have hKn : (X.aA C i key al []).K n = ⟨i, key, X.no, X.no + deO C i, false, false, 0, default, false, al, []⟩ := by
  show (X.ak ++ [_]).getD n default = _
  rw [hnn, Lt, List.getElem?_append_right (Ls _)]; simp
 have hlen : (X.aA C i key al []).ak.length = n + 1 := by show (X.ak ++ [_]).length = _; simp [hnn]
 have hlive : ∀ b, je (X.aA C i key al []) b = je X b ++ (if b = i then [n] else []) := fun b => by
  unfold je; rw [hlen, List.range_succ, List.filter_append, ← hnn]
  congr 1
  ·refine List.filter_congr fun c hc => ?_
   rw [hKo c (List.mem_range.1 hc)]
  ·rw [List.filter_cons, hKn]; by_cases e : b = i
   ·simp [e]
   ·simp [e, Ne.symm e]
 have hLd : ∀ b, (X.aA C i key al []).Ld b = if b = i then BZ (X.Ld i) else X.Ld b := fun b => jI hil
 have hw : aB (X.aA C i key al []) = aB X := by
  show (X.ak ++ [_]).flatMap iP = _
  rw [List.flatMap_append]; simp [aB, iP]
 have hK2 : ∀ b, b < n → (D.zM i key (!al)).K b = D.K b := fun b hb => by
  show (D.ak ++ [_]).getD b default = _
  rw [Lt, List.getElem?_append_left (by omega), ← Lt]
  rfl
 have hin : ∀ e, e ∈ D.qu → e.ak < n := fun e he => by
  obtain ⟨k, hk, _⟩ := (h.ev e).1 he; rw [hnn]; exact (List.getElem?_eq_some_iff.1 hk).1
 have hevn : ∀ e, D8 (X.aA C i key al []) e ↔ D8 X e ∨ e = ⟨D.no + s.ch.de, false, D.ak.length, ⟨0, 0, 0, false, ⟨#[]⟩⟩⟩ := fun e => by
  unfold D8; constructor
  ·rintro ⟨k, hb, hh⟩; rcases dL hb with ⟨e0, rfl⟩ | ⟨_, hb⟩
   ·right
    rcases hh with ⟨g1, _, g3, g4⟩ | ⟨_, g2, _⟩
    ·obtain ⟨t, b, q, an⟩ := e
     dsimp only at g1 g3 g4 e0
     subst g1 g3 g4 e0; rw [h.no, hde, hn]
    ·cases g2
   ·exact .inl ⟨k, hb, hh⟩
  ·rintro (⟨k, hb, hh⟩ | rfl)
   ·exact ⟨k, by show (X.ak ++ [_])[e.ak]? = _; rw [List.getElem?_append_left (List.getElem?_eq_some_iff.1 hb).1]; exact hb, hh⟩
   ·refine ⟨⟨i, key, X.no, X.no + deO C i, false, false, 0, default, false, al, []⟩, ?_, .inl ⟨rfl, rfl, ?_, rfl⟩⟩
    ·show (X.ak ++ [_])[D.ak.length]? = _
     rw [hn, List.getElem?_append_right (Ls _)]; simp
    ·show D.no + s.ch.de = X.no + deO C i
     rw [h.no, hde]
 have hnew : ¬ (⟨D.no + s.ch.de, false, D.ak.length, ⟨0, 0, 0, false, ⟨#[]⟩⟩⟩ : Evn) ∈ D.qu := fun hm => by
  have := hin _ hm
  dsimp only at this
  omega
 exact {
  len := by show (D.st.set i _).length = _; rw [List.length_set]; exact h.len
  st := fun b t ht => by
   rcases bI ht with ⟨rfl, rfl⟩ | ⟨hne, ht⟩
   ·refine ⟨g0.ch, g0.pa, ?_, ?_, g0.he⟩
    ·rw [hLd, if_pos rfl, ← g0.ld]; rfl
    ·rw [hlive, if_pos rfl, ← g0.ar]; show s.ar ++ [D.ak.length] = _
     rw [hn, hnn]
   ·have g := h.st b t ht; exact ⟨g.ch, g.pa, by rw [hLd, if_neg hne]; exact g.ld, by rw [hlive, if_neg hne, List.append_nil]; exact g.ar, g.he⟩
  ak := by
   show D.ak ++ [_] = (X.ak ++ [_]).map _
   rw [List.map_append, ← h.ak, h.no]
   rfl
  wa := fun b hb => by
   rw [hlen] at hb; show upF D.wa D.ak.length [] b = _
   by_cases e : b = n
   ·rw [e, hKn, hn, ← hnn, aZ]; rfl
   ·rw [hKo b (by omega), aS _ _ (by omega)]; exact h.wa b (by omega)
  ev := fun e => by
   show e ∈ hpush (bfr (D.zM i key (!al)).K) D.qu _ ↔ _
   rw [ui, hevn, h.ev]
  nd := by
   show (hpush (bfr (D.zM i key (!al)).K) D.qu _).Nodup
   rw [(kV (lt := bfr (D.zM i key (!al)).K) _ _).nodup_iff, List.nodup_append]; refine ⟨h.nd, by simp, fun x hx y hy e => ?_⟩; simp only [List.mem_singleton] at hy
   subst hy; subst e; exact hnew hx
  hp := qh (iL _) (uf h.hp fun a b ha hb => by
   show bfr (D.zM i key (!al)).K a b = bfr D.K a b
   unfold bfr; rw [hK2 _ (hin a ha), hK2 _ (hin b hb)]) _
  no := h.no
  gl := h.gl
  g1 := fun v hv => by rw [hw] at hv; exact h.g1 v hv
  g2 := fun g hg => by rw [hw] at hg; exact h.g2 g hg }
theorem Sim.join {j : Nat} {w : Xw} (h : Sim C (w :: pd) D X) (hj : j < X.ak.length) (hd : (X.K j).dn = false) : Sim C pd (D.kK j ⟨w.ge, w.ak⟩) (X.nK j w) := by
 have hk := Xd.at_ hj; have hpm : (pd ++ aB (X.nK j w)).Perm ((w :: pd) ++ aB X) := by
  have h1 := eu (k' := { X.K j with ws := (X.K j).ws ++ [w] }) hk; have e1 : iP (X.K j) = (X.K j).ws := if_neg (by simp [hd]); have e2 : iP { X.K j with ws := (X.K j).ws ++ [w] } = (X.K j).ws ++ [w] := if_neg (by simp [hd]); rw [e1, e2, List.append_assoc] at h1; have h2 := (List.perm_append_left_iff _).1 h1; exact (List.Perm.append_left pd h2).trans List.perm_middle
 show Sim C pd (D.kK j ⟨w.ge, w.ak⟩) (X.bT j { X.K j with ws := (X.K j).ws ++ [w] })
 exact {
  len := h.len
  st := fun i s hs => by
   have g := h.st i s hs; exact ⟨g.ch, g.pa, g.ld, by rw [kT (k' := { X.K j with ws := (X.K j).ws ++ [w] }) hj rfl rfl]; exact g.ar, g.he⟩
  ak := by
   show D.ak = (X.ak.set j _).map _
   rw [dN (k' := { X.K j with ws := (X.K j).ws ++ [w] }) hk rfl, ← h.ak]
  wa := fun b hb => by
   rw [bG] at hb; show upF D.wa j (D.wa j ++ [⟨w.ge, w.ak⟩]) b = _
   rw [Xd.dB hj]; by_cases e : b = j
   ·rw [e, aZ, if_pos rfl, h.wa j hj]; simp
   ·rw [aS _ _ e, if_neg e]; exact h.wa b hb
  ev := fun e => by
   show e ∈ D.qu ↔ _
   rw [h.ev]; unfold D8; constructor
   ·rintro ⟨k, hb, hh⟩; by_cases e0 : e.ak = j
    ·rw [e0, hk] at hb; cases hb
     exact ⟨{ X.K j with ws := (X.K j).ws ++ [w] }, by show (X.ak.set j _)[e.ak]? = _; rw [e0, List.getElem?_set_self hj], hh⟩
    ·exact ⟨k, by show (X.ak.set j _)[e.ak]? = _; rw [List.getElem?_set_ne (Ne.symm e0)]; exact hb, hh⟩
   ·rintro ⟨k, hb, hh⟩; rcases aX hb with ⟨e0, rfl⟩ | ⟨_, hb⟩
    ·exact ⟨X.K j, by rw [e0]; exact hk, hh⟩
    ·exact ⟨k, hb, hh⟩
  nd := h.nd
  hp := h.hp
  no := h.no
  gl := h.gl
  g1 := fun v hv => h.g1 v (hpm.subset hv)
  g2 := fun g hg => h.g2 g fun v hv => hg v (hpm.symm.subset hv) }
end
section
variable {f g : ByteArray → Hld}
theorem zY.perm {ks ks' : List ByteArray} {x : ByteArray} (h : zY f ks x) (hp : ks.Perm ks') (he : ∀ k, k ∈ ks → f k = g k) : zY g ks' x := by
 refine ⟨hp.subset h.1, fun y hy => ?_⟩; have hy' := hp.symm.subset hy; have h2 := h.2 y hy'; unfold lgB at h2 ⊢; rw [← he y hy', ← he x h.1]; exact h2
theorem Aq {ks ks' : List ByteArray} (hp : ks.Perm ks') : gB f ks = gB f ks' := by
 induction hp with
 | nil => rfl
 | cons x _ ih => show aT _ + _ = aT _ + _; rw [ih]
 | swap x y l => show aT _ + (aT _ + _) = aT _ + (aT _ + _); omega
 | trans _ _ h1 h2 => exact h1.trans h2
theorem pI : ∀ {ks : List ByteArray}, (∀ k, k ∈ ks → f k = g k) → gB f ks = gB g ks
 | [], _ => rfl
 | k :: ks, h => by
  show aT _ + _ = aT _ + _
  rw [h k (List.mem_cons_self ..), pI (ks := ks) fun k hk => h k (List.mem_cons_of_mem _ hk)]
theorem wE {ks ks' : List ByteArray} (k : ByteArray) (hp : ks.Perm ks') : (rmv k ks).Perm (rmv k ks') := hp.filter _
theorem xR {ro nd : Int} : ∀ {n : Nat} {ks ks' : List ByteArray}, ks.Perm ks' → (∀ k, k ∈ ks → f k = g k) → (evK f ro nd n ks).Perm (evK g ro nd n ks')
 | 0, _, _, hp, _ => hp
 | n + 1, ks, ks', hp, he => by
  unfold evK; rw [← Aq hp, ← pI he]; split
  ·by_cases hne : ks = []
   ·subst hne; rw [hp.symm.eq_nil]; have e : ∀ (f : ByteArray → Hld) k, evK f ro nd n (rmv k []) = [] := fun f k => iJ
    rw [e, e]
   ·have hl := (uQ f hne).perm hp he; rw [← hl.eq]; exact xR (wE _ hp) fun k hk => he k (aU.1 hk).1
  ·exact hp
theorem oC {ro nd : Int} : ∀ {n : Nat} {ks : List ByteArray}, ks.Nodup → (evK f ro nd n ks).Nodup
 | 0, _, h => h
 | n + 1, ks, h => by
  unfold evK; split
  ·exact oC (bJ h)
  ·exact h
end
theorem BA {ks : List ByteArray} {l : List Xh} (hp : (l.map Xh.ke).Perm ks) (k : ByteArray) : onL k ks = onH l k := by
 have h : onL k ks = true ↔ onH l k = true := by
  rw [bF, kM, ← hp.mem_iff, List.mem_map]
 cases h1 : onL k ks <;> cases h2 : onH l k
 ·rfl
 ·exact (Bool.noConfusion (h1.symm.trans (h.2 h2)))
 ·exact (Bool.noConfusion (h2.symm.trans (h.1 h1)))
 ·rfl
theorem lu.hm {ks : List ByteArray} {hm : ByteArray → Hld} {l : List Xh} (h : lu ks hm l) (hn : (l.map Xh.ke).Nodup) {k : ByteArray} (hk : onH l k = true) : hm k = gY l k := by
 obtain ⟨x, h1, rfl⟩ := kM.1 hk; rw [h.eq x h1, nT hn h1]
theorem lu.del {ks : List ByteArray} {hm : ByteArray → Hld} {l : List Xh} (h : lu ks hm l) (k : ByteArray) : lu (rmv k ks) hm (eH l k) :=
 ⟨by rw [dW]; exact wE k h.pm, fun x hx => h.eq x (List.mem_filter.1 hx).1⟩
theorem lu.use {ks : List ByteArray} {hm : ByteArray → Hld} {l : List Xh} (h : lu ks hm l) (key : ByteArray) (no : Int) : lu ks (fun d => if d = key then ⟨(hm key).an, no⟩ else hm d) (gz l key no) := by
 refine ⟨by rw [mQ]; exact h.pm, fun x hx => ?_⟩; obtain ⟨x0, g1, g2, g3, g4⟩ := qx hx; show (if x.ke = key then _ else _) = _
 have h0 := h.eq x0 g1; rw [g2, g3, g4]; split
 ·rename_i e; rw [← e, h0]
 ·exact h0
theorem lu.put {ks : List ByteArray} {hm : ByteArray → Hld} {l : List Xh} (h : lu ks hm l) (hn : (l.map Xh.ke).Nodup) (key : ByteArray) (a : Ans) (no ro nd : Int) (n : Nat) (hl : ks.length ≤ n) :
 lu (key :: evK hm ro nd n (rmv key ks)) (fun d => if d = key then ⟨a, no⟩ else hm d) (evX (eH l key) ro nd ++ [⟨key, a, no⟩]) := by
 have hd := h.del key; have hn1 : ((eH l key).map Xh.ke).Nodup := by rw [dW]; exact bJ hn
 obtain ⟨l1, hl1⟩ : ∃ l1, l1 = eH l key := ⟨_, rfl⟩
 have hnk : ∀ x, x ∈ l1 → x.ke ≠ key := fun x hx e => by
  have := List.mem_map_of_mem (f := Xh.ke) hx; rw [hl1, dW, aU] at this; exact this.2 e
 rw [← hl1] at hd hn1 ⊢; have hf : ∀ k, k ∈ l1.map Xh.ke → gY l1 k = hm k := fun k hk => by
  obtain ⟨x, hx, rfl⟩ := List.mem_map.1 hk; rw [nT hn1 hx, hd.eq x hx]
 have hp1 : ((evX l1 ro nd).map Xh.ke).Perm (evK (gY l1) ro nd l1.length (l1.map Xh.ke)) := by
  have e : (evX l1 ro nd).map Xh.ke = (l1.map Xh.ke).filter fun k => onL k (evK (gY l1) ro nd l1.length (l1.map Xh.ke)) := by
   unfold evX; rw [List.filter_map]
   rfl
  rw [e]; refine (List.perm_ext_iff_of_nodup (hn1.filter _) (oC hn1)).2 fun k => ?_
  rw [List.mem_filter, bF]; exact ⟨fun h => h.2, fun h => ⟨rD h, h⟩⟩
 have hp2 : (evK (gY l1) ro nd l1.length (l1.map Xh.ke)).Perm (evK hm ro nd n (rmv key ks)) := by
  have hlen : l1.length ≤ n := by
   have := hd.pm.length_eq; rw [List.length_map] at this; rw [this]; exact Nat.le_trans (fE _ _) hl
  rw [rE (g := l1.length) (h := n) (by rw [List.length_map]; exact Ls _) (by rw [List.length_map]; exact hlen)]; exact xR hd.pm hf
 refine ⟨?_, fun x hx => ?_⟩
 ·rw [List.map_append]; exact List.perm_append_comm.trans ((hp1.trans hp2).cons key)
 ·show (if x.ke = key then _ else _) = _
  rcases List.mem_append.1 hx with hx | hx
  ·rw [if_neg (hnk x (rC hx))]; exact hd.eq x (rC hx)
  ·simp only [List.mem_singleton] at hx
   subst hx; rw [if_pos rfl]
section
variable {C : List Cch} {R : List Crl} {E : List Rel} {P : List Pur} {L : List Gt} {X : Xd} {D : Day} {pd : List Xw}
theorem jE {α : Type} (p q : α → Bool) : ∀ l : List α, (l.filter p).find? q = l.find? fun a => p a && q a
 | [] => rfl
 | a :: l => by
  rw [List.filter_cons, List.find?_cons]; cases hp : p a
  ·rw [if_neg (by simp)]; simp [jE p q l]
  ·rw [if_pos rfl, List.find?_cons]; cases q a <;> simp [jE p q l]
theorem Sim.way (h : Sim C pd D X) {i : Nat} {s : Sto} (hs : s.ar = je X i) (key : ByteArray) (last : Int) : rV D s.ar key last = X.kD i key last := by
 unfold rV Xd.kD; rw [hs]; unfold je; rw [jE]; have : ∀ (l : List Nat), (∀ j, j ∈ l → j < X.ak.length) → l.find? (fun a => (decide ((X.K a).ca = i) && !(X.K a).dn) && Il D key last a) = l.find? fun j => (decide ((X.K j).ca = i) && !(X.K j).dn) && (((X.K j).ke.toList == key.toList) && (!(X.K j).al && decide (last ≤ (X.K j).ma))) := by
  intro l hl
  induction l with
  | nil => rfl
  | cons a l ih =>
   rw [List.find?_cons, List.find?_cons, ih (fun j hj => hl j (List.mem_cons_of_mem _ hj))]; unfold Il; rw [h.K (hl a (List.mem_cons_self ..))]
 exact this _ fun j hj => List.mem_range.1 hj
theorem Sim.keep (h : Sim C pd D X) (hx : aP C P L pd X) {i : Nat} {s : Sto} (hs : D.st[i]? = some s) (key : ByteArray) (a : Ans) : Sim C pd (D.keepD R P i s key a) (X.dS C R P i key a) := by
 have g := h.st i s hs; have hn := (hx.held i).1; have e1 : iF D R P s key a = X.wV R P i key a := by
  unfold iF Xd.wV kE; rw [BA g.he.pm, h.no]; cases ho : onH (X.H i) key
  ·rfl
  ·rw [g.he.hm hn ho]
 have e2 : s.ch.ro = (C.getD i default).ro := by rw [g.ch]
 unfold Day.keepD Xd.dS; rw [e1, e2]; split
 ·exact h
 ·split
  ·exact h.heS hx.le.1 hs (g.he.del key) D.pu
  ·have hp := g.he.put hn key a D.no (C.getD i default).ro (aT a) s.ks.length (Ls _); rw [h.no] at hp; have := h.heS hx.le.1 hs hp (D.pu + 1); rw [← h.no] at this; rw [← h.no]; exact this
theorem Sim.gives {a : Ans} (hV : ∀ (i : Nat) (x : Cch), C[i]? = some x → 1 ≤ x.de ∧ x.de ≤ 100000) (ha : dF a) : ∀ (ws : List Xw) (D : Day) (X : Xd), Sim C (ws ++ pd) D X → aP C P L (ws ++ pd) X → (∀ w, w ∈ ws → ∀ j, w.ak = some j → X.no ≤ 1000000000000 + 100000 * (30 + ((X.K j).ca : Int))) →
 Sim C pd ((ws.map fun w => (⟨w.ge, w.ak⟩ : Wtr)).foldl (fun D f => D.aQ f a) D) (X.bQ C ws a)
 | [], D, X, h, _, _ => h
 | w :: ws, D, X, h, hx, hn => by
  have h1 := Sim.give (w := w) (a := a) h hx; have x1 := aP.give (w := w) (a := a) hx hV ha (hn w (List.mem_cons_self ..)); refine Sim.gives hV ha ws _ _ h1 x1 fun v hv j hj => ?_
  rw [mf, mg fun b hb => (hx.wk w (List.mem_cons_self ..) b hb).1]; exact hn v (List.mem_cons_of_mem _ hv) j hj
theorem um {f : Wtr} {o : Int} {x : Ans} : (D.aQ f x).dQ f o = (D.dQ f o).aQ f x := by
 unfold Day.dQ Day.aQ; cases f.ak with
 | some j => rfl
 | none =>
  show ({ D with go := (D.go.set f.ge (ES (D.G f.ge) D.no x)).set f.ge { (D.go.set f.ge (ES (D.G f.ge) D.no x)).getD f.ge default with ho := o } } : Day) = { D with go := (D.go.set f.ge { D.G f.ge with ho := o }).set f.ge (ES ((D.go.set f.ge { D.G f.ge with ho := o }).getD f.ge default) D.no x) }
  rw [List.set_set, List.set_set]; by_cases hg : f.ge < D.go.length
  ·rw [DV hg, DV hg, if_pos rfl, if_pos rfl]
   rfl
  ·rw [List.set_eq_of_length_le (by omega), List.set_eq_of_length_le (by omega)]
theorem l9 {f : Wtr} {o : Int} {i : Nat} {s : Sto} : (D.bz i s).dQ f o = (D.dQ f o).bz i s := by
 unfold Day.dQ; cases f.ak <;> rfl
theorem ul {f : Wtr} {o : Int} {i : Nat} {s : Sto} {key : ByteArray} : (D.takeD i s key).dQ f o = (D.dQ f o).takeD i s key := by
 unfold Day.dQ; cases f.ak <;> rfl
theorem xA {f : Wtr} {o : Int} {i : Nat} {s : Sto} {key : ByteArray} {k : Bool} : (D.mG i s key k).dQ f o = (D.dQ f o).mG i s key k := by
 unfold Day.dQ; cases f.ak <;> rfl
theorem uk {f : Wtr} {o : Int} {j : Nat} {v : Wtr} : (D.kK j v).dQ f o = (D.dQ f o).kK j v := by
 unfold Day.dQ; cases f.ak <;> rfl
theorem G7 {f : Wtr} {o : Int} : (D.dQ f o).ak = D.ak := by
 unfold Day.dQ; cases f.ak <;> rfl
theorem uY {f : Wtr} {o : Int} : (D.dQ f o).st = D.st := by
 unfold Day.dQ; cases f.ak <;> rfl
theorem yC {i : Nat} {key : ByteArray} {al : Bool} {w : Xw} : X.aA C i key al [w] = (X.aA C i key al []).nK X.ak.length w := by
 have e : (X.aA C i key al []).K X.ak.length = ⟨i, key, X.no, X.no + deO C i, false, false, 0, default, false, al, []⟩ := by
  show (X.ak ++ [_]).getD X.ak.length default = _
  rw [Lt, List.getElem?_append_right (Ls _)]; simp
 have e2 : ((X.aA C i key al []).ak).set X.ak.length ⟨i, key, X.no, X.no + deO C i, false, false, 0, default, false, al, [w]⟩ = X.ak ++ [⟨i, key, X.no, X.no + deO C i, false, false, 0, default, false, al, [w]⟩] := by
  show (X.ak ++ [_]).set _ _ = _
  rw [List.set_append_right _ _ (Ls _)]; simp
 unfold Xd.nK; rw [e]; show _ = ({ X.aA C i key al [] with ak := ((X.aA C i key al []).ak).set X.ak.length ⟨i, key, X.no, X.no + deO C i, false, false, 0, default, false, al, [w]⟩ } : Xd)
 rw [e2]
 rfl
theorem yY {w : Xw} {a : Ans} (hj : ∀ j, w.ak = some j → j < X.ak.length) (i : Nat) (key : ByteArray) (last : Int) : (X.aI C w a).kD i key last = X.kD i key last := by
 unfold Xd.aI; cases hw : w.ak with
 | none => rfl
 | some j =>
  show (X.bT j { X.K j with kn := true, go := a, bk := X.no + deO C (X.K j).ca }).kD i key last = _
  unfold Xd.kD; rw [bG]
  congr 1
  funext b
  rw [Xd.dB (hj j hw)]; split
  ·rename_i e; rw [e]
  ·rfl
theorem yX {w : Xw} {a : Ans} {i : Nat} {key : ByteArray} {al : Bool} (hj : ∀ j, w.ak = some j → j < X.ak.length) : (X.aI C w a).aA C i key al [] = (X.aA C i key al []).aI C w a := by
 unfold Xd.aI; cases hw : w.ak with
 | none => rfl
 | some j =>
  have h := hj j hw; have e : (X.aA C i key al []).K j = X.K j := by
   show (X.ak ++ [_]).getD j default = _
   rw [Lt, List.getElem?_append_left h, ← Lt]
   rfl
  show (X.bT j { X.K j with kn := true, go := a, bk := X.no + deO C (X.K j).ca }).aA C i key al [] = (X.aA C i key al []).bT j { (X.aA C i key al []).K j with kn := true, go := a, bk := X.no + deO C ((X.aA C i key al []).K j).ca }
  rw [e]; unfold Xd.aA Xd.bT Xd.aO
  dsimp only
  rw [List.set_append_left _ _ h]
  rfl
theorem CG {f : Wtr} {o : Int} {i : Nat} {key : ByteArray} {last : Int} : (D.lQ i key last).dQ f o = (D.dQ f o).lQ i key last := by
 have e1 : (D.dQ f o).S i = D.S i := by
  show (D.dQ f o).st.getD i default = _
  rw [uY]; rfl
 have e2 : rV (D.dQ f o) (D.S i).ar key last = rV D (D.S i).ar key last := by
  unfold rV
  congr 1
  funext j
  unfold Il Day.K; rw [G7]
 unfold Day.lQ; rw [e1, e2]; split
 ·rfl
 ·exact xA
theorem Gv {r : Crl} {x : Ans} (h : 0 ≤ r.st) : eG r x false ≤ eG r x true := by
 unfold eG; split
 ·exact Int.le_refl _
 ·simp; omega
theorem Sim.come {i : Nat} {key : ByteArray} {ge : Nat} {ak : Option Nat} {ho : Int} (h : Sim C pd D X) (hx : aP C P L (⟨ge, ak, ho⟩ :: pd) X) (hi : i < C.length) (hR : ∀ x, x ∈ R → (0 ≤ x.li ∧ x.li ≤ 1000000000) ∧ (0 ≤ x.st ∧ x.st ≤ 1000000000) ∧ (0 ≤ x.go ∧ x.go ≤ 1000000000)) :
 Sim C pd (D.dX R P i (D.S i) key ⟨ge, ak⟩) (X.aY C R P i key ge ak) := by
 obtain ⟨hs, g⟩ := h.at_ hi; obtain ⟨s, hsd⟩ : ∃ s, s = D.S i := ⟨_, rfl⟩
 rw [← hsd] at hs g ⊢; have hn := (hx.held i).1; have hle := hx.le; have HW : ∀ o : Int, Sim C (⟨ge, ak, o⟩ :: pd) (D.dQ ⟨ge, ak⟩ o) X := fun o => Sim.how (w := ⟨ge, ak, o⟩) h fun ha => by
  have ha' : ak = none := ha; refine ⟨?_, fun v hv hv2 e => ?_⟩
  ·have h1 := hx.wg _ (List.mem_cons_self ..) ha; have h1' : ge < X.nx := h1; show ge < D.go.length
   rw [h.gl]; omega
  ·have hd := (List.pairwise_cons.1 hx.wu).1 v hv; unfold Dif at hd; rcases hd with hd | hd
   ·exact hd (by rw [hv2]; exact ha')
   ·exact hd.2 e.symm
 have hso : ∀ o, (D.dQ ⟨ge, ak⟩ o).st[i]? = some s := fun o => by rw [uY]; exact hs
 have hil : i < D.st.length := (List.getElem?_eq_some_iff.1 hs).1; have hset : ∀ (D' : Day) (t : Sto), i < D'.st.length → (D'.bz i t).st[i]? = some t := fun D' t hl => by show (D'.st.set i t)[i]? = _; rw [List.getElem?_set_self hl]
 have hlo : ∀ o, i < (D.dQ ⟨ge, ak⟩ o).st.length := fun o => by rw [uY]; exact hil
 have e0 : onL key s.ks = onH (X.H i) key := BA g.he.pm key; have eA : onH (X.H i) key = true → s.hm key = gY (X.H i) key := g.he.hm hn; have eN : s.ch.na = (C.getD i default).na := by rw [g.ch]
 have NEW : ∀ (kp : Bool), Sim C pd (D.BH i s key kp ⟨ge, ak⟩) ((X.aO i dw).aA C i key (!kp) [⟨ge, ak, 3⟩]) := fun kp => by
  have h1 : Sim C (⟨ge, ak, 3⟩ :: pd) ((D.dQ ⟨ge, ak⟩ 3).bz i (aj s)) (X.aO i dw) := (HW 3).aO hle.2.1 (hso 3) dw; have h2 := h1.ask (al := !kp) (key := key) (hx.ld i dw).le.2.1 (hset _ (aj s) (hlo 3)); rw [Bool.not_not] at h2; have hl2 : ((X.aO i dw).aA C i key (!kp) []).ak.length = X.ak.length + 1 := by show (X.ak ++ [_]).length = _; simp
  have h3 := Sim.join (w := ⟨ge, ak, 3⟩) (j := X.ak.length) h2 (by rw [hl2]; exact Nat.lt_succ_self _) (by
   show ((X.ak ++ [_]).getD X.ak.length default).dn = false
   rw [Lt, List.getElem?_append_right (Ls _)]; simp)
  rw [yC]; have e : D.BH i s key kp ⟨ge, ak⟩ = (((D.dQ ⟨ge, ak⟩ 3).bz i (aj s)).mG i (aj s) key kp).kK X.ak.length ⟨ge, ak⟩ := by
   unfold Day.BH; rw [uk, xA, l9, h.akl]
  rw [e]; exact h3
 have GIV : ∀ (fD : Sto → Sto) (fX : Ldd → Ldd) (o : Int), (∀ t : Sto, fD t = { t with ld := fX t.ld }) → onH (X.H i) key = true → Sim C (⟨ge, ak, o⟩ :: pd) (((D.dQ ⟨ge, ak⟩ o).bz i (fD (aj s))).takeD i (fD (aj s)) key) (((X.aO i dw).aO i fX).setH i (gz (X.H i) key X.no)) := fun fD fX o hf ho => by
  have h1 : Sim C (⟨ge, ak, o⟩ :: pd) ((D.dQ ⟨ge, ak⟩ o).bz i (aj s)) (X.aO i dw) := (HW o).aO hle.2.1 (hso o) dw; have h2 := h1.aO (hx.ld i dw).le.2.1 (hset _ (aj s) (hlo o)) fX; rw [← hf, iD] at h2; have hs2 := hset (D.dQ ⟨ge, ak⟩ o) (fD (aj s)) (hlo o); have g2 := h2.st i _ hs2; have hno2 : ((D.dQ ⟨ge, ak⟩ o).bz i (fD (aj s))).no = X.no := h2.no; have h3 := h2.heS (ks := (fD (aj s)).ks) ((hx.ld i dw).ld i fX).le.1 hs2 (g2.he.use key X.no) (((D.dQ ⟨ge, ak⟩ o).bz i (fD (aj s))).pu + 1); have e : ((D.dQ ⟨ge, ak⟩ o).bz i (fD (aj s))).takeD i (fD (aj s)) key = { (D.dQ ⟨ge, ak⟩ o).bz i (fD (aj s)) with st := ((D.dQ ⟨ge, ak⟩ o).bz i (fD (aj s))).st.set i { fD (aj s) with ks := (fD (aj s)).ks, hm := fun d => if d = key then ⟨((fD (aj s)).hm key).an, X.no⟩ else (fD (aj s)).hm d }, pu := ((D.dQ ⟨ge, ak⟩ o).bz i (fD (aj s))).pu + 1 } := by
   unfold Day.takeD oU; rw [← hno2]
  rw [e]; exact h3
 have GIVX : ∀ (fX : Ldd → Ldd) (o : Int), aP C P L (⟨ge, ak, o⟩ :: pd) (((X.aO i dw).aO i fX).setH i (gz (X.H i) key X.no)) := fun fX o =>
  aP.heS (aP.ho (w := ⟨ge, ak, ho⟩) ((hx.ld i dw).ld i fX) o) i _ ⟨by rw [mQ]; exact (hx.held i).1, fun x hx2 => by
   obtain ⟨x0, g1, g2, g3, _⟩ := qx hx2; rw [g2, g3]; exact (hx.held i).2 x0 g1⟩
 unfold Day.dX Xd.aY kE; by_cases hr : (ruI R key R.length).isSome = false
 ·rw [if_pos hr, if_pos hr]; exact NEW false
 rw [if_neg hr, if_neg hr, e0]; have REST : Sim C pd (match rV D s.ar key (fQ P key D.no) with
  | some j => D.uU i s j ⟨ge, ak⟩
  | none => D.BH i s key true ⟨ge, ak⟩) (match X.kD i key (fQ P key X.no) with
  | some j => ((X.aO i dw).aO i tZ).nK j ⟨ge, ak, 4⟩
  | none => (X.aO i dw).aA C i key false [⟨ge, ak, 3⟩]) := by
  rw [h.way g.ar, h.no]; cases hw : X.kD i key (fQ P key X.no) with
  | none => exact NEW true
  | some j =>
   obtain ⟨w1, w2, w3, -, -, -⟩ := iy hw; have h1 : Sim C (⟨ge, ak, 4⟩ :: pd) ((D.dQ ⟨ge, ak⟩ 4).bz i (aj s)) (X.aO i dw) := (HW 4).aO hle.2.1 (hso 4) dw; have h2 := h1.aO (hx.ld i dw).le.2.1 (hset _ (aj s) (hlo 4)) tZ; rw [iD] at h2; have h3 := Sim.join (w := ⟨ge, ak, 4⟩) (j := j) h2 w1 w3; have e : D.uU i s j ⟨ge, ak⟩ = ((D.dQ ⟨ge, ak⟩ 4).bz i (nO (aj s))).kK j ⟨ge, ak⟩ := by
    unfold Day.uU; rw [uk, l9]
   show Sim C pd (D.uU i s j ⟨ge, ak⟩) _
   rw [e]; exact h3
 by_cases ho : onH (X.H i) key = true
 case neg =>
  rw [if_neg (fun e => ho e.1), if_neg (fun e => ho e.1), if_neg (fun e => ho e.1)]; exact REST
 have eM := eA ho; have tA : mV s key = { (gY (X.H i) key).an with fr := (C.getD i default).na } := by
  unfold mV; rw [eM, eN]
 have hrs := (uM hR (ruI R key R.length)).2.1.1; have eD : D.no = X.no := h.no; by_cases hf : X.no < eG (lV R (ruI R key R.length)) (gY (X.H i) key).an false
 ·have hu : X.no < eG (lV R (ruI R key R.length)) (gY (X.H i) key).an true := Int.lt_of_lt_of_le hf (Gv hrs); rw [if_pos ⟨ho, by rw [eM, eD]; exact hf⟩, if_pos ⟨ho, hu⟩, if_pos hf]; have e : D.uq i s key ⟨ge, ak⟩ = ((((D.dQ ⟨ge, ak⟩ 1).bz i (dC (aj s))).takeD i (dC (aj s)) key).aQ ⟨ge, ak⟩ { (gY (X.H i) key).an with fr := (C.getD i default).na }) := by
   unfold Day.uq; rw [um, ul, l9, tA]
  rw [e]; exact Sim.give (w := ⟨ge, ak, 1⟩) (GIV dC yO 1 (fun t => rfl) ho) (GIVX yO 1)
 ·rw [if_neg (fun e => hf (by rw [← eM, ← eD]; exact e.2))]; by_cases hu : X.no < eG (lV R (ruI R key R.length)) (gY (X.H i) key).an true
  ·rw [if_pos ⟨ho, by rw [eM, eD]; exact hu⟩, if_pos ⟨ho, hu⟩, if_neg hf, eD]; have hjl : ∀ j, ak = some j → j < X.ak.length := fun j hj => (hx.wk _ (List.mem_cons_self ..) j hj).1
   have h1 := Sim.give (w := ⟨ge, ak, 2⟩) (a := { (gY (X.H i) key).an with fr := (C.getD i default).na }) (GIV bK jB 2 (fun t => rfl) ho) (GIVX jB 2); have e : ((D.jk i s key ⟨ge, ak⟩).lQ i key (fQ P key X.no)).dQ ⟨ge, ak⟩ 2 = ((((D.dQ ⟨ge, ak⟩ 2).bz i (bK (aj s))).takeD i (bK (aj s)) key).aQ ⟨ge, ak⟩ { (gY (X.H i) key).an with fr := (C.getD i default).na }).lQ i key (fQ P key X.no) := by
    unfold Day.jk; rw [CG, um, ul, l9, tA]
   rw [e]; obtain ⟨X1, hX1⟩ : ∃ X1, X1 = ((X.aO i dw).aO i jB).setH i (gz (X.H i) key X.no) := ⟨_, rfl⟩
   have hX1a : X1.ak = X.ak := by rw [hX1]; rfl
   have hX1l : X1.ld.length = C.length := by rw [hX1]; exact ((hx.ld i dw).ld i jB).le.2.1
   rw [← hX1] at h1 ⊢; obtain ⟨D2, hD2⟩ : ∃ D2, D2 = (((D.dQ ⟨ge, ak⟩ 2).bz i (bK (aj s))).takeD i (bK (aj s)) key).aQ ⟨ge, ak⟩ { (gY (X.H i) key).an with fr := (C.getD i default).na } := ⟨_, rfl⟩
   rw [← hD2] at h1 ⊢; obtain ⟨hs2, g2⟩ := h1.at_ hi; have ew : rV D2 (D2.S i).ar key (fQ P key X.no) = X.kD i key (fQ P key X.no) := by
    rw [h1.way g2.ar, yY (w := ⟨ge, ak, 2⟩) fun j hj => by rw [hX1a]; exact hjl j hj]; unfold Xd.kD Xd.K; rw [hX1a]
   unfold Day.lQ; rw [ew]; cases X.kD i key (fQ P key X.no) with
   | some j => exact h1
   | none =>
    show Sim C pd (D2.mG i (D2.S i) key true) _
    rw [← yX (w := ⟨ge, ak, 2⟩) fun j hj => by rw [hX1a]; exact hjl j hj]; refine h1.ask (al := false) ?_ hs2; unfold Xd.aI; cases ak with
    | none => exact hX1l
    | some j => exact hX1l
  ·rw [if_neg (fun e => hu (by rw [← eM, ← eD]; exact e.2)), if_neg (fun e => hu e.2)]; exact REST
end
end Go.Proofs.YtgohddfnhofjhaaGreatDoor

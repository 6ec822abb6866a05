/- slices.IndexFunc and its like, at one type. -/
import Derived.Test.YtehbmnkbmgnkfaaGreatDoorB10
import Derived.Test.YtehbmnkbmgnkfaaGreatDoorB15
import Derived.Test.YtehbmnkbmgnkfaaGreatDoorB07
namespace Go.Proofs.YtehbmnkbmgnkfaaGreatDoor
open Go.RowKit

/-- The first place at which p holds, or -1. -/
def fidxC (p : Cch → Bool) (l : List Cch) : Int := if l.findIdx p = l.length then -1 else (l.findIdx p : Nat)
theorem fidxC_hit {p : Cch → Bool} {l : List Cch} {k : Nat} {x : Cch} (hx : l[k]? = some x) (h : p x = true) (hn : ∀ (j : Nat) y, l[j]? = some y → j < k → p y = false) : fidxC p l = k ∧ l.findIdx p = k := by
  obtain ⟨hk, rfl⟩ := List.getElem?_eq_some_iff.1 hx
  have e : l.findIdx p = k := by
    rw [List.findIdx_eq hk]
    exact ⟨h, fun j hj => hn j _ (List.getElem?_eq_getElem (by omega)) hj⟩
  exact ⟨by rw [fidxC, e, if_neg (by omega)], e⟩
theorem fidxC_none {p : Cch → Bool} {l : List Cch} (hn : ∀ (j : Nat) y, l[j]? = some y → p y = false) : fidxC p l = -1 ∧ l.findIdx p = l.length := by
  have e : l.findIdx p = l.length := by
    rw [List.findIdx_eq_length]
    intro x hx
    obtain ⟨j, hj, rfl⟩ := List.mem_iff_getElem.1 hx
    exact hn j _ (List.getElem?_eq_getElem hj)
  exact ⟨by rw [fidxC, if_pos e], e⟩
theorem fidxC_any (p : Cch → Bool) (l : List Cch) : decide (0 ≤ fidxC p l) = l.any p := by
  unfold fidxC
  by_cases h : l.findIdx p = l.length
  · rw [if_pos h]
    rw [List.findIdx_eq_length] at h
    have : l.any p = false := by rw [List.any_eq_false]; intro x hx; simp [h x hx]
    simp [this]
  · rw [if_neg h]
    have hlt : l.findIdx p < l.length := by have := List.findIdx_le_length (p := p) (xs := l); omega
    have : l.any p = true := List.any_eq_true.2 ⟨_, List.getElem_mem hlt, List.findIdx_getElem⟩
    simp [this]

/-- slices.IndexFunc, of whatever predicate that leaves what was there as it was. -/
theorem idxC (g : Nat) (lb : Array Value) (p : Cch → Bool) (w : World) (l : List Cch) (v : Value) (hl : Sl w 4 encC v l)
    (eg : ∀ args w, (callFunc g args).run Tryz.prog w = .ok (.enter g args) w)
    (hp : ∀ W x, x ∈ l → Below w.heap.size w W → Calls Tryz.prog g (#[.agg #[.string x.na, .string x.pa, .int .i64 x.de, .int .i64 x.ro]] ++ lb) W fun e w' => e = .returned (.bool (p x)) ∧ Below W.heap.size W w') :
    Calls Tryz.prog 64 #[v, .func (.func g) #[] lb] w fun e w' => e = .returned (.int .i64 (fidxC p l)) ∧ Below w.heap.size w w' := by
  obtain ⟨ao, cap, rfl, hcap, hmax, hnil, hel⟩ := hl
  unfold maxLen at hmax
  go_enter Tryz.func64, Tryz.ntmps64
  go_wp2
  go_loopg [5, 8] l.length (fun gg _ s8 wr => ∃ kk : Nat, kk ≤ l.length ∧ l.length - kk ≤ gg ∧ s8 = .int .i64 kk ∧ Aside (Below w.heap.size w wr) ∧ Aside (∀ j x, l[j]? = some x → j < kk → p x = false))
  case atStart => exact ⟨0, Nat.zero_le _, by omega, rfl, Below.refl _ w, fun j x _ hj => absurd hj (Nat.not_lt_zero _)⟩
  case round =>
    obtain ⟨kk, hkk, hg, rfl, BW, A⟩ := hrel
    by_cases hlt : kk < l.length
    · have hltz : (kk : Int) < (l.length : Int) := by omega
      obtain ⟨x, hx⟩ : ∃ x, l[kk]? = some x := ⟨l[kk], by simp [hlt]⟩
      obtain ⟨b, off, rfl, hc⟩ := hel kk x hx
      have hlt0 := World.block_lt_of_cell? w _ (hc 0 _ rfl)
      have c0 : wr.cell? ⟨b, off + kk * 4, none⟩ = some (.string x.na) := by have h := (BW.out.cell (p := ⟨b, off + kk * 4 + 0, none⟩) hlt0).trans (hc 0 _ rfl); simpa using h
      have c1 := (BW.out.cell (p := ⟨b, off + kk * 4 + 1, none⟩) hlt0).trans (hc 1 _ rfl)
      have c2 := (BW.out.cell (p := ⟨b, off + kk * 4 + 2, none⟩) hlt0).trans (hc 2 _ rfl)
      have c3 := (BW.out.cell (p := ⟨b, off + kk * 4 + 3, none⟩) hlt0).trans (hc 3 _ rfl)
      have hcall := hp wr x (List.mem_of_getElem? hx) BW.out
      have HX : Hid (l[kk]? = some x) := hx
      clear hx hc hel hp
      cases hq : p x with
      | true =>
        rw [hq] at hcall
        have hv := Lib.hid (fidxC_hit HX.out hq A.out).1
        go_wp2_with (go_at_fn g; refine hcall.mono ?_; rintro e w' ⟨rfl, hb'⟩)
        go_ret
        exact ⟨ret_int hv.out.symm, BW.out.thru hb'⟩
      | false =>
        rw [hq] at hcall
        go_wp2_with (go_at_fn g; refine hcall.mono ?_; rintro e w' ⟨rfl, hb'⟩)
        go_roundg (l.length - (kk + 1))
        case measure => omega
        case rel =>
          refine ⟨kk + 1, by omega, by omega, by go_num, BW.out.thru hb', (show Aside _ from fun j y hy hj => ?_)⟩
          by_cases e : j = kk
          · subst e
            have := HX.out.symm.trans hy
            simp at this; subst this; exact hq
          · exact A.out j y hy (by omega)
    · have hltz : ¬ (kk : Int) < (l.length : Int) := by omega
      have hv := Lib.hid (fidxC_none (p := p) (l := l) fun j y hy => A.out j y hy (by have := (List.getElem?_eq_some_iff.1 hy).1; omega)).1
      clear hel
      go_wp2
      go_ret
      exact ⟨ret_int hv.out.symm, BW.out⟩

theorem anyC (g : Nat) (lb : Array Value) (p : Cch → Bool) (w : World) (l : List Cch) (v : Value) (hl : Sl w 4 encC v l)
    (eg : ∀ args w, (callFunc g args).run Tryz.prog w = .ok (.enter g args) w)
    (hp : ∀ W x, x ∈ l → Below w.heap.size w W → Calls Tryz.prog g (#[.agg #[.string x.na, .string x.pa, .int .i64 x.de, .int .i64 x.ro]] ++ lb) W fun e w' => e = .returned (.bool (p x)) ∧ Below W.heap.size W w') :
    Calls Tryz.prog 38 #[v, .func (.func g) #[] lb] w fun e w' => e = .returned (.bool (l.any p)) ∧ Below w.heap.size w w' := by
  have hc := idxC g lb p w l v hl eg hp
  have ha := Lib.hid (fidxC_any p l)
  clear hp hl
  go_enter Tryz.func38, Tryz.ntmps38
  go_wp2_with (go_at_call 64; refine hc.mono ?_; rintro e w' ⟨rfl, hb'⟩)
  go_ret
  exact ⟨ret_bool ha.out, hb'⟩
end Go.Proofs.YtehbmnkbmgnkfaaGreatDoor

/- number: the walk; the caches of a new world. -/
namespace Go.Proofs.YtehbmnkbmgnkfaaGreatDoor
open Go.RowKit

/-- The number of a cache, or -1. -/
def cNum (C : List Cch) (n : ByteArray) : Int := fidxC (fun o => isC o n) C
theorem isNum (n : ByteArray) (y : Cch) (B : Nat) (W : World) (hc : W.cell? ⟨B, 0, none⟩ = some (.string n)) :
    Calls Tryz.prog 95 #[.agg #[.string y.na, .string y.pa, .int .i64 y.de, .int .i64 y.ro], .pointer (some ⟨B, 0, none⟩)] W fun e w' => e = .returned (.bool (isC y n)) ∧ Below W.heap.size W w' := by
  have hlt := World.block_lt_of_cell? W _ hc
  have hv : Hid ((y.na.toList == n.toList) = isC y n) := Lib.hid rfl
  go_enter Tryz.func95, Tryz.ntmps95
  go_wp2
  go_ret
  exact ⟨ret_bool hv.out, (Below.refl _ _).alloc (Nat.le_refl _) _⟩
theorem isPar (x y : Cch) (B : Nat) (W : World) (hc : W.cell? ⟨B, 1, none⟩ = some (.string x.pa)) :
    Calls Tryz.prog 65 #[.agg #[.string y.na, .string y.pa, .int .i64 y.de, .int .i64 y.ro], .pointer (some ⟨B, 0, none⟩)] W fun e w' => e = .returned (.bool (isC y x.pa)) ∧ Below W.heap.size W w' := by
  have hlt : B < W.heap.size := World.block_lt_of_cell? W _ hc
  have hv : Hid ((y.na.toList == x.pa.toList) = isC y x.pa) := Lib.hid rfl
  go_enter Tryz.func65, Tryz.ntmps65
  go_wp2
  go_ret
  exact ⟨ret_bool hv.out, (Below.refl _ _).alloc (Nat.le_refl _) _⟩
set_option maxRecDepth 100000 in
theorem number_any (w : World) (q : Nat) (C : List Cch) (vc : Value) (name : ByteArray) (h0 : w.cell? ⟨q, 0, none⟩ = some vc) (hC : Sl w 4 encC vc C) :
    Calls Tryz.prog 69 #[.pointer (some ⟨q, 0, none⟩), .string name] w fun e w' => e = .returned (.int .i64 (cNum C name)) ∧ Below w.heap.size w w' := by
  obtain ⟨w2, hw2⟩ : ∃ w2, w2 = w.alloc (.cells #[.string name] 9) := ⟨_, rfl⟩
  have hb2 : Below w.heap.size w w2 := by rw [hw2]; exact (Below.refl _ w).alloc (Nat.le_refl _) _
  have hnb : w2.heap[w.heap.size]? = some (.cells #[.string name] 9 (0, 0)) := by rw [hw2]; exact block_new w _
  have HID := Lib.hid (idxC 95 #[.pointer (some ⟨w.heap.size, 0, none⟩)] (fun o => isC o name) w2 C vc (hC.below hb2 (Nat.le_refl _)) (enters_of Tryz.func95 (by kernel_rfl) rfl) (fun W y _ hb => isNum name y w.heap.size W (by
    rw [hb.cell (p := ⟨w.heap.size, 0, none⟩) (Array.getElem?_eq_some_iff.1 hnb).1]
    exact cellF hnb 0 rfl)))
  have q0 : w2.cell? ⟨q, 0, none⟩ = some vc := (hb2.cell (p := ⟨q, 0, none⟩) (World.block_lt_of_cell? w _ h0)).trans h0
  have HW2 := Lib.hid hw2
  have HB2 := Lib.hid hb2
  have HV : Hid (fidxC (fun o => isC o name) C = cNum C name) := Lib.hid rfl
  clear hw2 hb2 hnb hC h0
  go_enter Tryz.func69, Tryz.ntmps69
  go_upto_region 1 with (fail)
  rw [← HW2.out]
  go_wp2_with fail
  refine HID.out.mono ?_
  rintro e w3 ⟨rfl, hb3⟩
  have HB3 := Lib.hid (HB2.out.thru hb3)
  clear hb3
  go_wp2_with fail
  go_ret
  exact ⟨ret_int HV.out, HB3.out⟩

/-- A cache in which nothing has happened. -/
def stoOf (C : List Cch) (c : Cch) : Sto := ⟨c, cNum C c.pa, [], fun _ => default, [], ⟨0, 0, 0, 0, 0, 0⟩⟩
def day0 (st : List Sto) (many : Nat) : Day := ⟨st, [], [], fun _ => [], List.replicate many ⟨0, 0, 0, ⟨#[]⟩, 0⟩, 0, 0⟩
section
variable {W W5 : World} {B : Nat} {A : Adr} {D : Day}
theorem PD.start {q g many : Nat} {d0 d1 d2 d3 : Value} (hB : B ≤ W.heap.size) (hq : B ≤ q ∧ W.heap[q]? = some (.cells #[d0, d1, d2, d3, .slice none 0 0, .slice none 0 0, .int .i64 0, .slice (some ⟨g, 0, none⟩) many many, .int .i64 0] 78 (0, 0))) (hg : B ≤ g ∧ W.heap[g]? = some (.cells ((List.replicate many (⟨0, 0, 0, ⟨#[]⟩, 0⟩ : Gtn)).flatMap encN).toArray 57 (0, 0))) (hne : q ≠ g) (hm : many ≤ 1000) :
    ∃ A, PD W B A (day0 [] many) ∧ A.q = q ∧ A.d0 = d0 ∧ A.d1 = d1 ∧ A.d2 = d2 ∧ A.d3 = d3 ∧ A.x = [] ∧ A.sv = .slice none 0 0 := by
  refine ⟨⟨q, d0, d1, d2, d3, .slice none 0 0, .slice (some ⟨g, 0, none⟩) many many, .slice none 0 0, fun _ => 0, fun _ => 0, fun _ => 0, fun _ => .slice none 0 0, fun _ => .slice none 0 0, []⟩, ⟨fun r => if r = rWl then some (q, .cells #[d0, d1, d2, d3, .slice none 0 0, .slice none 0 0, .int .i64 0, .slice (some ⟨g, 0, none⟩) many many, .int .i64 0] 78 (0, 0)) else if r = rGo then some (g, .cells ((List.replicate many (⟨0, 0, 0, ⟨#[]⟩, 0⟩ : Gtn)).flatMap encN).toArray 57 (0, 0)) else none, ⟨?_, ?_, hB⟩, ?_⟩, rfl, rfl, rfl, rfl, rfl, rfl, rfl⟩
  · intro r b o h
    split at h
    · cases h; exact hq
    · split at h
      · cases h; exact hg
      · cases h
  · intro r s b o o' h h'
    split at h
    · rename_i e
      cases h
      split at h'
      · rename_i e'; rw [e, e']
      · split at h'
        · cases h'; exact absurd rfl hne
        · cases h'
    · split at h
      · rename_i e
        cases h
        split at h'
        · cases h'; exact absurd rfl hne
        · split at h'
          · rename_i e'; rw [e, e']
          · cases h'
      · cases h
  · have hl : ((List.replicate many (⟨0, 0, 0, ⟨#[]⟩, 0⟩ : Gtn)).flatMap encN).length = many * 5 := by
      rw [flatMap_len encN_len]; simp
    exact {
      wl := by rw [if_pos rfl]; rfl
      ss := .inl ⟨rfl, rfl, by rw [if_neg (by decide), if_neg (by decide)]⟩
      go := by
        rw [if_neg (by decide), if_pos rfl]
        refine .inr ⟨g, many, _, ?_, rfl, ?_, ?_, ?_, ?_⟩
        · show Value.slice (some ⟨g, 0, none⟩) many many = .slice (some ⟨g, 0, none⟩) (List.replicate many _).length many
          rw [List.length_replicate]
        · show (List.replicate many _).length ≤ many; simp
        · unfold maxLen; omega
        · simp [hl]
        · show List.take ((List.replicate many _).length * 5) _ = _
          rw [List.length_replicate]
          simp only []
          rw [List.take_of_length_le (by simp [hl])]
          rfl
      qu := .inl ⟨rfl, rfl, by rw [if_neg (by decide), if_neg (by decide)]⟩
      st := fun i s h => by cases h
      mp := fun i s h => by cases h
      sa := fun i s h => by cases h
      ak := fun i s h => by cases h
      wa := fun i s h => by cases h
      fx := fun k b o h => by cases h }
theorem PD.offSs (h : PD W B A D) : offB A.q A.sv := by
  obtain ⟨M, h1, h2⟩ := h
  exact OwnM.off h1 h2.ss h2.wl (by decide)
/-- One more cache. -/
theorem PD.addSt (h : PD W B A D) (hx : A.x = []) (s : Sto) (h1 : s.ks = []) (h2 : s.ar = []) {W2 : World} {mb sb : Nat} {mo : Obj} (hW2 : Below W.heap.size W W2) (hm : mb = W.heap.size ∧ W2.heap[mb]? = some mo ∧ MapO mo D.pu s.hm s.ks) (hs : sb = W.heap.size + 1 ∧ W2.heap[sb]? = some (.cells #[.string s.ch.na, .string s.ch.pa, .int .i64 s.ch.de, .int .i64 s.ch.ro, .int .i64 s.pa, .map (some mb), .slice none 0 0, .int .i64 s.ld.ca, .int .i64 s.ld.fr, .int .i64 s.ld.sl, .int .i64 s.ld.wt, .int .i64 s.ld.ak, .int .i64 s.ld.bs] 138 (0, 0))) {v5 : Value}
    (hown : Own W5 B 132 1 (encP (upF A.sb D.st.length sb)) v5 (List.range (D.st.length + 1))) (hsz : W2.heap.size ≤ W5.heap.size) (hk : KeepB W2 W5 A.sv v5) :
    ∃ A', PD (W5.setCell ⟨A.q, 4, none⟩ v5) B A' { D with st := D.st ++ [s] } ∧ A'.q = A.q ∧ A'.d0 = A.d0 ∧ A'.d1 = A.d1 ∧ A'.d2 = A.d2 ∧ A'.d3 = A.d3 ∧ A'.x = [] ∧ A'.sv = v5 := by
  obtain ⟨M, g1, g2⟩ := h
  obtain ⟨i, hi⟩ : ∃ i, i = D.st.length := ⟨_, rfl⟩
  rw [← hi] at hown
  have k1 := g1.below hW2
  have hnew : ∀ r b o, M r = some (b, o) → b < W.heap.size := fun r b o hr => g1.lt hr
  have k2 : Mm W2 B (upM M (rMp i) (some (mb, mo))) := k1.put (Nat.le_refl _) (by rw [hm.1]; exact g1.base) hm.2.1 (fun q b o _ hq => ⟨rfl, by have := hnew q b o hq; omega⟩)
  obtain ⟨so, hso⟩ : ∃ so : Array Value, so = #[.string s.ch.na, .string s.ch.pa, .int .i64 s.ch.de, .int .i64 s.ch.ro, .int .i64 s.pa, .map (some mb), .slice none 0 0, .int .i64 s.ld.ca, .int .i64 s.ld.fr, .int .i64 s.ld.sl, .int .i64 s.ld.wt, .int .i64 s.ld.ak, .int .i64 s.ld.bs] := ⟨_, rfl⟩
  rw [← hso] at hs
  have k3 : Mm W2 B (upM (upM M (rMp i) (some (mb, mo))) (rSt i) (some (sb, .cells so 138 (0, 0)))) := k2.put (Nat.le_refl _) (by have := g1.base; omega) hs.2 (fun q b o hne hq => ⟨rfl, by
    by_cases e : q = rMp i
    · subst e
      rw [upM_same] at hq
      cases hq
      omega
    · rw [upM_other _ _ e] at hq
      have := hnew q b o hq; omega⟩)
  have ha : (upM (upM M (rMp i) (some (mb, mo))) (rSt i) (some (sb, .cells so 138 (0, 0)))) rSs = M rSs := by rw [upM_other _ _ (by unfold rSt rSs; omega), upM_other _ _ (by unfold rMp rSs; omega)]
  obtain ⟨x, k4, k5⟩ := k3.grow (r := rSs) (by rw [ha]; exact g2.ss) hown hsz hk
  have k4d := k5.drop (W' := W5) (Nat.le_refl _) (r := rSa i) (fun _ _ _ _ _ => rfl)
  have k6 := k4d.set (r := rWl) (b := A.q) (cs := cellsW A D) (T := 78) (by rw [upM_other _ _ (by unfold rWl rSa; omega), upM_other _ _ (by decide), upM_other _ _ (by unfold rWl rSt; omega), upM_other _ _ (by unfold rWl rMp; omega)]; exact g2.wl) 4 v5
  have hS : ∀ (j : Nat) (t : Sto), D.st[j]? = some t → j < i := fun j t ht => by rw [hi]; exact (List.getElem?_eq_some_iff.1 ht).1
  refine ⟨{ A with sv := v5, sb := upF A.sb i sb, mb := upF A.mb i mb, av := upF A.av i (.slice none 0 0) }, ⟨_, k6, ?_⟩, rfl, rfl, rfl, rfl, rfl, hx, rfl⟩
  exact {
    wl := by rw [upM_same]; rfl
    ss := by
      rw [upM_other _ _ (by decide), upM_other _ _ (by unfold rSs rSa; omega), upM_same]
      show OwnM x _ _ _ v5 (List.range (D.st ++ [s]).length)
      rw [List.length_append, ← hi]
      exact (show List.range (i + 1) = List.range (D.st.length + 1) by rw [hi]) ▸ k4
    go := by rw [upM_other _ _ (by decide), upM_other _ _ (by unfold rGo rSa; omega), upM_other _ _ (by decide), upM_other _ _ (by unfold rSt rGo; omega), upM_other _ _ (by unfold rMp rGo; omega)]; exact g2.go
    qu := by rw [upM_other _ _ (by decide), upM_other _ _ (by unfold rQu rSa; omega), upM_other _ _ (by decide), upM_other _ _ (by unfold rSt rQu; omega), upM_other _ _ (by unfold rMp rQu; omega)]; exact g2.qu
    st := fun j t ht => by
      rw [upM_other _ _ (by unfold rSt rWl; omega), upM_other _ _ (by unfold rSt rSa; omega), upM_other _ _ (by unfold rSt rSs; omega)]
      rcases push_at ht with ⟨e, rfl⟩ | ⟨hj, ht⟩
      · rw [← hi] at e
        subst e
        rw [upM_same, hso]
        show _ = some (upF A.sb j sb j, Obj.cells (cellsS _ j t) _ _)
        unfold cellsS
        simp only [upF_same]
      · rw [← hi] at hj
        rw [upM_other _ _ (by unfold rSt; omega), upM_other _ _ (by unfold rSt rMp; omega)]
        show _ = some (upF A.sb i sb j, Obj.cells (cellsS _ j t) _ _)
        unfold cellsS
        simp only [upF_other _ _ (Nat.ne_of_lt hj)]
        exact g2.st j t ht
    mp := fun j t ht => by
      rw [upM_other _ _ (by unfold rMp rWl; omega), upM_other _ _ (by unfold rMp rSa; omega), upM_other _ _ (by unfold rMp rSs; omega), upM_other _ _ (by unfold rMp rSt; omega)]
      rcases push_at ht with ⟨e, rfl⟩ | ⟨hj, ht⟩
      · rw [← hi] at e
        subst e
        rw [upM_same]
        refine ⟨mo, ?_, hm.2.2⟩
        show _ = some (upF A.mb j mb j, _)
        rw [upF_same]
      · rw [← hi] at hj
        rw [upM_other _ _ (by unfold rMp; omega)]
        show ∃ o, _ = some (upF A.mb i mb j, o) ∧ _
        rw [upF_other _ _ (Nat.ne_of_lt hj)]
        exact g2.mp j t ht
    sa := fun j t ht => by
      rw [upM_other _ _ (by unfold rSa rWl; omega)]
      rcases push_at ht with ⟨e, rfl⟩ | ⟨hj, ht⟩
      · rw [← hi] at e
        subst e
        rw [upM_same]
        show OwnM none _ _ _ (upF A.av j _ j) t.ar
        rw [upF_same, h2]
        exact .inl ⟨rfl, rfl, rfl⟩
      · rw [← hi] at hj
        rw [upM_other _ _ (by unfold rSa; omega), upM_other _ _ (by unfold rSa rSs; omega), upM_other _ _ (by unfold rSa rSt; omega), upM_other _ _ (by unfold rSa rMp; omega)]
        show OwnM _ _ _ _ (upF A.av i _ j) t.ar
        rw [upF_other _ _ (Nat.ne_of_lt hj)]
        exact g2.sa j t ht
    ak := fun j k hk => by rw [upM_other _ _ (by unfold rAk rWl; omega), upM_other _ _ (by unfold rAk rSa; omega), upM_other _ _ (by unfold rAk rSs; omega), upM_other _ _ (by unfold rAk rSt; omega), upM_other _ _ (by unfold rAk rMp; omega)]; exact g2.ak j k hk
    wa := fun j k hk => by rw [upM_other _ _ (by unfold rWa rWl; omega), upM_other _ _ (by unfold rWa rSa; omega), upM_other _ _ (by unfold rWa rSs; omega), upM_other _ _ (by unfold rWa rSt; omega), upM_other _ _ (by unfold rWa rMp; omega)]; exact g2.wa j k hk
    fx := fun k b o hk => by
      have hk' : A.x[k]? = some (b, o) := hk
      rw [hx] at hk'
      cases hk' }
end
end Go.Proofs.YtehbmnkbmgnkfaaGreatDoor

/- What happens, step by step: the machine of the program, plain. -/
namespace Go.Proofs.YtehbmnkbmgnkfaaGreatDoor
open Go.RowKit

inductive Mod where
  | out | pur | bak | get | arr
structure Cfg where
  m : Mod
  D : Day
  g : Nat
  p : Nat
/-- The event that is first. -/
def hdE (D : Day) : Evn := hat D.qu 0
def nxt1 (D : Day) (lim : Int) : Int := if 0 < D.qu.length then min (lim + 1) (hdE D).ti else lim + 1
def nxt2 (D : Day) (L : List Gt) (g : Nat) (lim : Int) : Int := if g < L.length then min (nxt1 D lim) (L.getD g default).ti else nxt1 D lim
/-- When something happens next. -/
def nxtD (D : Day) (L : List Gt) (P : List Pur) (g p : Nat) (lim : Int) : Int := if p < P.length then min (nxt2 D L g lim) (P.getD p default).ti else nxt2 D L g lim
section
variable (C : List Cch) (R : List Crl) (E : List Rel) (P : List Pur) (L : List Gt) (lim : Int)
def purgeDue (c : Cfg) : Prop := c.p < P.length ∧ (P.getD c.p default).ti = c.D.no
def getDue (c : Cfg) : Prop := c.g < L.length ∧ (L.getD c.g default).ti = c.D.no
def headDue (c : Cfg) : Prop := 0 < c.D.qu.length ∧ (hdE c.D).ti = c.D.no
instance (c : Cfg) : Decidable (purgeDue P c) := by unfold purgeDue; infer_instance
instance (c : Cfg) : Decidable (getDue L c) := by unfold getDue; infer_instance
instance (c : Cfg) : Decidable (headDue c) := by unfold headDue; infer_instance
def getI (c : Cfg) : Nat := (cNum C (L.getD c.g default).ca).toNat
/-- One step. -/
def Cfg.next (c : Cfg) : Option Cfg :=
  match c.m with
  | .out => if lim < nxtD c.D L P c.g c.p lim then none else some { c with m := .pur, D := c.D.nowD (nxtD c.D L P c.g c.p lim) }
  | .pur => if purgeDue P c then some { c with D := c.D.purD (P.getD c.p default).ke, p := c.p + 1 } else some { c with m := .bak }
  | .bak => if headDue c ∧ (hdE c.D).bk = true then some { c with D := c.D.popD.backD R P (hdE c.D).ak (hdE c.D).an } else some { c with m := .get }
  | .get => if getDue L c then some { c with D := c.D.cameD R P (getI C L c) (c.D.S (getI C L c)) (L.getD c.g default).ke ⟨c.g, none⟩, g := c.g + 1 } else some { c with m := .arr }
  | .arr => if headDue c then some { c with D := c.D.popD.arrD R E P (hdE c.D).ak } else some { c with m := .out }
/-- Something is still to be done at this time. -/
def due (c : Cfg) : Prop :=
  match c.m with
  | .out => False
  | .pur => purgeDue P c ∨ headDue c ∨ getDue L c
  | .bak => headDue c ∨ getDue L c
  | .get => headDue c ∨ getDue L c
  | .arr => headDue c
/-- What holds while all happens; k: what is left to be done. -/
structure RunInv (I : Nat → Cfg → Prop) : Prop where
  fit : ∀ k c, I k c → ∃ n, n ≤ 310000 ∧ Fit n c.D
  step : ∀ k c c', I k c → c.next C R E P L lim = some c' → ∃ k', I k' c' ∧ k' ≤ k ∧ (c'.m = c.m → k' < k)
  back : ∀ k c, I k c → c.m = .bak → headDue c → (hdE c.D).bk = true → (hdE c.D).ak ∈ (c.D.S (c.D.K (hdE c.D).ak).ca).ar
  get : ∀ k c, I k c → c.m = .get → getDue L c → ∃ i : Nat, cNum C (L.getD c.g default).ca = (i : Int) ∧ i < c.D.st.length ∧ (L.getD c.g default).ke.size ≤ 300 ∧ c.g < c.D.go.length
  par : ∀ k c, I k c → c.m = .arr → headDue c → (c.D.S (c.D.K (hdE c.D).ak).ca).pa < c.D.st.length
  pos : ∀ k c, I k c → c.g ≤ L.length ∧ c.p ≤ P.length ∧ c.D.st.length ≤ 1000
theorem due_step {I : Nat → Cfg → Prop} (h : RunInv C R E P L lim I) {k k0 : Nat} {c c' : Cfg} (hI : I k c) (hk : k ≤ k0) (hd : c.m ≠ .out → k < k0 ∨ due P L c) (hn : c.next C R E P L lim = some c') :
    ∃ k', I k' c' ∧ k' ≤ k0 ∧ (k' < k0 ∨ due P L c') := by
  obtain ⟨k', h1, h2, h3⟩ := h.step k c c' hI hn
  refine ⟨k', h1, by omega, ?_⟩
  obtain ⟨m, D, g, p⟩ := c
  cases m with
  | out =>
    right
    unfold Cfg.next at hn
    dsimp only at hn
    split at hn
    · cases hn
    · rename_i hlim
      cases hn
      show purgeDue P _ ∨ headDue _ ∨ getDue L _
      unfold purgeDue headDue getDue
      show (p < P.length ∧ (P.getD p default).ti = nxtD D L P g p lim) ∨ (0 < D.qu.length ∧ (hdE D).ti = nxtD D L P g p lim) ∨ (g < L.length ∧ (L.getD g default).ti = nxtD D L P g p lim)
      revert hlim
      unfold nxtD nxt2 nxt1
      split <;> split <;> split <;> omega
  | pur =>
    have hd := hd (by simp)
    unfold Cfg.next at hn
    dsimp only at hn
    split at hn
    · cases hn
      exact .inl (by have := h3 rfl; omega)
    · rename_i hp
      cases hn
      rcases hd with hd | hd
      · exact .inl (by omega)
      · rcases hd with hd | hd
        · exact absurd hd hp
        · exact .inr hd
  | bak =>
    have hd := hd (by simp)
    unfold Cfg.next at hn
    dsimp only at hn
    split at hn
    · cases hn
      exact .inl (by have := h3 rfl; omega)
    · cases hn
      rcases hd with hd | hd
      · exact .inl (by omega)
      · exact .inr hd
  | get =>
    have hd := hd (by simp)
    unfold Cfg.next at hn
    dsimp only at hn
    split at hn
    · cases hn
      exact .inl (by have := h3 rfl; omega)
    · rename_i hp
      cases hn
      rcases hd with hd | hd
      · exact .inl (by omega)
      · rcases hd with hd | hd
        · exact .inr hd
        · exact absurd hd hp
  | arr =>
    have hd := hd (by simp)
    unfold Cfg.next at hn
    dsimp only at hn
    split at hn
    · cases hn
      exact .inl (by have := h3 rfl; omega)
    · rename_i hp
      cases hn
      rcases hd with hd | hd
      · exact .inl (by omega)
      · exact absurd hd hp
end
/-- A purge has come to so many caches. -/
def Day.purU (D : Day) (key : ByteArray) (i : Nat) : Day := { D with st := ((D.st.take i).map fun s => { s with ks := rmv key s.ks }) ++ D.st.drop i }
theorem Day.purU_zero (D : Day) (key : ByteArray) : D.purU key 0 = D := by unfold Day.purU; simp
theorem Day.purU_all (D : Day) (key : ByteArray) : D.purU key D.st.length = D.purD key := by unfold Day.purU Day.purD; simp
theorem Day.purU_len {D : Day} {key : ByteArray} {i : Nat} : (D.purU key i).st.length = D.st.length := by unfold Day.purU; simp; omega
theorem Day.purU_at {D : Day} {key : ByteArray} {i : Nat} (h : i < D.st.length) : (D.purU key i).st[i]? = some (D.S i) := by
  unfold Day.purU
  show (_ ++ _)[i]? = _
  rw [List.getElem?_append_right (by simp; omega)]
  rw [List.length_map, List.length_take, Nat.min_eq_left (Nat.le_of_lt h), Nat.sub_self, List.getElem?_drop, Nat.add_zero]
  exact Day.at_ h
theorem Day.purU_next {D : Day} {key : ByteArray} {i : Nat} (h : i < D.st.length) : { D.purU key i with st := (D.purU key i).st.set i { D.S i with ks := rmv key (D.S i).ks }, pu := D.pu } = D.purU key (i + 1) := by
  unfold Day.purU
  simp only [Day.mk.injEq, and_true]
  have hs := Day.at_ h
  have e : D.st.drop i = D.S i :: D.st.drop (i + 1) := by
    rw [List.drop_eq_getElem_cons h]
    congr 1
    rw [List.getElem?_eq_getElem h] at hs
    exact Option.some.inj hs
  rw [e, List.take_add_one, hs, List.map_append, List.append_assoc, List.set_append_right _ _ (by simp; omega)]
  simp [Nat.min_eq_left (Nat.le_of_lt h)]
theorem hpop_sub {K : Nat → Akn} {l : List Evn} (h : l ≠ []) {e : Evn} (he : e ∈ (hpop (bfr K) l).2) : e ∈ l := (hpop_perm h).subset (List.mem_cons_of_mem _ he)
theorem hpop_len {K : Nat → Akn} {l : List Evn} (h : l ≠ []) : (hpop (bfr K) l).2.length + 1 = l.length := by
  have := (hpop_perm (lt := bfr K) h).length_eq
  simpa using this
theorem Fit.pop {n : Nat} {D : Day} (h : Fit n D) (hq : 0 < D.qu.length) : Fit n D.popD := by
  have hne : D.qu ≠ [] := List.length_pos_iff.1 hq
  have hl := hpop_len (K := D.K) hne
  exact { h with
    num := ⟨fun e he => h.num.qu e (hpop_sub hne he), h.num.ar, h.num.wa⟩
    qu := by show (hpop (bfr D.K) D.qu).2.length ≤ n; have := h.qu; omega
    qa := fun e he => h.qa e (hpop_sub hne he) }
theorem Day.keepD_no {D : Day} {R : List Crl} {P : List Pur} {i : Nat} {s : Sto} {key : ByteArray} {x : Ans} : (D.keepD R P i s key x).no = D.no := by
  unfold Day.keepD
  split
  · rfl
  · split <;> rfl
theorem Day.backD_no {D : Day} {R : List Crl} {P : List Pur} {j : Nat} {x : Ans} : (D.backD R P j x).no = D.no := by
  have h := (gives_same x (D.wa j) (D.setS (D.K j).ca (doneS (D.S (D.K j).ca) j x.si))).no
  unfold Day.backD
  dsimp only
  split
  · rw [Day.keepD_no]; exact h
  · exact h
theorem howD_no {D : Day} {f : Wtr} {h : Int} : (D.howD f h).no = D.no := by
  unfold Day.howD
  cases f.ak <;> rfl
theorem Day.cameD_no {D : Day} {R : List Crl} {P : List Pur} {i : Nat} {s : Sto} {key : ByteArray} {f : Wtr} : (D.cameD R P i s key f).no = D.no := by
  unfold Day.cameD
  split
  · unfold Day.newD; rw [howD_no]; rfl
  · split
    · unfold Day.freshD; rw [howD_no, giveD_no]; rfl
    · split
      · rw [howD_no]
        unfold Day.moreD
        split
        · unfold Day.staleG; rw [giveD_no]; rfl
        · show (Day.staleG _ _ _ _ _).no = _
          unfold Day.staleG; rw [giveD_no]; rfl
      · split
        · unfold Day.joinD; rw [howD_no]; rfl
        · unfold Day.newD; rw [howD_no]; rfl
theorem Day.arrD_no {D : Day} {R : List Crl} {E : List Rel} {P : List Pur} {j : Nat} : (D.arrD R E P j).no = D.no := by
  unfold Day.arrD
  split
  · exact Day.cameD_no
  · exact giveD_no
theorem hdE_mem {D : Day} (hq : 0 < D.qu.length) : hdE D ∈ D.qu := hat_mem hq
end Go.Proofs.YtehbmnkbmgnkfaaGreatDoor

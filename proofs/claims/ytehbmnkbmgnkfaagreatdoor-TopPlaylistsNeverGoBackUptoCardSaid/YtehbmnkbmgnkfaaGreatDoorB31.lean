/- One edge at the origin, one live list: what Serve gives goes on (plain). -/
import Derived.Test.YtehbmnkbmgnkfaaGreatDoorB26
import Derived.Test.YtehbmnkbmgnkfaaGreatDoorB30
import Derived.Shelf.Strings.Builder1
import Derived.Test.YtehbmnkbmgnkfaaGreatDoorProg
import Derived.Test.YtehbmnkbmgnkfaaGreatDoorB28
namespace Go.Proofs.YtehbmnkbmgnkfaaGreatDoor
open Go.RowKit

/-- The releases of a live list. -/
structure Live (E : List Rel) (pace : Int) : Prop where
  pos : 0 < E.length
  at_ : ∀ (i : Nat) (x : Rel), E[i]? = some x → x.ke = kLive ∧ x.ti = i * pace ∧ x.go = false
section
variable {E : List Rel} {pace : Int} {C : List Cch} {R : List Crl} {L : List Gt} {X : Xd}
theorem live_veI (h : Live E pace) (_hp : 1 ≤ pace) (t : Int) (ht : 0 ≤ t) : ∀ n : Nat, 0 < n → n ≤ E.length → ∃ j : Nat, j < n ∧ veI E kLive t n = some j ∧ (j : Int) * pace ≤ t ∧ ∀ k : Nat, k < n → (k : Int) * pace ≤ t → k ≤ j := by
  intro n
  induction n with
  | zero => intro h0; exact absurd h0 (Nat.lt_irrefl _)
  | succ n ih =>
    intro _ hn
    obtain ⟨x, hx⟩ : ∃ x, E[n]? = some x := ⟨E[n], by simp⟩
    obtain ⟨h1, h2, h3⟩ := h.at_ n x hx
    have e : veI E kLive t (n + 1) = if (n : Int) * pace ≤ t then some n else veI E kLive t n := by
      rw [veI, getD_of hx, h1, h2]
      simp
    rw [e]
    by_cases hc : (n : Int) * pace ≤ t
    · rw [if_pos hc]
      exact ⟨n, Nat.lt_succ_self n, rfl, hc, fun k hk _ => Nat.lt_succ_iff.1 hk⟩
    · rw [if_neg hc]
      have hn0 : 0 < n := by
        rcases Nat.eq_zero_or_pos n with h0 | h0
        · subst h0; simp at hc; omega
        · exact h0
      obtain ⟨j, g1, g2, g3, g4⟩ := ih hn0 (by omega)
      refine ⟨j, by omega, g2, g3, fun k hk hkp => ?_⟩
      by_cases ek : k = n
      · subst ek; exact absurd hkp hc
      · exact g4 k (by omega) hkp
/-- The number of the release that is there at a time. -/
def atJ (E : List Rel) (t : Int) : Nat := (veI E kLive t E.length).getD 0
theorem live_at (h : Live E pace) (hp : 1 ≤ pace) {t : Int} (ht : 0 ≤ t) : atJ E t < E.length ∧ (oriM E kLive t).no = false ∧ (oriM E kLive t).ve = (atJ E t : Int) * pace ∧ (atJ E t : Int) * pace ≤ t ∧ ∀ k : Nat, k < E.length → (k : Int) * pace ≤ t → k ≤ atJ E t := by
  obtain ⟨j, h1, h2, h3, h4⟩ := live_veI h hp t ht E.length h.pos (Nat.le_refl _)
  have ej : atJ E t = j := by unfold atJ; rw [h2]; rfl
  obtain ⟨x, hx⟩ : ∃ x, E[j]? = some x := ⟨E[j], by simp [h1]⟩
  obtain ⟨k1, k2, k3⟩ := h.at_ j x hx
  have ev : veO E kLive t = some j := by
    unfold veO
    rw [h2]
    have : (outL E (some j)).go = false := by show (E.getD j default).go = false; rw [getD_of hx]; exact k3
    rw [this, if_neg (by simp)]
  rw [ej]
  refine ⟨h1, ?_, ?_, h3, h4⟩
  · unfold oriM; rw [ev]; rfl
  · unfold oriM
    rw [ev]
    show (E.getD j default).ti = _
    rw [getD_of hx]; exact k2
theorem live_mono (h : Live E pace) (hp : 1 ≤ pace) {s t : Int} (hs : 0 ≤ s) (hst : s ≤ t) : atJ E s ≤ atJ E t := by
  obtain ⟨h1, _, _, h4, _⟩ := live_at h hp hs
  exact (live_at h hp (Int.le_trans hs hst)).2.2.2.2 _ h1 (Int.le_trans h4 hst)
theorem live_one (h : Live E pace) (hp : 1 ≤ pace) {de ro li st go : Int} (hl : ∀ g, g ∈ L → g.ca = nEdge ∧ g.ke = kLive) : One [⟨nEdge, ⟨#[]⟩, de, ro⟩] [⟨pLive, li, st, go⟩] E L kLive where
  pa := by
    unfold parO cNum fidxC isC
    simp [List.findIdx_cons]
  lk := fun g hg => by
    obtain ⟨h1, h2⟩ := hl g hg
    refine ⟨?_, h2⟩
    rw [h1]
    unfold cNum fidxC isC
    simp [List.findIdx_cons]
  rl := by
    have : hpB kLive pLive = true := by decide +kernel
    simp [ruI, this]
  nn := fun t ht => (live_at h hp ht).2.1
/-- What Serve gives. -/
theorem live_law (h : Live E pace) (hp : 1 ≤ pace) {de ro li st go : Int} (hl : ∀ g, g ∈ L → g.ca = nEdge ∧ g.ke = kLive)
    (hc : checkS [⟨nEdge, ⟨#[]⟩, de, ro⟩] [⟨pLive, li, st, go⟩] E [] L = 0) (hx : EndX [⟨nEdge, ⟨#[]⟩, de, ro⟩] [⟨pLive, li, st, go⟩] E [] L 1152921504606846976 X) :
    X.go.length = L.length ∧ ∃ m : Nat → Nat, (∀ (i : Nat) (g : Gt) (x : Gtn), L[i]? = some g → X.go[i]? = some x → m i < E.length ∧ x.ve = (m i : Int) * pace ∧ g.ti ≤ x.ti) ∧ ∀ i j : Nat, i ≤ j → j < L.length → m i ≤ m j := by
  have hv := val_of hc
  have o := live_one (li := li) (st := st) (go := go) (de := de) (ro := ro) h hp hl
  have hd := hx.done hv
  have hg := hx.ginv hv
  have hlen := hx.inv.le.2.2.1
  have hb : ∀ i, i < L.length → 0 ≤ (X.G i).bo := fun i hi => by
    have h1 := hg.gb i _ (List.getElem?_eq_getElem (by omega))
    unfold Xd.G
    rw [List.getD_eq_getElem?_getD, List.getElem?_eq_getElem (by omega)]
    exact h1.1
  refine ⟨hlen, fun i => atJ E (X.G i).bo, fun i g x hgi hxi => ?_, fun i j hij hj => ?_⟩
  · have hi : i < L.length := (List.getElem?_eq_some_iff.1 hgi).1
    have hok := hg.ga i (by rw [hd.nx]; exact hi) (fun w hw => by rw [hd.wt] at hw; cases hw)
    have e1 : L.getD i default = g := getD_of hgi
    have e2 : X.G i = x := by unfold Xd.G; exact getD_of hxi
    rw [e1, e2] at hok
    have hke := (hl g (List.mem_of_getElem? hgi)).2
    have h2 := hok.ve
    rw [hke] at h2
    have hb2 := hb i hi
    show atJ E (X.G i).bo < E.length ∧ x.ve = (atJ E (X.G i).bo : Int) * pace ∧ g.ti ≤ x.ti
    rw [e2] at hb2 ⊢
    obtain ⟨k1, _, k3, _⟩ := live_at h hp hb2
    exact ⟨k1, h2.trans k3, hok.ti⟩
  · exact live_mono h hp (hb i (by omega)) (hx.mono o hv (by simp) hij hj)
end
end Go.Proofs.YtehbmnkbmgnkfaaGreatDoor

/- strings.Builder at this seat: its bodies and types. -/
namespace Go.Proofs
open Go.Shelf
def Tryz.laysB_ren : Go.Shelf.Ren := ⟨fun | 166 => 23 | 167 => 24 | 169 => 29 | 240 => 49 | 276 => 77 | n => n, fun | 0 => 0 | 3 => 3 | 4 => 4 | 5 => 5 | 9 => 9 | 20 => 20 | 37 => 85 | 70 => 84 | 72 => 87 | 75 => 89 | 127 => 123 | 164 => 159 | 80 => 98 | n => n, fun | n => n⟩
theorem Tryz.laysB166 : Go.Proofs.Lays.n166 Tryz.prog Tryz.laysB_ren := {
  mixed := by kernel_rfl
  f166 := Tryz.func23.trans (congrArg some (by kernel_rfl))
  f240 := Tryz.func49.trans (congrArg some (by kernel_rfl))
  f276 := Tryz.func77.trans (congrArg some (by kernel_rfl))
  t0 := Tryz.underlying0
  a0 := Tryz.isAgg0
  z0 := Tryz.sizeOf0
  v0 := Tryz.zeroValue0
  t3 := Tryz.underlying3
  a3 := Tryz.isAgg3
  z3 := Tryz.sizeOf3
  v3 := Tryz.zeroValue3
  t4 := Tryz.underlying4
  a4 := Tryz.isAgg4
  z4 := Tryz.sizeOf4
  v4 := Tryz.zeroValue4
  t9 := Tryz.underlying9
  a9 := Tryz.isAgg9
  z9 := Tryz.sizeOf9
  v9 := Tryz.zeroValue9
  t20 := Tryz.underlying20
  a20 := Tryz.isAgg20
  z20 := Tryz.sizeOf20
  v20 := Tryz.zeroValue20
  t37 := Tryz.underlying85
  a37 := Tryz.isAgg85
  z37 := Tryz.sizeOf85
  v37 := Tryz.zeroValue85
  t70 := Tryz.underlying84
  a70 := Tryz.isAgg84
  z70 := Tryz.sizeOf84
  v70 := Tryz.zeroValue84
  t72 := Tryz.underlying87
  a72 := Tryz.isAgg87
  z72 := Tryz.sizeOf87
  v72 := Tryz.zeroValue87
  t75 := Tryz.underlying89
  a75 := Tryz.isAgg89
  z75 := Tryz.sizeOf89
  v75 := Tryz.zeroValue89
  t164 := Tryz.underlying159
  a164 := Tryz.isAgg159
  z164 := Tryz.sizeOf159
  v164 := Tryz.zeroValue159 }
theorem Tryz.laysB167 : Go.Proofs.Lays.n167 Tryz.prog Tryz.laysB_ren := {
  mixed := by kernel_rfl
  f167 := Tryz.func24.trans (congrArg some (by kernel_rfl))
  f240 := Tryz.func49.trans (congrArg some (by kernel_rfl))
  f276 := Tryz.func77.trans (congrArg some (by kernel_rfl))
  t0 := Tryz.underlying0
  a0 := Tryz.isAgg0
  z0 := Tryz.sizeOf0
  v0 := Tryz.zeroValue0
  t4 := Tryz.underlying4
  a4 := Tryz.isAgg4
  z4 := Tryz.sizeOf4
  v4 := Tryz.zeroValue4
  t5 := Tryz.underlying5
  a5 := Tryz.isAgg5
  z5 := Tryz.sizeOf5
  v5 := Tryz.zeroValue5
  t9 := Tryz.underlying9
  a9 := Tryz.isAgg9
  z9 := Tryz.sizeOf9
  v9 := Tryz.zeroValue9
  t20 := Tryz.underlying20
  a20 := Tryz.isAgg20
  z20 := Tryz.sizeOf20
  v20 := Tryz.zeroValue20
  t37 := Tryz.underlying85
  a37 := Tryz.isAgg85
  z37 := Tryz.sizeOf85
  v37 := Tryz.zeroValue85
  t70 := Tryz.underlying84
  a70 := Tryz.isAgg84
  z70 := Tryz.sizeOf84
  v70 := Tryz.zeroValue84
  t72 := Tryz.underlying87
  a72 := Tryz.isAgg87
  z72 := Tryz.sizeOf87
  v72 := Tryz.zeroValue87
  t75 := Tryz.underlying89
  a75 := Tryz.isAgg89
  z75 := Tryz.sizeOf89
  v75 := Tryz.zeroValue89
  t164 := Tryz.underlying159
  a164 := Tryz.isAgg159
  z164 := Tryz.sizeOf159
  v164 := Tryz.zeroValue159 }
theorem Tryz.laysB169 : Go.Proofs.Lays.n169 Tryz.prog Tryz.laysB_ren := {
  mixed := by kernel_rfl
  f169 := Tryz.func29.trans (congrArg some (by kernel_rfl))
  t0 := Tryz.underlying0
  a0 := Tryz.isAgg0
  z0 := Tryz.sizeOf0
  v0 := Tryz.zeroValue0
  t3 := Tryz.underlying3
  a3 := Tryz.isAgg3
  z3 := Tryz.sizeOf3
  v3 := Tryz.zeroValue3
  t9 := Tryz.underlying9
  a9 := Tryz.isAgg9
  z9 := Tryz.sizeOf9
  v9 := Tryz.zeroValue9
  t37 := Tryz.underlying85
  a37 := Tryz.isAgg85
  z37 := Tryz.sizeOf85
  v37 := Tryz.zeroValue85
  t70 := Tryz.underlying84
  a70 := Tryz.isAgg84
  z70 := Tryz.sizeOf84
  v70 := Tryz.zeroValue84
  t72 := Tryz.underlying87
  a72 := Tryz.isAgg87
  z72 := Tryz.sizeOf87
  v72 := Tryz.zeroValue87
  t127 := Tryz.underlying123
  a127 := Tryz.isAgg123
  z127 := Tryz.sizeOf123
  v127 := Tryz.zeroValue123 }
theorem Tryz.laysB240 : Go.Proofs.Lays.n240 Tryz.prog Tryz.laysB_ren := {
  mixed := by kernel_rfl
  f240 := Tryz.func49.trans (congrArg some (by kernel_rfl))
  f276 := Tryz.func77.trans (congrArg some (by kernel_rfl))
  t0 := Tryz.underlying0
  a0 := Tryz.isAgg0
  z0 := Tryz.sizeOf0
  v0 := Tryz.zeroValue0
  t4 := Tryz.underlying4
  a4 := Tryz.isAgg4
  z4 := Tryz.sizeOf4
  v4 := Tryz.zeroValue4
  t9 := Tryz.underlying9
  a9 := Tryz.isAgg9
  z9 := Tryz.sizeOf9
  v9 := Tryz.zeroValue9
  t20 := Tryz.underlying20
  a20 := Tryz.isAgg20
  z20 := Tryz.sizeOf20
  v20 := Tryz.zeroValue20
  t70 := Tryz.underlying84
  a70 := Tryz.isAgg84
  z70 := Tryz.sizeOf84
  v70 := Tryz.zeroValue84
  t72 := Tryz.underlying87
  a72 := Tryz.isAgg87
  z72 := Tryz.sizeOf87
  v72 := Tryz.zeroValue87
  t164 := Tryz.underlying159
  a164 := Tryz.isAgg159
  z164 := Tryz.sizeOf159
  v164 := Tryz.zeroValue159 }
theorem Tryz.extraB : Builder.Extra Tryz.prog Tryz.laysB_ren := {
  sizeBuilder := by kernel_rfl
  liesBuilder := by kernel_rfl
  t5 := Tryz.underlying5
  a5 := Tryz.isAgg5
  z5 := Tryz.sizeOf5
  v5 := Tryz.zeroValue5
  infoByte := by kernel_rfl
  cellsByte := by kernel_rfl
  sizeByte := by kernel_rfl
  neB5 := by decide }
end Go.Proofs

/- A strings.Builder of the call's own, among other blocks: what writing keeps. -/
namespace Go.Proofs.YtehbmnkbmgnkfaaGreatDoor
open Go.RowKit Go.Lib Go.Shelf

/-- Blocks of other types than those of builders are as they were. -/
def KpW (w w' : World) : Prop := ∀ (b : Nat) (c : Array Value) (T : TypeId) (fr : Nat × Nat), w.heap[b]? = some (Obj.cells c T fr) → T ≠ 5 → T ≠ 87 → w'.heap[b]? = some (Obj.cells c T fr)
theorem KpW.refl (w : World) : KpW w w := fun _ _ _ _ h _ _ => h
theorem KpW.trans {a b c : World} (h : KpW a b) (k : KpW b c) : KpW a c := fun i d T fr h1 h2 h3 => k i d T fr (h i d T fr h1 h2 h3) h2 h3
theorem KpW.of_below {w w' : World} (h : Below w.heap.size w w') : KpW w w' := fun i d T fr h1 _ _ => by
  have hlt : i < w.heap.size := (Array.getElem?_eq_some_iff.1 h1).1
  rw [h.block i hlt]
  exact h1
theorem KpW.alloc {a w : World} (h : KpW a w) (o : Obj) : KpW a (w.alloc o) := h.trans (KpW.of_below ((Below.refl _ w).alloc (Nat.le_refl _) o))
theorem kpW_set {w : World} {b i : Nat} {u : Value} {c : Array Value} {T : TypeId} {fr : Nat × Nat} (h : w.heap[b]? = some (Obj.cells c T fr)) (hT : T = 87) : KpW w (w.setCell ⟨b, i, none⟩ u) := fun k d T' fr' h1 _ h3 => by
  have hne : k ≠ b := fun e => by
    subst e
    rw [h] at h1
    cases h1
    exact h3 hT
  exact (Below.heap_setCell w ⟨b, i, none⟩ u k hne).trans h1
/-- The builder in block b holds n bytes. -/
def Bui (b n : Nat) (w : World) : Prop := ∃ l : List UInt8, IsBuilder 87 5 b b (byteCells l) w ∧ l.length = n ∧ b ≤ w.heap.size
theorem Bui.start (w : World) : Bui w.heap.size 0 (w.alloc (.cells #[.pointer none, .slice none 0 0] 87)) := ⟨[], fresh_isBuilder _ _ w, rfl, by simp⟩
theorem BuilderAt.below {T e : TypeId} {B b : Nat} {p : Value} {bs : List Value} {w w' : World} (h : BuilderAt T e B b p bs w) (hb : Below w.heap.size w w') : BuilderAt T e B b p bs w' := by
  have hlt := h.lt
  obtain ⟨hB, v, hk, hown, hne⟩ := h
  refine ⟨hB, v, (hb.block b hlt).trans hk, ?_, hne⟩
  obtain ⟨h1, h2⟩ := hown
  refine ⟨h1, ?_⟩
  rcases h2 with h2 | ⟨g, cap, cur, hv, hg, hh, h3⟩
  · exact .inl h2
  · exact .inr ⟨g, cap, cur, hv, hg, (hb.block g (Array.getElem?_eq_some_iff.1 hh).1).trans hh, h3⟩
theorem Bui.below {b n : Nat} {w w' : World} (h : Bui b n w) (hb : Below w.heap.size w w') : Bui b n w' := by
  obtain ⟨l, h1, h2, h3⟩ := h
  refine ⟨l, ?_, h2, Nat.le_trans h3 hb.size⟩
  rcases h1 with h1 | h1
  · exact .inl (BuilderAt.below h1 hb)
  · exact .inr (BuilderAt.below h1 hb)
theorem copyCheck_any (b : Nat) (bs : List Value) (w : World) (h : IsBuilder 87 5 b b bs w) :
    Calls Tryz.prog 49 #[.pointer (some ⟨b, 0, none⟩)] w fun e w' => e = .returned (.tuple #[]) ∧ BuilderAt 87 5 b b (.pointer (some ⟨b, 0, none⟩)) bs w' ∧ Below b w w' ∧ KpW w w' ∧ w.heap.size ≤ w'.heap.size := by
  rcases h with h | h
  · refine (Any.Builder_copyCheck_fresh Tryz.laysB240 Tryz.extraB.toX72 b w h.cell0 h.shape h.frozen0).mono ?_
    rintro e w' ⟨rfl, rfl⟩
    have hh := h
    obtain ⟨hB, v, hk, hown, hne⟩ := hh
    exact ⟨rfl, h.used _, (Below.refl b w).setCell (p := ⟨b, 0, none⟩) h.1 _, kpW_set hk rfl, ((Below.refl 0 w).setCell (p := ⟨b, 0, none⟩) (Nat.zero_le _) _).size⟩
  · refine (Any.Builder_copyCheck_used Tryz.laysB240 Tryz.extraB.toX72 b w h.cell0).mono ?_
    rintro e w' ⟨rfl, rfl⟩
    exact ⟨rfl, h, Below.refl b _, KpW.refl _, Nat.le_refl _⟩
theorem infoU8 : (Tryz.prog.info? 5).map (fun i => (i.zero, i.size, i.bytes)) = some (some (.int .u8 0), 1, 1) := by kernel_rfl
theorem kpW_grown {w w' : World} {v : Value} {n : Nat} {xs : List Value} {B : Nat} (hg : w.grownBy w' v.ownBlock) (ho : w.ownsRow B 5 1 v n xs) : KpW w w' := fun k c T fr h1 h2 _ => by
  have hlt : k < w.heap.size := (Array.getElem?_eq_some_iff.1 h1).1
  rw [hg.block k hlt ?_]
  · exact h1
  · intro e
    obtain ⟨_, h4⟩ := ho
    rcases h4 with ⟨rfl, _⟩ | ⟨g, cap, cur, rfl, _, hh, _⟩
    · simp [Value.ownBlock] at e
    · simp only [Value.ownBlock, Option.some.injEq] at e
      subst e
      rw [hh] at h1
      simp only [Option.some.injEq, Obj.cells.injEq] at h1
      exact h2 h1.2.1.symm
set_option maxHeartbeats 2000000 in
theorem writeW_any (b n : Nat) (x : ByteArray) (w : World) (h : Bui b n w) (hs : n + x.size ≤ 100000000) :
    Calls Tryz.prog 23 #[.pointer (some ⟨b, 0, none⟩), .string x] w fun e w' => e = .returned (.tuple #[.int .i64 x.size, .nilIface]) ∧ Bui b (n + x.size) w' ∧ Below b w w' ∧ KpW w w' := by
  obtain ⟨l, hb, hn, hbw⟩ := h
  obtain ⟨i0, hi, hz0, hz1, hz2⟩ := info_parts infoU8
  have HC := Lib.hid (copyCheck_any b (byteCells l) w hb)
  have hl := byteCells_length l
  go_enter Tryz.func23, Tryz.ntmps23
  go_wp2_with fail
  refine HC.out.mono ?_
  rintro e w1 ⟨rfl, h1, hb1, hk1, hz⟩
  obtain ⟨hB, v, hbk, hown, hne⟩ := h1
  have c0 : w1.cell? ⟨b, 0, none⟩ = some (.pointer (some ⟨b, 0, none⟩)) := by rw [Lib.cell_of_heap hbk]; rfl
  have c1 : w1.cell? ⟨b, 1, none⟩ = some v := by rw [Lib.cell_of_heap hbk]; rfl
  clear HC
  go_wp2_with (at_builtin; refine Lib.wpList_append_own_string _ rfl _ _ 85 9 rfl b 5 i0 Tryz.underlying85 Tryz.underlying9 hi hz0 hz1 hz2 _ _ _ rfl hown x rfl ?c3 ?c4 ?c5 ?_)
  case c3 => unfold maxLen; omega
  case c4 => omega
  case c5 => omega
  intro v' w2 hown' hgrow _
  have hlt : b < w1.heap.size := lt_of_blk hbk
  have hb2 : w2.heap[b]? = some (.cells #[.pointer (some ⟨b, 0, none⟩), v] 87 (0, 0)) := by
    rw [hgrow.block b hlt (fun e => hne e.symm)]
    exact hbk
  have d0 : w2.cell? ⟨b, 0, none⟩ = some (.pointer (some ⟨b, 0, none⟩)) := by rw [Lib.cell_of_heap hb2]; rfl
  have d1 : w2.cell? ⟨b, 1, none⟩ = some v := by rw [Lib.cell_of_heap hb2]; rfl
  have f1 : w2.frozen? ⟨b, 1, none⟩ = false := Lib.frozen_of_heap hb2 1
  have HKG := Lib.hid (kpW_grown hgrow hown)
  have HK := Lib.hid ((hk1.trans HKG.out).trans (kpW_set (i := 1) (u := v') hb2 rfl))
  have HBB := Lib.hid ((hb1.grown hgrow (by omega) (fun k hk => (hown.lt k hk).1)).setCell (p := ⟨b, 1, none⟩) hB v')
  have HOW := Lib.hid hown'
  have HHB := Lib.hid hb2
  have HHN := Lib.hid hn
  have hsz2 : b ≤ (w2.setCell ⟨b, 1, none⟩ v').heap.size := Nat.le_trans hbw HBB.out.size
  obtain ⟨ao, n', cap, rfl⟩ : ∃ ao n' cap, v' = .slice ao n' cap := by
    rcases hown'.2 with ⟨hv, _⟩ | ⟨g, cap, cur, hv, _⟩
    · exact ⟨_, _, _, hv⟩
    · exact ⟨_, _, _, hv⟩
  clear hgrow hown' hb2 hk1 hz hb1 hbk hne hown hn hb hbw hlt
  go_wp2_with fail
  go_ret2
  refine ⟨rfl, ⟨l ++ x.data.toList, .inr ?_, ?_, hsz2⟩, HBB.out, HK.out⟩
  · rw [byteCells_append, ← strCells_eq]
    exact Lib.BuilderAt.put (T := 87) (e := 5) hB HHB.out (bs' := byteCells l ++ Lib.strCells x) (by have h := HOW.out; rw [← HHN.out, ← hl] at h; simpa [Lib.strCells_length] using h) (by decide)
  · rw [List.length_append, HHN.out, ← size_eq]
set_option maxHeartbeats 2000000 in
theorem writeB1_any (b n : Nat) (c : Int) (w : World) (h : Bui b n w) (hs : n + 1 ≤ 100000000) (hc : 0 ≤ c ∧ c ≤ 255) :
    Calls Tryz.prog 24 #[.pointer (some ⟨b, 0, none⟩), .int .u8 c] w fun e w' => e = .returned .nilIface ∧ Bui b (n + 1) w' ∧ Below b w w' ∧ KpW w w' := by
  obtain ⟨l, hb, hn, hbw⟩ := h
  obtain ⟨i0, hi, hz0, hz1, hz2⟩ := info_parts infoU8
  have HC := Lib.hid (copyCheck_any b (byteCells l) w hb)
  have hl := byteCells_length l
  go_enter Tryz.func24, Tryz.ntmps24
  go_wp2_with fail
  refine HC.out.mono ?_
  rintro e w1 ⟨rfl, h1, hb1, hk1, hz⟩
  obtain ⟨hB, v, hbk, hown, hne⟩ := h1
  have c0 : w1.cell? ⟨b, 0, none⟩ = some (.pointer (some ⟨b, 0, none⟩)) := by rw [Lib.cell_of_heap hbk]; rfl
  have c1 : w1.cell? ⟨b, 1, none⟩ = some v := by rw [Lib.cell_of_heap hbk]; rfl
  clear HC
  go_wp2_with (at_builtin; refine wpList_append_own _ rfl _ _ 85 rfl b 5 i0 (.int .u8 0) 1 1 Tryz.underlying85 hi hz0 hz1 hz2 rfl (by decide) _ _ _ rfl (hown.alloc _) ⟨w1.heap.size, 0, none⟩ 1 1 [.int .u8 c] rfl rfl ?c1 ?c2 ?c3 ?c4 ?c5 ?_)
  case c1 =>
    intro j u hj
    match j, hj with
    | 0, hj => simp at hj; subst hj; simp [Addr.add]
  case c2 => intro u hu; simp at hu; subst hu; rfl
  case c3 => unfold maxLen; omega
  case c4 => omega
  case c5 => simp; omega
  intro v' w2 hown' hgrow _
  have hlt : b < w1.heap.size := lt_of_blk hbk
  have hb2 : w2.heap[b]? = some (.cells #[.pointer (some ⟨b, 0, none⟩), v] 87 (0, 0)) := by
    rw [hgrow.block b (by simp; omega) (fun e => hne e.symm), Lib.alloc_old w1 _ b hlt]
    exact hbk
  have d0 : w2.cell? ⟨b, 0, none⟩ = some (.pointer (some ⟨b, 0, none⟩)) := by rw [Lib.cell_of_heap hb2]; rfl
  have d1 : w2.cell? ⟨b, 1, none⟩ = some v := by rw [Lib.cell_of_heap hb2]; rfl
  have f1 : w2.frozen? ⟨b, 1, none⟩ = false := Lib.frozen_of_heap hb2 1
  have HKG := Lib.hid (kpW_grown hgrow (hown.alloc _))
  have HK := Lib.hid (((hk1.alloc _).trans HKG.out).trans (kpW_set (i := 1) (u := v') hb2 rfl))
  have HBB := Lib.hid (((hb1.alloc (by omega) _).grown hgrow (by simp; omega) (fun k hk => (hown.lt k hk).1)).setCell (p := ⟨b, 1, none⟩) hB v')
  have HOW := Lib.hid hown'
  have HHB := Lib.hid hb2
  have HHN := Lib.hid hn
  have hsz2 : b ≤ (w2.setCell ⟨b, 1, none⟩ v').heap.size := Nat.le_trans hbw HBB.out.size
  obtain ⟨ao, n', cap, rfl⟩ : ∃ ao n' cap, v' = .slice ao n' cap := by
    rcases hown'.2 with ⟨hv, _⟩ | ⟨g, cap, cur, hv, _⟩
    · exact ⟨_, _, _, hv⟩
    · exact ⟨_, _, _, hv⟩
  have HCB : Hid (byteCells [UInt8.ofNat c.toNat] = [.int .u8 c]) := Lib.hid (by
    have e : ((UInt8.ofNat c.toNat).toNat : Int) = c := by
      rw [UInt8.toNat_ofNat']
      omega
    simp only [byteCells, List.map_cons, List.map_nil, e])
  clear hgrow hown' hb2 hk1 hz hb1 hbk hne hown hn hb hbw hlt hc
  go_wp2_with fail
  go_ret
  refine ⟨rfl, ⟨l ++ [UInt8.ofNat c.toNat], .inr ?_, ?_, hsz2⟩, HBB.out, HK.out⟩
  · rw [byteCells_append, HCB.out]
    exact Lib.BuilderAt.put (T := 87) (e := 5) hB HHB.out (bs' := byteCells l ++ [.int .u8 c]) (by have h := HOW.out; rw [← HHN.out, ← hl] at h; simpa using h) (by decide)
  · rw [List.length_append, HHN.out]; rfl
theorem stringW_any (b n : Nat) (w : World) (h : Bui b n w) :
    Calls Tryz.prog 29 #[.pointer (some ⟨b, 0, none⟩)] w fun e w' => (∃ s : ByteArray, e = .returned (.string s) ∧ s.size = n) ∧ Below b w w' := by
  obtain ⟨l, h1, h2, h3⟩ := h
  refine (Any.Builder_String_any Tryz.laysB169 Tryz.extraB b b l w h1 h3).mono ?_
  rintro e w' ⟨rfl, hb⟩
  exact ⟨⟨_, rfl, by rw [← h2]; show l.toArray.size = _; simp⟩, hb⟩

/-- How long strings are. -/
def szL : List ByteArray → Nat
  | [] => 0
  | x :: r => x.size + szL r
theorem szL_next {l : List ByteArray} {k : Nat} {x : ByteArray} (hx : l[k]? = some x) : szL (l.take (k + 1)) = szL (l.take k) + x.size := by
  rw [take_next hx]
  generalize l.take k = m
  induction m with
  | nil => simp [szL]
  | cons y r ih => simp only [List.cons_append, szL, ih]; omega
theorem szL_take (l : List ByteArray) (k : Nat) : szL (l.take k) ≤ szL l := by
  induction l generalizing k with
  | nil => simp [szL]
  | cons y r ih =>
    cases k with
    | zero => simp [szL]
    | succ k => simp only [List.take_succ_cons, szL]; have := ih k; omega
set_option maxRecDepth 100000 in
set_option maxHeartbeats 4000000 in
/-- put: strings of a block of its own, and the end of a line. -/
theorem put_any (b n g : Nat) (L : List ByteArray) (w : World) (h : Bui b n w) (hL : L.length ≤ 5) (hk : w.heap[g]? = some (.cells (L.map Value.string).toArray 9 (0, 0))) (hs : n + szL L + 1 ≤ 100000000) :
    Calls Tryz.prog 22 #[.slice (some ⟨g, 0, none⟩) L.length L.length, .pointer (some ⟨b, 0, none⟩)] w fun e w' => e = .returned (.tuple #[]) ∧ Bui b (n + szL L + 1) w' ∧ Below b w w' ∧ KpW w w' := by
  have H := Lib.hid h
  have HK := Lib.hid hk
  have hlz : (L.length : Int) ≤ 5 := by omega
  have hst := szL_take L
  have HST := Lib.hid hst
  clear h hk hst
  go_enter Tryz.func22, Tryz.ntmps22
  go_wp2_with fail
  go_loopg [7] L.length (fun gg s7 wr => ∃ kk : Nat, kk ≤ L.length ∧ L.length - kk ≤ gg ∧ s7 = .int .i64 kk ∧ Aside (Bui b (n + szL (L.take kk)) wr) ∧ Aside (Below b w wr) ∧ Aside (KpW w wr))
  case atStart => exact ⟨0, Nat.zero_le _, by omega, by go_num, H.out, Below.refl _ _, KpW.refl _⟩
  case round =>
    obtain ⟨kk, hkk, hg, rfl, AB, BW, KW⟩ := hrel
    have HAB := Lib.hid AB.out
    have HBW := Lib.hid BW.out
    have HKW := Lib.hid KW.out
    clear AB BW KW
    have hq := HST.out kk
    by_cases hlt : kk < L.length
    · have hltz : (kk : Int) < (L.length : Int) := by omega
      obtain ⟨x, hx⟩ : ∃ x, L[kk]? = some x := ⟨L[kk], by simp [hlt]⟩
      have c0 : wr.cell? ⟨g, kk, none⟩ = some (.string x) := by
        rw [cell_of_block (HKW.out _ _ _ _ HK.out (by decide) (by decide))]
        simp [hx]
      have HN := Lib.hid (szL_next hx)
      have hq2 := HST.out (kk + 1)
      rw [szL_next hx] at hq2
      have HWR := Lib.hid (writeW_any b (n + szL (L.take kk)) x wr HAB.out (by omega))
      clear hx hq hq2
      go_wp2_with fail
      refine HWR.out.mono ?_
      rintro e w2 ⟨rfl, h2, hb2, hk2⟩
      have HB2 := Lib.hid h2
      have HBB := Lib.hid (HBW.out.trans hb2)
      have HKB := Lib.hid (HKW.out.trans hk2)
      clear h2 hb2 hk2
      go_wp2_with fail
      go_roundg (L.length - (kk + 1))
      case measure => omega
      case rel => exact ⟨kk + 1, by omega, by omega, by go_num, (show Aside _ from by rw [HN.out, ← Nat.add_assoc]; exact HB2.out), HBB.out, HKB.out⟩
    · obtain rfl : kk = L.length := by omega
      have hltz : ¬ (L.length : Int) < (L.length : Int) := by omega
      have ha := HAB.out
      rw [List.take_length] at ha
      have HWR := Lib.hid (writeB1_any b (n + szL L) 10 wr ha hs (by decide))
      clear ha hq
      go_wp2_with fail
      refine HWR.out.mono ?_
      rintro e w2 ⟨rfl, h2, hb2, hk2⟩
      have HB2 := Lib.hid h2
      have HBB := Lib.hid (HBW.out.trans hb2)
      have HKB := Lib.hid (HKW.out.trans hk2)
      clear h2 hb2 hk2
      go_wp2_with fail
      go_end0
      exact ⟨rfl, HB2.out, HBB.out, HKB.out⟩
end Go.Proofs.YtehbmnkbmgnkfaaGreatDoor

/- A slice that the call owns, as slices.SortFunc sees it, and back; strings in order. -/
import Derived.Lib.OwnBridge
import Derived.Test.YtgohddfnhofjhaaGreatDoorHoldFPG1
import Derived.Test.YtgohddfnhofjhaaGreatDoorB26
import Derived.Test.YtgohddfnhofjhaaGreatDoorB10
namespace Go.Proofs.YtgohddfnhofjhaaGreatDoor
open Go.RowKit Go.Lib Go.Sort Go.Shelf

section
variable {α : Type} [Inhabited α] {w : World} {base g cap k : Nat} {E : TypeId} {enc : α → List Value} {l ys : List α}
theorem flatK_eq (hk : ∀ x, (enc x).length = k) (l : List α) : flatK enc k l.toArray = (l.flatMap enc).toArray := by
  have hlen := flatMap_len hk l
  refine ext_get! (by simp [hlen]) fun t ht => ?_
  have ht' : t < l.length * k := by simpa using ht
  rw [get_flatK _ _ _ t (by simpa using ht')]
  have k0 : 0 < k := by rcases Nat.eq_zero_or_pos k with h | h; · subst h; simp at ht'
                        · exact h
  have hq : t / k < l.length := Nat.div_lt_of_lt_mul (by rwa [Nat.mul_comm] at ht')
  have h1 := flatMap_get hk l (t / k) (t % k) l[t / k] (List.getElem?_eq_getElem hq) (Nat.mod_lt _ k0)
  rw [Nat.mul_comm, Nat.div_add_mod] at h1
  have e1 : (l.toArray[t / k]! : α) = l[t / k] := by simp [hq]
  have h2 : t < (l.flatMap enc).length := by omega
  have h3 : t % k < (enc l[t / k]).length := by rw [hk]; exact Nat.mod_lt _ k0
  rw [e1, getElem!_pos (enc l[t / k]) (t % k) h3, getElem!_pos (l.flatMap enc).toArray t (by simpa using h2)]
  rw [List.getElem?_eq_getElem h2, List.getElem?_eq_getElem h3] at h1
  simpa using h1.symm
theorem holdsK_own (hk : ∀ x, (enc x).length = k) (h : Own w base E k enc (.slice (some ⟨g, 0, none⟩) l.length cap) l) : HoldsK enc k w g 0 l.toArray := by
  unfold HoldsK
  rw [flatK_eq hk]
  obtain ⟨h1, h2⟩ := h
  rcases h2 with ⟨e0, _⟩ | ⟨g', cap', cur, e0, hb, hg, hn, hm, hs, ht⟩
  · cases e0
  · simp only [Value.slice.injEq, Option.some.injEq, Addr.mk.injEq, and_true] at e0
    obtain ⟨rfl, _, rfl⟩ := e0
    intro j hj
    have hj' : j < (l.flatMap enc).length := by simpa using hj
    refine ⟨?_, by simp [World.frozen?, hg]⟩
    have e1 : (cur.toList.take (l.length * k))[j]? = (l.flatMap enc)[j]? := by rw [ht]
    rw [List.getElem?_take, if_pos (by omega), Array.getElem?_toList] at e1
    simp only [World.cell?, hg, Nat.zero_add]
    simp only [Option.isSome_none, Bool.false_eq_true, if_false]
    rw [e1, List.getElem?_eq_getElem hj', getElem!_pos (l.flatMap enc).toArray j hj]
    simp
theorem heap_grow (W : World) (os : Array Obj) {i : Nat} (h : i < W.heap.size) : (grow W os).heap[i]? = W.heap[i]? := by
  show (W.heap ++ os)[i]? = _
  rw [Array.getElem?_append_left h]
theorem own_sortK (hk : ∀ x, (enc x).length = k) (h : Own w base E k enc (.slice (some ⟨g, 0, none⟩) l.length cap) l) (hy : ys.length = l.length) (q : Nat) (os : Array Obj) :
    Own (sortWorldK enc k w g 0 q ys.toArray os) base E k enc (.slice (some ⟨g, 0, none⟩) l.length cap) ys := by
  have hlen := flatMap_len hk ys
  obtain ⟨h1, h2⟩ := h
  rcases h2 with ⟨e0, _⟩ | ⟨g', cap', cur, e0, hb, hg, hn, hm, hs, ht⟩
  · cases e0
  · simp only [Value.slice.injEq, Option.some.injEq, Addr.mk.injEq, and_true] at e0
    obtain ⟨rfl, _, rfl⟩ := e0
    have hlt : g < w.heap.size := lt_of_block hg
    have hmul : l.length * k ≤ cap * k := Nat.mul_le_mul_right k hn
    unfold Own
    rw [hy]
    refine ⟨by rw [hlen, hy], .inr ⟨g, cap, putCells id 0 (ys.flatMap enc).toArray cur, rfl, hb, ?_, hn, hm, by simpa [putCells] using hs, ?_⟩⟩
    · unfold sortWorldK
      rw [heap_grow _ _ (by simpa [putRowK, putRow, mapBlock, Sort.ahead] using hlt)]
      unfold putRowK
      rw [flatK_eq hk]
      simp [putRow, mapBlock, Sort.ahead, Array.getElem?_modify, hg, onCells]
    · apply List.ext_getElem?
      intro j
      rw [List.getElem?_take, Array.getElem?_toList]
      by_cases hj : j < l.length * k
      · have hjc : j < cur.size := by omega
        have hjy : j < (ys.flatMap enc).length := by rw [hlen, hy]; exact hj
        simp only [if_pos hj, putCells, Array.getElem?_mapIdx, Array.getElem?_eq_getElem hjc, Option.map_some]
        rw [if_pos (show 0 ≤ j ∧ j < 0 + (ys.flatMap enc).toArray.size from ⟨Nat.zero_le _, by rw [Nat.zero_add]; exact hjy⟩), List.getElem?_eq_getElem hjy]
        simp only [Nat.sub_zero, id]
        rw [getElem!_pos (ys.flatMap enc).toArray j (by simpa using hjy)]
        simp
      · rw [if_neg hj, List.getElem?_eq_none (by rw [hlen, hy]; omega)]
theorem below_sortK {w0 : World} (h : Below base w0 w) (hg : base ≤ g) (hb : base ≤ w0.heap.size) (q : Nat) (os : Array Obj) (ys : Array α) : Below base w0 (sortWorldK enc k w g 0 q ys os) := by
  have h1 : Below base w0 (putRowK enc k (Sort.ahead w q) g 0 ys) := below_putRow h hg
  unfold sortWorldK
  exact ⟨h1.os, h1.tape, h1.output, Nat.le_trans h1.size (by simp [grow]), fun i hi => by
    have hs := h1.size
    rw [heap_grow _ _ (by omega)]
    exact h1.block i hi⟩
end

theorem u8_tri (a b : UInt8) : a < b ∨ a = b ∨ b < a := by
  rcases Nat.lt_trichotomy a.toNat b.toNat with h | h | h
  · exact .inl h
  · exact .inr (.inl (UInt8.toNat_inj.1 h))
  · exact .inr (.inr h)
theorem cb_swap : ∀ a b : List UInt8, Lib.compareBytes b a = - Lib.compareBytes a b
  | [], [] => rfl
  | [], _ :: _ => rfl
  | _ :: _, [] => rfl
  | a :: r, b :: s => by
    unfold Lib.compareBytes
    by_cases h1 : a < b
    · have h2 : ¬ b < a := fun h => absurd (UInt8.lt_trans h1 h) (UInt8.lt_irrefl _)
      simp [h1, h2]
    · by_cases h2 : b < a
      · simp [h1, h2]
      · simp [h1, h2, cb_swap r s]
theorem cb_zero : ∀ {a b : List UInt8}, Lib.compareBytes a b = 0 → a = b
  | [], [], _ => rfl
  | [], _ :: _, h => by simp [Lib.compareBytes] at h
  | _ :: _, [], h => by simp [Lib.compareBytes] at h
  | a :: r, b :: s, h => by
    unfold Lib.compareBytes at h
    by_cases h1 : a < b
    · simp [h1] at h
    · by_cases h2 : b < a
      · simp [h1, h2] at h
      · simp only [h1, h2, if_false] at h
        rw [cb_zero h, UInt8.le_antisymm (UInt8.not_lt.1 h2) (UInt8.not_lt.1 h1)]
theorem cb_tr : ∀ {a b c : List UInt8}, Lib.compareBytes a b < 0 → Lib.compareBytes b c < 0 → Lib.compareBytes a c < 0
  | [], [], _, h, _ => by simp [Lib.compareBytes] at h
  | [], _ :: _, [], _, h => by simp [Lib.compareBytes] at h
  | [], _ :: _, _ :: _, _, _ => by simp [Lib.compareBytes]
  | _ :: _, [], _, h, _ => by simp [Lib.compareBytes] at h
  | _ :: _, _ :: _, [], _, h => by simp [Lib.compareBytes] at h
  | a :: r, b :: s, c :: t, h, g => by
    unfold Lib.compareBytes at h g ⊢
    rcases u8_tri a b with h1 | h1 | h1
    · rcases u8_tri b c with h2 | h2 | h2
      · simp [UInt8.lt_trans h1 h2]
      · subst h2; simp [h1]
      · have h3 : ¬ b < c := fun h => absurd (UInt8.lt_trans h2 h) (UInt8.lt_irrefl _)
        simp [h2, h3] at g
    · subst h1
      simp only [UInt8.lt_irrefl, if_false] at h
      rcases u8_tri a c with h2 | h2 | h2
      · simp [h2]
      · subst h2
        simp only [UInt8.lt_irrefl, if_false] at g ⊢
        exact cb_tr h g
      · have h3 : ¬ a < c := fun h => absurd (UInt8.lt_trans h2 h) (UInt8.lt_irrefl _)
        simp [h2, h3] at g
    · have h3 : ¬ a < b := fun h => absurd (UInt8.lt_trans h1 h) (UInt8.lt_irrefl _)
      simp [h1, h3] at h
theorem cb_lt : ∀ {a b : List UInt8}, a < b → Lib.compareBytes a b < 0
  | [], [], h => absurd h (List.lt_irrefl _)
  | [], _ :: _, _ => by simp [Lib.compareBytes]
  | _ :: _, [], h => by cases h
  | a :: r, b :: s, h => by
    rcases List.cons_lt_cons_iff.1 h with h3 | ⟨h2, h3⟩
    · simp [Lib.compareBytes, h3]
    · subst h2
      simp only [Lib.compareBytes, UInt8.lt_irrefl, if_false]
      exact cb_lt h3
/-- Strings in order. -/
def cmpB (a b : ByteArray) : Int := Lib.compareBytes a.data.toList b.data.toList
theorem cmpB_swap (a b : ByteArray) : cmpB b a = - cmpB a b := cb_swap _ _
theorem cmpB_zero {a b : ByteArray} (h : cmpB a b = 0) : a = b := by
  have := cb_zero h
  obtain ⟨⟨x⟩⟩ := a
  obtain ⟨⟨y⟩⟩ := b
  simp only at this
  rw [this]
theorem swoB : SWO (ltOf cmpB) where
  irrefl x := by
    unfold ltOf
    have := cmpB_swap x x
    exact decide_eq_false (by omega)
  trans x y z h1 h2 := by
    unfold ltOf at *
    rw [decide_eq_true_eq] at *
    exact cb_tr h1 h2
  ntrans x y z h1 h2 := by
    unfold ltOf at *
    rw [decide_eq_false_iff_not] at *
    intro h
    have e1 := cmpB_swap x y
    by_cases e : cmpB x y = 0
    · have := cmpB_zero e
      subst this
      exact h2 h
    · exact h2 (cb_tr (a := y.data.toList) (show cmpB y x < 0 by omega) h)
theorem totB (x y : ByteArray) (h1 : ltOf cmpB x y = false) (h2 : ltOf cmpB y x = false) : x = y := by
  unfold ltOf at *
  rw [decide_eq_false_iff_not] at *
  have := cmpB_swap x y
  exact cmpB_zero (by omega)
def srtB (L : List ByteArray) : List ByteArray := L.mergeSort fun x y => !(ltOf cmpB) y x
theorem srtB_len (L : List ByteArray) : (srtB L).length = L.length := by simp [srtB]
theorem srtB_perm (L : List ByteArray) : (srtB L).Perm L := List.mergeSort_perm _ _
theorem srtB_inc {L : List ByteArray} (h : L.Nodup) : (srtB L).Pairwise fun a b => cmpB a b < 0 := by
  have hs : (srtB L).Pairwise fun x y => (!(ltOf cmpB) y x) = true := by
    unfold srtB
    refine List.pairwise_mergeSort ?_ ?_ L
    · intro a b c h1 h2
      rw [Bool.not_eq_true'] at *
      exact swoB.ntrans _ _ _ h2 h1
    · intro a b
      cases h1 : ltOf cmpB b a
      · simp
      · cases h2 : ltOf cmpB a b
        · simp
        · have := swoB.trans _ _ _ h1 h2
          rw [swoB.irrefl] at this
          cases this
  have hn : (srtB L).Nodup := (srtB_perm L).nodup_iff.2 h
  refine List.Pairwise.imp ?_ (hs.and hn)
  rintro a b ⟨h1, h2⟩
  rw [Bool.not_eq_true'] at h1
  unfold ltOf at h1
  rw [decide_eq_false_iff_not] at h1
  have e := cmpB_swap a b
  by_cases hz : cmpB a b = 0
  · exact absurd (cmpB_zero hz) h2
  · omega
theorem bl_false {a b : ByteArray} (h : cmpB a b < 0) : Op.bytesLess b.toList a.toList = false ∧ (b.toList == a.toList) = false ∧ Op.bytesLess a.toList b.toList = true := by
  have hT : ∀ x : ByteArray, x.toList = x.data.toList := fun x => ByteArray.toList_eq x
  have hs := cmpB_swap a b
  have hab : a.data.toList < b.data.toList := by
    by_cases h1 : a.data.toList < b.data.toList
    · exact h1
    · exfalso
      rcases List.le_iff_lt_or_eq.1 (List.not_lt.1 h1) with h2 | h2
      · have : cmpB b a < 0 := cb_lt h2
        omega
      · have : cmpB a b = 0 := by unfold cmpB; rw [h2]; have := cb_swap a.data.toList a.data.toList; omega
        omega
  refine ⟨?_, ?_, ?_⟩
  · rw [hT, hT, bytesLess_eq]
    exact decide_eq_false fun h2 => List.lt_irrefl _ (List.lt_trans hab h2)
  · rw [hT, hT]
    refine beq_eq_false_iff_ne.2 fun e => ?_
    rw [e] at hab
    exact List.lt_irrefl _ hab
  · rw [hT, hT, bytesLess_eq]
    exact decide_eq_true hab
/-- What Holds tells of a key. -/
def encHd (f : ByteArray → Hld) (k : ByteArray) : List Value := [.string k, .int .i64 (f k).an.ve, .int .i64 (f k).an.bo, .int .i64 (f k).us]
theorem encHd_len (f : ByteArray → Hld) (k : ByteArray) : (encHd f k).length = 4 := rfl
theorem cloH_lays (f : ByteArray → Hld) (a b : ByteArray) (w : World) : Calls Tryz.prog 41 #[.agg (encHd f a).toArray, .agg (encHd f b).toArray] w fun e w' => e = .returned (.int .i64 (cmpB a b)) ∧ ∃ q os', w' = grow (w.drewN q) os' := by
  have HC := Lib.hid (fun W => Any.strings_Compare Tryz.lays106 a b W)
  have hv : Hid (Lib.compareBytes a.data.toList b.data.toList = cmpB a b) := Lib.hid rfl
  unfold encHd
  go_enter Tryz.func41, Tryz.ntmps41
  go_wp2_with (go_at_call 42; refine (HC.out _).mono ?_; rintro e w' ⟨rfl, rfl⟩)
  go_ret
  exact ⟨ret_int hv.out, 0, _, by rw [alloc_eq_grow, alloc_eq_grow, grow_grow]; rfl⟩
/-- slices.SortFunc of what the call owns. -/
theorem sortH_any (w : World) (base g cap : Nat) (f : ByteArray → Hld) (L : List ByteArray) (h : Own w base 59 4 (encHd f) (.slice (some ⟨g, 0, none⟩) L.length cap) L) (hb : base ≤ w.heap.size) (hn : L.length ≤ 1000000) :
    Calls Tryz.prog 40 #[.slice (some ⟨g, 0, none⟩) L.length cap, .func (.func 41) #[] #[]] w fun e w' =>
      e = .returned (.tuple #[]) ∧ Own w' base 59 4 (encHd f) (.slice (some ⟨g, 0, none⟩) L.length cap) (srtB L) ∧ Below base w w' := by
  have hlt := World.ownsRow.lt h g rfl
  have eg : ∀ args w, (callFunc 41 args).run Tryz.prog w = .ok (.enter 41 args) w := enters_of Tryz.func41 (by kernel_rfl) rfl
  have hcon := AnyQ.slices_SortFunc_total Tryz.sortK 4 Tryz.isAgg59 Tryz.sizeOf59 (encHd f) (fun _ => rfl) (fun x v hv => by simp [encHd] at hv; rcases hv with rfl | rfl | rfl | rfl <;> rfl) cmpB swoB 41 #[] g 0 cap L.toArray w eg (fun _ _ _ _ x y => cloH_lays f x y _) (holdsK_own (encHd_len f) h) hlt.2 (by simp; omega) totB
  have hcon2 : Calls Tryz.prog 40 #[.slice (some ⟨g, 0, none⟩) L.length cap, .func (.func 41) #[] #[]] w fun e w' =>
      e = .returned (.tuple #[]) ∧ ∃ n os, w' = sortWorldK (encHd f) 4 w g 0 n (srtB L).toArray os := by
    rw [List.size_toArray] at hcon
    exact hcon
  refine hcon2.mono ?_
  rintro e w' ⟨rfl, nn, os, rfl⟩
  exact ⟨rfl, own_sortK (encHd_len f) h (srtB_len L) nn os, below_sortK (Below.refl _ _) hlt.1 hb nn os _⟩
theorem sortH_own (w : World) (base : Nat) (f : ByteArray → Hld) (L : List ByteArray) (v : Value) (h : Own w base 59 4 (encHd f) v L) (hb : base ≤ w.heap.size) (hn : L.length ≤ 1000000) :
    Calls Tryz.prog 40 #[v, .func (.func 41) #[] #[]] w fun e w' =>
      e = .returned (.tuple #[]) ∧ Own w' base 59 4 (encHd f) v (srtB L) ∧ Below base w w' := by
  rcases Own.slw h with ⟨rfl, rfl⟩ | ⟨g, cap, rfl⟩
  · have hcon : Calls Tryz.prog 40 #[.slice none 0 0, .func (.func 41) #[] #[]] w fun e w' => e = .returned (.tuple #[]) ∧ w' = w := AnyF.slices_SortFunc_none Tryz.sortK none 0 _ w
    refine hcon.mono ?_
    rintro e w' ⟨rfl, rfl⟩
    exact ⟨rfl, by rw [show srtB [] = [] from by simp [srtB]]; exact Own.nil, Below.refl _ _⟩
  · exact sortH_any w base g cap f L h hb hn
end Go.Proofs.YtgohddfnhofjhaaGreatDoor

/- Holds: the walk. -/
namespace Go.Proofs.YtgohddfnhofjhaaGreatDoor
open Go.RowKit

theorem infoHd : (Tryz.prog.info? 59).map (fun i => (i.zero, i.size, i.bytes)) = some (some (.agg #[.string ⟨#[]⟩, .int .i64 0, .int .i64 0, .int .i64 0]), 4, 40) := by kernel_rfl
theorem slHd : SlT Tryz.prog 55 59 4 40 := by
  obtain ⟨i0, hi, hz0, hz1, hz2⟩ := info_parts infoHd
  exact ⟨i0, _, Tryz.underlying55, hi, hz0, hz1, hz2, rfl, by decide, by decide⟩
/-- The fault of Holds. -/
def holdF (C : List Cch) (R : List Crl) (E : List Rel) (P : List Pur) (L : List Gt) (n : ByteArray) (t : Int) : Int :=
  if checkS C R E P L ≠ 0 then checkS C R E P L else if cNum C n < 0 then 5 else if t < 0 ∨ 2000000000000 < t then 1 else 0
/-- What a cache holds, as it is told. -/
structure HoldL (C : List Cch) (X : Xd) (n : ByteArray) (f : ByteArray → Hld) (l : List ByteArray) : Prop where
  pm : l.Perm ((X.H (cNum C n).toNat).map Xh.ke)
  inc : l.Pairwise fun a b => cmpB a b < 0
  eq : ∀ h, h ∈ X.H (cNum C n).toNat → f h.ke = ⟨h.an, h.us⟩
theorem own_same {α : Type} {w w' : World} {base : Nat} {E : TypeId} {k : Nat} {enc : α → List Value} {v : Value} {l : List α} (h : Own w base E k enc v l) (hs : ∀ i, base ≤ i → i < w.heap.size → w'.heap[i]? = w.heap[i]?) : Own w' base E k enc v l := by
  obtain ⟨h1, h2⟩ := h
  refine ⟨h1, ?_⟩
  rcases h2 with h2 | ⟨g, cap, cur, e1, e2, e3, r⟩
  · exact .inl h2
  · exact .inr ⟨g, cap, cur, e1, e2, (hs g e2 (Array.getElem?_eq_some_iff.1 e3).1).trans e3, r⟩
theorem push_grown {α : Type} {w w' : World} {base : Nat} {E : TypeId} {k : Nat} {enc : α → List Value} {v v' : Value} {l : List α} (h : Own w base E k enc v l) (hb : Below base w w') (hk : KeepB w w' v v') : ∃ row, w.grownBy w' row ∧ ∀ r, r < base → some r ≠ row := by
  rcases Own.slw h with ⟨rfl, _⟩ | ⟨g, cap, rfl⟩
  · exact ⟨none, ⟨hb.os, hb.tape, hb.output, hb.size, fun i hi _ => (hk i hi (offB.nil i)).1⟩, fun r _ e => by cases e⟩
  · have hg : base ≤ g := (World.ownsRow.lt h g rfl).1
    exact ⟨some g, ⟨hb.os, hb.tape, hb.output, hb.size, fun i hi hne => (hk i hi (offB.mk fun e => hne (by rw [e]))).1⟩, fun r hr e => by cases e; omega⟩
set_option maxRecDepth 100000 in
set_option maxHeartbeats 8000000 in
theorem Holds_any (w : World) (C : List Cch) (R : List Crl) (E : List Rel) (P : List Pur) (L : List Gt) (vc vr ve vp vl : Value) (cn : ByteArray) (t : Int) (h : InS w C R E P L vc vr ve vp vl) (hw : WfS C R E P L) :
    Calls Tryz.prog 25 #[.agg #[vc, vr, ve, vp], vl, .string cn, .int .i64 t] w fun e w' => (∃ v, e = .returned (.tuple #[v, .int .i64 (holdF C R E P L cn t)]) ∧ ∃ f l, Sl w' 4 (encHd f) v l ∧ (holdF C R E P L cn t ≠ 0 → l = []) ∧ (holdF C R E P L cn t = 0 → ∃ X, EndX C R E P L t X ∧ HoldL C X cn f l)) ∧ Below w.heap.size w w' := by
  obtain ⟨w2, hbx⟩ := boxS w h hw
  have HW2 := Lib.hid hbx.al
  have HB2 := Lib.hid hbx.bel
  have HF := Lib.hid (hbx.flt w2 (Below.refl _ _))
  have HQ := Lib.hid hbx.q
  obtain ⟨q0, q1, q2, q3⟩ := hbx.q w2 (Below.refl _ _)
  have h2 := h.below hbx.bel
  have HV := Lib.hid (val_of (C := C) (R := R) (E := E) (P := P) (L := L))
  have HHF : Hid (holdF C R E P L cn t = if checkS C R E P L ≠ 0 then checkS C R E P L else if cNum C cn < 0 then 5 else if t < 0 ∨ 2000000000000 < t then 1 else 0) := Lib.hid rfl
  have HNW : Hid (∀ (W : World), Below w2.heap.size w2 W → checkS C R E P L = 0 → Calls Tryz.prog 37 #[.agg #[vc, vr, ve, vp], .int .i64 (L.length : Nat)] W fun e w' => ∃ A, e = .returned (.pointer (some ⟨A.q, 0, none⟩)) ∧ PD w' W.heap.size A (day0 (C.map (stoOf C)) L.length) ∧ A.d0 = vc ∧ A.d1 = vr ∧ A.d2 = ve ∧ A.d3 = vp ∧ Below W.heap.size W w') := Lib.hid fun W hW hs => by
    have hv := val_of hs
    exact newWorld_any W C vc vr ve vp L.length (h2.below hW).c hv.l (by have := hv.c; omega)
  have HNM : Hid (∀ (W : World), Below w2.heap.size w2 W → ∀ q, W.cell? ⟨q, 0, none⟩ = some vc → Calls Tryz.prog 38 #[.pointer (some ⟨q, 0, none⟩), .string cn] W fun e w' => e = .returned (.int .i64 (cNum C cn)) ∧ Below W.heap.size W w') := Lib.hid fun W hW q hq => number_any W q C vc cn hq (h2.below hW).c
  have HRN : Hid (∀ (W : World) (B : Nat) (A : Adr), Below w2.heap.size w2 W → checkS C R E P L = 0 → 0 ≤ t → t ≤ 2000000000000 → PD W B A (day0 (C.map (stoOf C)) L.length) → A.d0 = vc → A.d1 = vr → A.d2 = ve → A.d3 = vp → w2.heap.size ≤ B →
      Calls Tryz.prog 39 #[.pointer (some ⟨A.q, 0, none⟩), vl, .int .i64 t] W fun e w' => ∃ A' D X n, A'.q = A.q ∧ e = .returned (.tuple #[]) ∧ PD w' B A' D ∧ EndX C R E P L t X ∧ Sim C [] D X ∧ Fit n D ∧ n ≤ 310000 ∧ Below B W w') := Lib.hid fun W B A hW hs ht0 ht1 hp e0 e1 e2 e3 hB => by
    have hv := val_of hs
    refine (run_any w2 W B A _ C R E P L vl t (InvB C R E P L t (xd0 C L.length)) (muX C P L (xd0 C L.length)) (runInv hv _) hp ⟨_, both0 hv _, rfl⟩ ⟨hB, by rw [e0]; exact h2.c, by rw [e1]; exact h2.r, by rw [e2]; exact h2.e, by rw [e3]; exact h2.p, hv.rb, fun x hx => ?_⟩ hW h2.l ⟨ht0, by omega⟩ ⟨by have := hv.p; omega, hv.l⟩ (fun x hx => (hv.pt x hx).2)).mono ?_
    · obtain ⟨g1, g2, _⟩ := hv.e x hx
      cases hg : x.go
      · have := g2 hg; omega
      · have := g1 hg; omega
    · rintro e w' ⟨A', k, c, rfl, h1, h2, h3, h4, h5⟩
      obtain ⟨X, h6, h7⟩ := endX_of h4 h5
      obtain ⟨X2, hb, _⟩ := h4
      obtain ⟨n, hf, hn⟩ := hb.fit
      exact ⟨A', c.D, X, n, h2.q, rfl, h1, h6, h7, hf, by omega, h3⟩
  obtain ⟨lo, lc, rfl, hlc, hlm, -, -⟩ := h2.l
  clear hbx h h2 hw
  generalize holdF C R E P L cn t = F at HHF ⊢
  generalize checkS C R E P L = S at HF HV HHF HNW HRN ⊢
  go_enter Tryz.func25, Tryz.ntmps25
  go_upto_region 1 with (fail)
  rw [← HW2.out]
  go_upto_region 2 with (go_at_call 30; (with_reducible refine HF.out.mono ?_); rintro e w3 ⟨rfl, hb3⟩; have HB3 := Lib.hid hb3; obtain ⟨r0, r1, r2, r3⟩ := HQ.out w3 hb3; clear hb3 q0 q1 q2 q3)
  by_cases hS : S = 0
  case neg =>
    have hv : Hid (S = F) := Lib.hid (by rw [HHF.out, if_pos hS])
    have hne : (S != 0) = true := by simpa using hS
    have HS := Lib.hid hS
    clear hS
    go_wp2_with fail
    go_ret2
    exact ⟨⟨_, by rw [← hv.out]; rfl, fun _ => default, [], Sl.nil, fun _ => rfl, fun h => absurd (hv.out.trans h) HS.out⟩, HB2.out.thru HB3.out⟩
  subst hS
  have HW3 : Hid (Below w2.heap.size w2 w3) := HB3
  have HN3 := Lib.hid (HNW.out w3 HB3.out rfl)
  go_upto_region 5 with (go_at_call 37; (with_reducible refine HN3.out.mono ?_); rintro e w4 ⟨A, rfl, hp, e0, e1, e2, e3, hb4⟩; have hc0 : w4.cell? ⟨A.q, 0, none⟩ = some vc := (cellF hp.qb.2 0 rfl).trans (congrArg some e0); have HP := Lib.hid hp; have HE := Lib.hid (And.intro e0 (And.intro e1 (And.intro e2 e3))); have HB4 := Lib.hid hb4; clear hp e0 e1 e2 e3 hb4 r0 r1 r2 r3)
  have HB24 : Hid (Below w2.heap.size w2 w4) := Lib.hid (HB3.out.thru HB4.out)
  have HM4 := Lib.hid (HNM.out w4 HB24.out A.q hc0)
  go_upto_region 6 with (go_at_call 38; (with_reducible refine HM4.out.mono ?_); rintro e w5 ⟨rfl, hb5⟩; have HB5 := Lib.hid hb5; clear hb5 hc0)
  have HB25 : Hid (Below w2.heap.size w2 w5) := Lib.hid (HB24.out.thru HB5.out)
  have HP5 := Lib.hid (HP.out.below HB5.out)
  have HBW : Hid (Below w.heap.size w w5) := Lib.hid (HB2.out.thru HB25.out)
  obtain ⟨ci, hci⟩ : ∃ ci, ci = cNum C cn := ⟨_, rfl⟩
  rw [← hci] at HHF ⊢
  by_cases hc : ci < 0
  · have hv : Hid (5 = F) := Lib.hid (by rw [HHF.out, if_neg (by simp), if_pos hc])
    clear hci
    go_wp2_with fail
    go_ret2
    exact ⟨⟨_, by rw [← hv.out]; rfl, fun _ => default, [], Sl.nil, fun _ => rfl, fun h => by rw [← hv.out] at h; cases h⟩, HBW.out⟩
  by_cases ht1 : t < 0
  · have hv : Hid (1 = F) := Lib.hid (by rw [HHF.out, if_neg (by simp), if_neg hc, if_pos (.inl ht1)])
    clear hci
    go_wp2_with fail
    go_ret2
    exact ⟨⟨_, by rw [← hv.out]; rfl, fun _ => default, [], Sl.nil, fun _ => rfl, fun h => by rw [← hv.out] at h; cases h⟩, HBW.out⟩
  by_cases ht2 : 2000000000000 < t
  · have hv : Hid (1 = F) := Lib.hid (by rw [HHF.out, if_neg (by simp), if_neg hc, if_pos (.inr ht2)])
    clear hci
    go_wp2_with fail
    go_ret2
    exact ⟨⟨_, by rw [← hv.out]; rfl, fun _ => default, [], Sl.nil, fun _ => rfl, fun h => by rw [← hv.out] at h; cases h⟩, HBW.out⟩
  have hv : Hid (0 = F) := Lib.hid (by rw [HHF.out, if_neg (by simp), if_neg hc, if_neg (by omega)])
  have HR5 := Lib.hid (HRN.out w5 w3.heap.size A HB25.out (by trivial) (by omega) (by omega) HP5.out HE.out.1 HE.out.2.1 HE.out.2.2.1 HE.out.2.2.2 HB3.out.size)
  obtain ⟨i, hi⟩ : ∃ i : Nat, ci = (i : Int) := ⟨ci.toNat, by omega⟩
  subst hi
  have HCI := Lib.hid hci
  clear hci
  go_wp2_with fail
  (with_reducible refine HR5.out.mono ?_)
  rintro e w6 ⟨A6, D, X, n, hq, rfl, hp, hE, hSm, hF6, hn6, hb6⟩
  have hc4 : w6.cell? ⟨A.q, 4, none⟩ = some A6.sv := by rw [← hq]; exact cellF hp.qb.2 4 rfl
  have HP6 := Lib.hid hp
  have HES := Lib.hid (And.intro hE hSm)
  have HF6 := Lib.hid (And.intro hF6 hn6)
  have HB6 := Lib.hid hb6
  clear hp hE hSm hF6 hn6 hb6 hq
  have hil : i < C.length := by
    have h := HCI.out
    unfold cNum fidxC at h
    split at h
    · omega
    · have := List.findIdx_le_length (p := fun o => isC o cn) (xs := C)
      omega
  have HBW6 : Hid (Below w.heap.size w w6) := Lib.hid (HBW.out.trans (HB6.out.mono (by have := HB2.out.size; have := HB3.out.size; omega)))
  have hsl : D.st.length = C.length := HES.out.2.len
  obtain ⟨s, hse⟩ : ∃ s, s = D.S i := ⟨_, rfl⟩
  obtain ⟨hs, hst⟩ := HES.out.2.at_ hil
  rw [← hse] at hs hst
  obtain ⟨so, sc, hsv, -, -, -, hel⟩ := HP6.out.stores.sl (encP_len A6.sb)
  rw [List.length_range, hsl] at hsv
  rw [hsv] at hc4
  obtain ⟨bs, off, rfl, hc2⟩ := hel i i (by rw [List.getElem?_range (by omega)])
  have c0 : w6.cell? ⟨bs, off + i, none⟩ = some (.pointer (some ⟨A6.sb i, 0, none⟩)) := by have h := hc2 0 _ rfl; simpa using h
  have c5 : w6.cell? ⟨A6.sb i, 5, none⟩ = some (.map (some (A6.mb i))) := cellF (HP6.out.sb hs).2 5 rfl
  obtain ⟨_, hm⟩ := HP6.out.map hs
  have hkl : s.ks.length ≤ 310000 := by have := (HF6.out.1.st i s hs).kl; have := HF6.out.2; omega
  have hnd := hm.1
  have HHE := Lib.hid hst.he
  have hiz : (i : Int) < (C.length : Int) := by omega
  have hi0 : (0 : Int) ≤ (i : Int) := by omega
  generalize A6.mb i = b at c5 hm
  have hbl := hm.lt
  have HMH := Lib.hid hm
  obtain ⟨wi, hrg, hrv, hgi, hsi⟩ := hm.range
  have HRI : Hid (RngH wi b w6.heap.size D.pu s.hm s.ks s.ks) := Lib.hid hrv
  have HBI : Hid (Below w6.heap.size w6 wi) := Lib.hid ((Below.refl _ w6).grown hgi (Nat.le_refl _) (fun i hi => by cases hi))
  obtain ⟨R, hR⟩ : ∃ R, R = w6.heap.size := ⟨_, rfl⟩
  rw [← hR] at hrg HRI
  have HR := Lib.hid hR
  have HND := Lib.hid hnd
  have HBL := Lib.hid hbl
  have HSI := Lib.hid hsi
  clear hse hs hst hsv hel hc2 hm hrv hgi hsi hnd hR hbl
  go_wp2_with fail
  go_loopg [13, 14, 15] s.ks.length (fun gg s13 s14 s15 wr => ∃ (left dn : List ByteArray) (v13 : Value), left.length ≤ gg ∧ s13 = v13 ∧ Aside (RngH wr b R D.pu s.hm s.ks left) ∧ Aside (Own wr (R + 1) 59 4 (encHd s.hm) v13 dn) ∧ Aside ((dn ++ left).Perm s.ks) ∧ Aside (Below w6.heap.size w6 wr))
  case atStart => exact ⟨s.ks, [], _, Nat.le_refl _, rfl, (show Aside _ from HRI.out), (show Aside _ from Own.nil), (show Aside _ from List.Perm.refl _), (show Aside _ from HBI.out)⟩
  case round =>
    obtain ⟨wq, rfl⟩ : ∃ wq : World, wq = wr := ⟨_, rfl⟩
    obtain ⟨left, dn, v13, hgl, rfl, RV, OW, PM, BU⟩ := hrel
    obtain ⟨ya, yL, yc, rfl⟩ := Own.slv (encHd_len s.hm) OW.out
    have hdl : dn.length ≤ 310000 := by have := PM.out.length_eq; rw [List.length_append] at this; omega
    have hRq : R + 1 ≤ wq.heap.size := by
      have h1 := (RV.out.2.2.2)
      obtain ⟨_, _, _, h2, _⟩ := h1
      have := BU.out.size
      have := HR.out
      have h3 := h2.lt
      omega
    rcases RV.out.step 0 with ⟨hnil, hrun⟩ | ⟨v, wn, hvl, hrun, hrv, hgr, hsz, hen⟩
    · have HSO := Lib.hid (sortH_own wq (R + 1) s.hm dn _ OW.out hRq (by omega))
      have HPM : Hid (dn.Perm s.ks) := Lib.hid (by have h := PM.out; rw [hnil, List.append_nil] at h; exact h)
      have HB := Lib.hid BU.out
      clear hnil RV OW PM BU
      go_wp2_with (go_at_call 40; (with_reducible refine HSO.out.mono ?_); rintro e w8 ⟨rfl, ho8, hb8⟩; have HO8 := Lib.hid ho8; have HB8 := Lib.hid hb8; clear ho8 hb8)
      go_ret2
      refine ⟨⟨_, by rw [← hv.out]; rfl, s.hm, srtB dn, HO8.out.sl (encHd_len s.hm), fun h => absurd hv.out.symm h, fun _ => ⟨X, HES.out.1, ?_⟩⟩, HBW6.out.trans ((HB.out.mono HBW6.out.size).trans (HB8.out.mono (by have := HR.out; have := HBW6.out.size; omega)))⟩
      have e : (cNum C cn).toNat = i := by rw [← HCI.out, Int.toNat_natCast]
      refine ⟨?_, srtB_inc (HPM.out.nodup_iff.2 HND.out), ?_⟩
      · rw [e]; exact (srtB_perm dn).trans (HPM.out.trans HHE.out.pm.symm)
      · rw [e]; exact HHE.out.eq
    · have hvk := RV.out.2.1 v hvl
      have hrle := rmv_lt hvl
      have hkv : v.size ≤ maxLen := RV.out.2.2.1 v hvk
      have hRR := HR.out
      have HBV : Hid (Below w6.heap.size w6 wn) := Lib.hid (BU.out.grown hgr (by have := BU.out.size; omega) (fun j hj => by cases hj; omega))
      have HOV : Hid (Own wn (R + 1) 59 4 (encHd s.hm) (.slice ya yL yc) dn) := Lib.hid (own_same OW.out fun j hj hjl => World.grownBy.block hgr j hjl (fun e => by cases e; omega))
      obtain ⟨w2', hw2⟩ : ∃ w2', w2' = wn.alloc (.cells #[.int .i64 (s.hm v).an.ve, .int .i64 (s.hm v).an.bo, .int .i64 (s.hm v).an.si, .bool (s.hm v).an.no, .string (s.hm v).an.fr, .int .i64 (s.hm v).us] 97) := ⟨_, rfl⟩
      have HB2' : Hid (Below w6.heap.size w6 w2') := Lib.hid (by rw [hw2]; exact HBV.out.alloc HBV.out.size _)
      have HR2 : Hid (RngH w2' b R D.pu s.hm s.ks (rmv v left)) := Lib.hid (by rw [hw2]; exact hrv.kept (World.grownBy_alloc wn _ none) (by simp) (by simp))
      have HO2 : Hid (Own w2' (R + 1) 59 4 (encHd s.hm) (.slice ya yL yc) dn) := Lib.hid (by rw [hw2]; exact HOV.out.al _)
      have hbk : w2'.heap[wn.heap.size]? = some (.cells #[.int .i64 (s.hm v).an.ve, .int .i64 (s.hm v).an.bo, .int .i64 (s.hm v).an.si, .bool (s.hm v).an.no, .string (s.hm v).an.fr, .int .i64 (s.hm v).us] 97 (0, 0)) := by rw [hw2]; exact block_new wn _
      have hlt2 : wn.heap.size < w2'.heap.size := (Array.getElem?_eq_some_iff.1 hbk).1
      have d0 : w2'.cell? ⟨wn.heap.size, 0, none⟩ = some (.int .i64 (s.hm v).an.ve) := cellF hbk 0 rfl
      have d1 : w2'.cell? ⟨wn.heap.size, 1, none⟩ = some (.int .i64 (s.hm v).an.bo) := cellF hbk 1 rfl
      have d5 : w2'.cell? ⟨wn.heap.size, 5, none⟩ = some (.int .i64 (s.hm v).us) := cellF hbk 5 rfl
      have HW2' := Lib.hid hw2
      have hen2 : (Instr.entry (.pointer (some ⟨R, 0, none⟩))).run Tryz.prog wn = .ok (.tuple #[.string v, .agg #[.int .i64 (s.hm v).an.ve, .int .i64 (s.hm v).an.bo, .int .i64 (s.hm v).an.si, .bool (s.hm v).an.no, .string (s.hm v).an.fr, .int .i64 (s.hm v).us]]) wn := hen
      have hrun2 : (Instr.next (.pointer (some ⟨R, 0, none⟩)) false 0).run Tryz.prog wq = .ok (.tuple #[.bool true, .string v, .agg #[.int .i64 (s.hm v).an.ve, .int .i64 (s.hm v).an.bo, .int .i64 (s.hm v).an.si, .bool (s.hm v).an.no, .string (s.hm v).an.fr, .int .i64 (s.hm v).us]]) wn := hrun
      have hle : (rmv v left).length + 1 ≤ left.length := hrle
      have HPM2 : Hid (((dn ++ [v]) ++ rmv v left).Perm s.ks) := Lib.hid (by
        have h1 := PM.out
        have hn : left.Nodup := RV.out.1
        have h2 : (v :: rmv v left).Perm left := by
          rw [List.perm_ext_iff_of_nodup (List.nodup_cons.2 ⟨fun h => (mem_rmv.1 h).2 rfl, rmv_nodup hn⟩) hn]
          intro a
          rw [List.mem_cons, mem_rmv]
          constructor
          · rintro (rfl | h)
            · exact hvl
            · exact h.1
          · intro h
            by_cases e : a = v
            · exact .inl e
            · exact .inr ⟨h, e⟩
        rw [List.append_assoc]
        exact (List.Perm.append_left dn h2).trans h1)
      have hsn : R + 1 ≤ w2'.heap.size := by omega
      clear hrv hgr hsz RV PM BU hvl hvk hbk hw2 hen hrun hrle HRI OW hkv hRR
      go_upto_region 15 with (fail)
      rw [← HW2'.out]
      obtain ⟨NN, hNN⟩ : ∃ NN, NN = wn.heap.size := ⟨_, rfl⟩
      rw [← hNN] at d0 d1 d5 ⊢
      clear hNN
      have HO5 : Hid (Own (w2'.alloc (.cells (encHd s.hm v).toArray 59)) (R + 1) 59 4 (encHd s.hm) (.slice ya yL yc) dn) := Lib.hid (HO2.out.al _)
      have HV5 : Hid ((w2'.alloc (.cells (encHd s.hm v).toArray 59)).heap[w2'.heap.size]? = some (.cells (encHd s.hm v).toArray 59 (0, 0))) := Lib.hid (block_new w2' _)
      have HR5' : Hid (RngH (w2'.alloc (.cells (encHd s.hm v).toArray 59)) b R D.pu s.hm s.ks (rmv v left)) := Lib.hid (HR2.out.kept (World.grownBy_alloc w2' _ none) (by simp) (by simp))
      have HB5' : Hid (Below w6.heap.size w6 (w2'.alloc (.cells (encHd s.hm v).toArray 59))) := Lib.hid (HB2'.out.alloc HB2'.out.size _)
      have hbs : R + 1 ≤ (w2'.alloc (.cells (encHd s.hm v).toArray 59)).heap.size := by simp; omega
      go_wp2_with (at_builtin; go_loud (refine wpList_pushB (enc := encHd s.hm) (v := .slice ya yL yc) (l := dn) rfl _ _ 55 rfl slHd (by decide) rfl rfl v rfl rfl HO5.out HV5.out (by omega) hbs ?_); intro v8 w8 ho8 hb8 hk8; have HO8 := Lib.hid ho8; have HB8 := Lib.hid hb8; have HK8 := Lib.hid hk8; clear ho8 hb8 hk8)
      obtain ⟨row, hg8, hr8⟩ := push_grown HO5.out HB8.out HK8.out
      have HBL' := HBL.out
      have hRR := HR.out
      have HR8 : Hid (RngH w8 b R D.pu s.hm s.ks (rmv v left)) := Lib.hid (HR5'.out.kept hg8 (hr8 b (by omega)) (hr8 R (by omega)))
      have HB9 : Hid (Below w6.heap.size w6 w8) := Lib.hid (HB5'.out.trans (HB8.out.mono (by omega)))
      go_roundg (rmv v left).length
      case measure => omega
      case rel => exact ⟨rmv v left, dn ++ [v], _, Nat.le_refl _, rfl, (show Aside _ from HR8.out), (show Aside _ from HO8.out), (show Aside _ from HPM2.out), (show Aside _ from HB9.out)⟩
end Go.Proofs.YtgohddfnhofjhaaGreatDoor

/- ruleOf of the reference. -/
namespace Go.Proofs.YtgohddfnhofjhaaGreatDoor
open Go.RowKit

/-- A number of an element; -1: none. -/
def numO : Option Nat → Int
  | none => -1
  | some j => j

set_option maxRecDepth 100000 in
set_option maxHeartbeats 4000000 in
theorem ruleOfR_any (w : World) (l : List Crl) (v : Value) (k : ByteArray) (hl : Sl w 4 encU v l) :
    Calls Tryz.prog 61 #[v, .string k] w fun e w' => e = .returned (.int .i64 (numO (ruI l k l.length))) ∧ Below w.heap.size w w' := by
  obtain ⟨ao, cap, rfl, hcap, hmax, hnil, hel⟩ := hl
  unfold maxLen at hmax
  have HEL := Lib.hid hel
  clear hel
  obtain ⟨Y, hY⟩ : ∃ Y, Y = numO (ruI l k l.length) := ⟨_, rfl⟩
  rw [← hY]
  have HY := Lib.hid hY
  clear hY
  go_enter Tryz.func61, Tryz.ntmps61
  go_wp2
  go_loopg [5, 6, 7, 10] l.length (fun gg s5 _ _ s10 wr => ∃ kk : Nat, kk ≤ l.length ∧ l.length - kk ≤ gg ∧ s10 = .int .i64 kk ∧ s5 = .int .i64 (numO (ruI l k kk)) ∧ Aside (Below w.heap.size w wr))
  case atStart => exact ⟨0, Nat.zero_le _, by omega, by go_num, rfl, Below.refl _ _⟩
  case round =>
    obtain ⟨kk, hkk, hg, rfl, rfl, BW⟩ := hrel
    have BW := Lib.hid BW.out
    by_cases hlt : kk < l.length
    · have hltz : (kk : Int) < (l.length : Int) := by omega
      obtain ⟨x, hx⟩ : ∃ x, l[kk]? = some x := ⟨l[kk], by simp [hlt]⟩
      obtain ⟨b, off, rfl, hc⟩ := HEL.out kk x hx
      have hlt0 := World.block_lt_of_cell? w ⟨b, off + kk * 4 + 0, none⟩ (hc 0 _ rfl)
      have BL := BW.out
      have hszw := BL.size
      have hbw : b < wr.heap.size := Nat.lt_of_lt_of_le hlt0 hszw
      have c0 : wr.cell? ⟨b, off + kk * 4, none⟩ = some (.string x.pr) := (BL.cell (p := ⟨b, off + kk * 4 + 0, none⟩) hlt0).trans (hc 0 _ rfl)
      have c1 : wr.cell? ⟨b, off + kk * 4 + 1, none⟩ = some (.int .i64 x.li) := (BL.cell (p := ⟨b, off + kk * 4 + 1, none⟩) hlt0).trans (hc 1 _ rfl)
      have c2 : wr.cell? ⟨b, off + kk * 4 + 2, none⟩ = some (.int .i64 x.st) := (BL.cell (p := ⟨b, off + kk * 4 + 2, none⟩) hlt0).trans (hc 2 _ rfl)
      have c3 : wr.cell? ⟨b, off + kk * 4 + 3, none⟩ = some (.int .i64 x.go) := (BL.cell (p := ⟨b, off + kk * 4 + 3, none⟩) hlt0).trans (hc 3 _ rfl)
      have HNI := Lib.hid (ruI_next (k := k) hx)
      have HT1 := Lib.hid (fun h => @ruT_hp l k kk x h)
      have HT2 := Lib.hid (fun h ho => @ruT_none l k kk x h ho)
      have HT3 := Lib.hid (fun j h ho => @ruT_some l k kk j x h ho)
      have HLT := Lib.hid (fun j ho => @ruI_lt l k j kk ho)
      have HHP := Lib.hid (fun (W : World) => Tryz.strings_HasPrefix k x.pr W)
      obtain ⟨h, hh⟩ : ∃ h, h = hpB k x.pr := ⟨_, rfl⟩
      have HH := Lib.hid hh
      obtain ⟨o, ho⟩ : ∃ o, o = ruI l k kk := ⟨_, rfl⟩
      rw [← ho] at HNI HT2 HT3 HLT ⊢
      have HOI := Lib.hid ho
      have HB0 := Lib.hid (BL.alloc hszw (.cells #[.string x.pr, .int .i64 x.li, .int .i64 x.st, .int .i64 x.go] 126))
      clear hx hc BL hh ho
      have HHP2 : Hid (∀ W : World, Calls Tryz.prog 93 #[.string k, .string x.pr] W fun e w' => e = .returned (.bool h) ∧ w' = W) := Lib.hid (fun W => by rw [HH.out]; exact HHP.out W)
      cases h
      case false =>
        have HN : Hid (ruI l k (kk + 1) = o) := Lib.hid (by rw [HNI.out, HT1.out HH.out.symm]; rfl)
        go_upto_region 5 with (fail)
        go_quiet ((go_at_call 93; exact Calls.quiet_of_same (HHP2.out _)))
        go_wp2
        go_roundg (l.length - (kk + 1))
        case measure => omega
        case rel => exact ⟨kk + 1, by omega, by omega, by go_num, by rw [HN.out], below_drewN HB0.out _⟩
      case true =>
        cases o
        case none =>
          have HN : Hid (ruI l k (kk + 1) = some kk) := Lib.hid (by rw [HNI.out, HT2.out HH.out.symm rfl]; rfl)
          have hno : numO none = -1 := rfl
          rw [hno]
          go_upto_region 5 with (fail)
          go_quiet ((go_at_call 93; exact Calls.quiet_of_same (HHP2.out _)))
          go_wp2
          go_roundg (l.length - (kk + 1))
          case measure => omega
          case rel => exact ⟨kk + 1, by omega, by omega, by go_num, by rw [HN.out]; rfl, below_drewN HB0.out _⟩
        case some j =>
          have hj := HLT.out j rfl
          obtain ⟨y, hy⟩ : ∃ y, l[j]? = some y := ⟨l[j]'(by omega), by simp [show j < l.length by omega]⟩
          obtain ⟨b', off', hao', hc'⟩ := HEL.out j y hy
          simp only [Option.some.injEq, Addr.mk.injEq, and_true] at hao'
          obtain ⟨rfl, rfl⟩ := hao'
          have p0 : wr.cell? ⟨b, off + j * 4, none⟩ = some (.string y.pr) := (BW.out.cell (p := ⟨b, off + j * 4 + 0, none⟩) hlt0).trans (hc' 0 _ rfl)
          have HT4 := Lib.hid (HT3.out j HH.out.symm rfl)
          have e4 : outU l (some j) = y := by show l.getD j default = y; exact getD_of hy
          rw [e4] at HT4
          have hno : numO (some j) = j := rfl
          rw [hno]
          have hjl : j < l.length := by omega
          clear hy hc' e4 hno
          by_cases hs : y.pr.size < x.pr.size
          · have HN : Hid (ruI l k (kk + 1) = some kk) := Lib.hid (by rw [HNI.out, HT4.out, decide_eq_true hs]; rfl)
            have hsz : (y.pr.size : Int) < (x.pr.size : Int) := by omega
            go_upto_region 5 with (fail)
            go_quiet ((go_at_call 93; exact Calls.quiet_of_same (HHP2.out _)))
            go_wp2
            go_roundg (l.length - (kk + 1))
            case measure => omega
            case rel => exact ⟨kk + 1, by omega, by omega, by go_num, by rw [HN.out]; rfl, below_drewN HB0.out _⟩
          · have HN : Hid (ruI l k (kk + 1) = some j) := Lib.hid (by rw [HNI.out, HT4.out, decide_eq_false hs]; rfl)
            have hsz : ¬ (y.pr.size : Int) < (x.pr.size : Int) := by omega
            go_upto_region 5 with (fail)
            go_quiet ((go_at_call 93; exact Calls.quiet_of_same (HHP2.out _)))
            go_wp2
            go_roundg (l.length - (kk + 1))
            case measure => omega
            case rel => exact ⟨kk + 1, by omega, by omega, by go_num, by rw [HN.out]; rfl, below_drewN HB0.out _⟩
    · obtain rfl : kk = l.length := by omega
      have hltz : ¬ (l.length : Int) < (l.length : Int) := by omega
      rw [← HY.out]
      go_wp2
      go_ret
      exact ⟨rfl, BW.out⟩
end Go.Proofs.YtgohddfnhofjhaaGreatDoor

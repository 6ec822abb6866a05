/- What is told while a timeline is played in stretches: bounds; the list of events. -/
import Derived.Test.YthpjgongplffnaaTopL
import Derived.Test.YthpjgongplffnaaInsF
namespace Go.Proofs.Ythpjgongplffnaa
open Go.RowKit

theorem apt_nodup {A : List Ev} (hA : A.Pairwise Apt) : (A.map fun e => ((e.pl, e.ad), e.ki)).Nodup := by
  unfold List.Nodup
  rw [List.pairwise_map]
  refine hA.imp ?_
  intro a b hab e
  simp only [Prod.mk.injEq] at e
  exact hab ⟨e.1.1, e.2⟩
theorem came_len_end {l : List Prt} (h : checkP l = 0) {s : ByteArray} {D : List Ev} (hD : Came l s (sumL l) D) : D.length ≤ 5000 := by
  obtain ⟨hap, hmem⟩ := hD
  have hperm : (D.map fun e => ((e.pl, e.ad), e.ki)).Perm ((allE l l.length).map fun e => ((e.pl, e.ad), e.ki)) := by
    refine (List.perm_ext_iff_of_nodup (apt_nodup hap) (apt_nodup (allE_apt l l.length))).2 fun x => ?_
    rw [List.mem_map, List.mem_map]
    constructor
    · rintro ⟨e, he, rfl⟩
      obtain ⟨i, h1, h3, h4, h5, h6, h7, _⟩ := (hmem e).1 he
      exact ⟨⟨⟨#[]⟩, e.pl, e.ad, e.ki⟩, (mem_allE _).2 ⟨i, h1, h3, rfl, h5, h6, h7.1, h7.2⟩, rfl⟩
    · rintro ⟨e, he, rfl⟩
      obtain ⟨i, h1, h3, h4, h5, h6, h7, h8⟩ := (mem_allE _).1 he
      exact ⟨⟨s, e.pl, e.ad, e.ki⟩, (hmem _).2 ⟨i, h1, h3, rfl, h5, h6, ⟨h7, h8⟩, tick_end h h1 _⟩, rfl⟩
  have h1 := hperm.length_eq
  rw [List.length_map, List.length_map] at h1
  have h2 : ∀ n, (allE l n).length ≤ n * 5 := by
    intro n
    induction n with
    | zero => simp [allE]
    | succ n ih =>
      show (allE l n ++ rowE l n).length ≤ _
      rw [List.length_append]
      have : (rowE l n).length ≤ 5 := by unfold rowE; split <;> simp
      omega
  have h3 := h2 l.length
  have h4 := (checkP_parts h).1
  omega
theorem sumL_nonneg {l : List Prt} (h : checkP l = 0) (k : Nat) : 0 ≤ sumL (l.take k) ∧ sumL (l.take k) ≤ 1000000000000000 ∧ sumL (l.take k) ≤ sumL l := by
  have hbd := checkP_bd h
  have h1 := (sumL_bd (l := l.take k) fun q hq => hbd q (List.mem_of_mem_take hq)).1
  have h2 := (sumL_bd (l := l.drop k) fun q hq => hbd q (List.mem_of_mem_drop hq)).1
  have e : sumL l = sumL (l.take k) + sumL (l.drop k) := by rw [← sumL_append, List.take_append_drop]
  have h3 := (checkP_parts h).2.2.1
  omega
theorem came_len {l : List Prt} (h : checkP l = 0) {s : ByteArray} {a : Int} {D : List Ev} (hD : Came l s a D) (ha : 0 ≤ a) (hs : a ≤ sumL l) : D.length ≤ 5000 := by
  have h1 := came_len_end h (came_next h hD ha hs (checkP_parts h).2.2.1)
  rw [List.length_append] at h1
  omega
/-- What is told: each event at the front and at the end. -/
def told2 (D : List Ev) : List Ev := D.reverse ++ D
theorem told2_next (D : List Ev) (x : Ev) : told2 (D ++ [x]) = (x :: told2 D) ++ [x] := by
  unfold told2
  rw [List.reverse_append]
  simp
/-- What came when some of a stretch is told. -/
def cameK (s : ByteArray) (D E : List Ev) (k : Nat) : List Ev := D ++ (E.take k).map (setS s)
theorem cameK_zero (s : ByteArray) (D E : List Ev) : cameK s D E 0 = D := by simp [cameK]
theorem cameK_all (s : ByteArray) (D E : List Ev) : cameK s D E E.length = D ++ E.map (setS s) := by simp [cameK]
theorem cameK_next {s : ByteArray} {D E : List Ev} {k : Nat} {x : Ev} (hx : E[k]? = some x) : told2 (cameK s D E (k + 1)) = (setS s x :: told2 (cameK s D E k)) ++ [setS s x] := by
  have : cameK s D E (k + 1) = cameK s D E k ++ [setS s x] := by
    unfold cameK
    rw [take_next hx, List.map_append, List.append_assoc]
    rfl
  rw [this, told2_next]
theorem cameK_len (s : ByteArray) (D E : List Ev) (k : Nat) : (told2 (cameK s D E k)).length ≤ 2 * (D.length + E.length) := by
  unfold told2 cameK
  simp only [List.length_append, List.length_reverse, List.length_map, List.length_take]
  omega
/-- The elements of a slice that the call has built, in one block. -/
theorem own_parts {α : Type} {w : World} {base : Nat} {E : TypeId} {k : Nat} {enc : α → List Value} {v : Value} {l : List α} (hk : ∀ x, (enc x).length = k) (h : Own w base E k enc v l) :
    ∃ ao cap P, v = .slice ao l.length cap ∧ l.length ≤ cap ∧ cap ≤ maxLen ∧ base ≤ P ∧ ∀ i x, l[i]? = some x → ao = some ⟨P, 0, none⟩ ∧ P < w.heap.size ∧ ∀ j u, (enc x)[j]? = some u → w.cell? ⟨P, i * k + j, none⟩ = some u := by
  by_cases hne : l = []
  · subst hne
    rcases Own.slw h with ⟨rfl, _⟩ | ⟨g, cap, rfl⟩
    · exact ⟨none, 0, base, rfl, by simp, by simp [maxLen], Nat.le_refl _, fun i x hx => by simp at hx⟩
    · obtain ⟨h1, h2⟩ := h
      rcases h2 with ⟨h2, _⟩ | ⟨g', cap', cur, hv, hg, hh, hn, hm, _⟩
      · cases h2
      · simp only [Value.slice.injEq, Option.some.injEq, Addr.mk.injEq, and_true, true_and] at hv
        obtain ⟨rfl, rfl⟩ := hv
        exact ⟨_, cap, g, rfl, hn, hm, hg, fun i x hx => by simp at hx⟩
  · obtain ⟨g, cap, rfl, h1, h2, h3, h4, h5, _⟩ := Own.getk hk h hne
    exact ⟨_, cap, g, rfl, h3, h4, h1, fun i x hx => ⟨rfl, h2, fun j u hu => h5 i x j u hx hu⟩⟩
theorem offB_lt {α : Type} {w : World} {base P : Nat} {E : TypeId} {k : Nat} {enc : α → List Value} {v : Value} {l : List α} (h : Own w base E k enc v l) (hP : w.heap.size ≤ P) : offB P v := by
  have hlt := World.ownsRow.lt h
  rcases h.2 with ⟨rfl, _⟩ | ⟨g, cap, cur, rfl, _⟩
  · exact offB.nil P
  · exact offB.mk (by have := (hlt g rfl).2; omega)
theorem sumK_take {A : List Cnt} {k : Nat} {c : Cnt} (hx : A[k]? = some c) : sumK (A.take (k + 1)) = sumK (A.take k) + c.k0 := by
  rw [take_next hx, sumK_append]
  simp [sumK]
theorem sumK_nonneg {A : List Cnt} (h : ∀ c ∈ A, 0 ≤ c.k0) : 0 ≤ sumK A := by
  induction A with
  | nil => exact Int.le_refl 0
  | cons c r ih =>
    have h1 := h c (by simp)
    have h2 := ih fun d hd => h d (by simp [hd])
    simp only [sumK]
    omega
theorem sumK_le {A : List Cnt} (h : ∀ c ∈ A, 0 ≤ c.k0) (k : Nat) : 0 ≤ sumK (A.take k) ∧ sumK (A.take k) ≤ sumK A := by
  have h1 := sumK_nonneg (A := A.take k) fun c hc => h c (List.mem_of_mem_take hc)
  have h2 := sumK_nonneg (A := A.drop k) fun c hc => h c (List.mem_of_mem_drop hc)
  have e : sumK A = sumK (A.take k) + sumK (A.drop k) := by rw [← sumK_append, List.take_append_drop]
  omega
theorem adsN_le (l : List Prt) : adsN l ≤ l.length := List.countP_le_length
theorem adsN_next {l : List Prt} {k : Nat} {p : Prt} (hx : l[k]? = some p) : adsN (l.take (k + 1)) = adsN (l.take k) + if noAd p = true then 0 else 1 := by
  rw [take_next hx]
  unfold adsN
  rw [List.countP_append, List.countP_singleton]
  cases noAd p <;> rfl
/-- What is told so far, beside a block P that stays as it was in w5. -/
structure TS (w3 w5 : World) (N1 N5 P : Nat) (W : World) (v : Value) (l : List Ev) : Prop where
  own : Own W N1 34 4 encE v l
  bel : Below N1 w3 W
  off : offB P v
  sz : N5 ≤ W.heap.size
  blk : W.heap[P]? = w5.heap[P]?
theorem TS.alloc {w3 w5 W : World} {N1 N5 P : Nat} {v : Value} {l : List Ev} (h : TS w3 w5 N1 N5 P W v l) (h1 : N1 ≤ N5) (hP : P < N5) (o : Obj) : TS w3 w5 N1 N5 P (W.alloc o) v l :=
  ⟨h.own.al o, h.bel.alloc (Nat.le_trans h1 h.sz) o, h.off, by have := h.sz; simp; omega, (Below.heap_alloc W o P (Nat.lt_of_lt_of_le hP h.sz)).trans h.blk⟩
theorem TS.drew {w3 w5 W : World} {N1 N5 P : Nat} {v : Value} {l : List Ev} (h : TS w3 w5 N1 N5 P W v l) : TS w3 w5 N1 N5 P W.drew v l := ⟨h.own, h.bel.drew, h.off, h.sz, h.blk⟩
theorem TS.step {w3 w5 W W' : World} {N1 N5 P : Nat} {v v' : Value} {l l' : List Ev} (h : TS w3 w5 N1 N5 P W v l) (hP : P < N5) (ho : Own W' N1 34 4 encE v' l') (hb : Below N1 W W') (hk : KeepB W W' v v') : TS w3 w5 N1 N5 P W' v' l' := by
  obtain ⟨k1, k2⟩ := hk P (Nat.lt_of_lt_of_le hP h.sz) h.off
  exact ⟨ho, h.bel.trans hb, k2, Nat.le_trans h.sz hb.size, k1.trans h.blk⟩
theorem KeepB.blk {w w' : World} {v v' : Value} {b : Nat} (h : KeepB w w' v v') (hb : b < w.heap.size) (ho : offB b v) : w'.heap[b]? = w.heap[b]? := (h b hb ho).1
end Go.Proofs.Ythpjgongplffnaa

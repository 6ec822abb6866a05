/- What Counts answers: plain; and how slices that two hands build stand side by side. -/
import Derived.Test.YthpjgongplffnaaNamL
import Derived.Test.YthpjgongplffnaaKeep
namespace Go.Proofs.Ythpjgongplffnaa
open Go.RowKit

/-- The fault of an event. -/
def evF (e : Ev) : Int := if (!nameB e.se || !nameB e.ad) = true then 5 else if outB e.ki 1 5 = true then 4 else 0
def evA (es : List Ev) (i : Nat) : Int := evF (es.getD i default)
/-- The fault of Counts. -/
def cntF (l : List Prt) (es : List Ev) : Int := if checkP l ≠ 0 then checkP l else if 5000 < es.length then 2 else FF (evA es) es.length
/-- Was all told of a key up to kind n + 1? -/
def upTo (G : List Ev) (v : Vk) : Nat → Bool
  | 0 => toldL G v.se v.pl 1
  | n + 1 => upTo G v n && toldL G v.se v.pl (n + 2)
/-- How many events among S begin an advertisement and are told up to kind n + 1? -/
def isK (G : List Ev) (ad : ByteArray) (n : Nat) (e : Ev) : Bool := (e.ad.toList == ad.toList && (e.ki == 1)) && upTo G (keyE e) n
def cK (G : List Ev) (ad : ByteArray) (n : Nat) (S : List Ev) : Nat := S.countP (isK G ad n)
theorem cK_le (G : List Ev) (ad : ByteArray) (n : Nat) (S : List Ev) : cK G ad n S ≤ S.length := List.countP_le_length
def cntS (G : List Ev) (ad : ByteArray) (S : List Ev) : Cnt := ⟨ad, cK G ad 0 S, cK G ad 1 S, cK G ad 2 S, cK G ad 3 S, cK G ad 4 S⟩
def cntL (l : List Prt) (G : List Ev) : List Cnt := (nmN l l.length).map fun ad => cntS G ad G
/-- What Counts answers: counts, the places of idle ones, a fault. -/
def cntA (l : List Prt) (es : List Ev) : List Cnt := if cntF l es ≠ 0 then [] else cntL l (stN l es es.length).1
def cntI (l : List Prt) (es : List Ev) : List Int := if cntF l es ≠ 0 then [] else (stN l es es.length).2
def CntPost (w : World) (l : List Prt) (es : List Ev) : Ending → World → Prop :=
  fun e w' => ∃ v1 v2, e = .returned (.tuple #[v1, v2, .int .i64 (cntF l es)]) ∧ Sl w' 6 encK v1 (cntA l es) ∧ Sl w' 1 encI v2 (cntI l es) ∧ Below w.heap.size w w'
theorem CntPost.fail {w w' : World} {l : List Prt} {es : List Ev} {f : Int} (hf : cntF l es = f) (h0 : f ≠ 0) (hb : Below w.heap.size w w') : CntPost w l es (.returned (.tuple #[.slice none 0 0, .slice none 0 0, .int .i64 f])) w' :=
  ⟨_, _, by rw [hf], by unfold cntA; rw [if_pos (by rw [hf]; exact h0)]; exact Sl.nil, by unfold cntI; rw [if_pos (by rw [hf]; exact h0)]; exact Sl.nil, hb⟩
theorem CntPost.mk {w w' : World} {l : List Prt} {es : List Ev} {v1 v2 : Value} (hf : cntF l es = 0) (h1 : Sl w' 6 encK v1 (cntL l (stN l es es.length).1)) (h2 : Sl w' 1 encI v2 (stN l es es.length).2) (hb : Below w.heap.size w w') : CntPost w l es (.returned (.tuple #[v1, v2, .int .i64 0])) w' :=
  ⟨_, _, by rw [hf], by unfold cntA; rw [if_neg (by rw [hf]; simp)]; exact h1, by unfold cntI; rw [if_neg (by rw [hf]; simp)]; exact h2, hb⟩
theorem evA_of {es : List Ev} {i : Nat} {e : Ev} (hx : es[i]? = some e) : evA es i = evF e := by
  have : es.getD i default = e := by rw [List.getD_eq_getElem?_getD, hx]; rfl
  unfold evA
  rw [this]

theorem Own.keepT {α : Type} {w w' : World} {base : Nat} {E E' : TypeId} {k : Nat} {enc : α → List Value} {v : Value} {l : List α} (h : Own w base E k enc v l) (hk : KeepT E' w w') (hne : E ≠ E') : Own w' base E k enc v l := by
  obtain ⟨q1, q2⟩ := h
  refine ⟨q1, ?_⟩
  rcases q2 with q2 | ⟨g, cap, cur, e1, e2, e3, r⟩
  · exact Or.inl q2
  · exact Or.inr ⟨g, cap, cur, e1, e2, hk _ _ _ _ e3 hne, r⟩
theorem cK_next {G : List Ev} {ad : ByteArray} {n : Nat} {i : Nat} {e : Ev} (hx : G[i]? = some e) : (cK G ad n (G.take (i + 1)) : Int) = cK G ad n (G.take i) + if isK G ad n e = true then 1 else 0 := by
  rw [take_next hx]
  unfold cK
  rw [List.countP_append, List.countP_singleton]
  split <;> simp
/-- One more where a number lies below k. -/
def dK (k n : Int) : Int := if n + 1 < k then 1 else 0
theorem dK_up {G : List Ev} {v : Vk} {k : Int} {n : Nat} (h1 : 1 ≤ k) (h6 : k ≤ 6) (h5 : n < 5) (hup : ∀ m : Nat, (m : Int) + 1 < k → upTo G v m = true) (hend : k ≤ 5 → toldL G v.se v.pl k = false) : dK k n = if upTo G v n = true then 1 else 0 := by
  unfold dK
  by_cases h : (n : Int) + 1 < k
  · rw [if_pos h, if_pos (hup n h)]
  · rw [if_neg h]
    have hk5 : k ≤ 5 := by omega
    have ht := hend hk5
    obtain ⟨j, rfl⟩ : ∃ j : Nat, k = (j : Int) + 1 := ⟨(k - 1).toNat, by omega⟩
    have hj : upTo G v j = false := by
      cases j with
      | zero => exact ht
      | succ j =>
        show (upTo G v j && toldL G v.se v.pl ((j : Int) + 2)) = false
        have : ((j + 1 : Nat) : Int) + 1 = (j : Int) + 2 := by omega
        rw [this] at ht
        rw [ht, Bool.and_false]
    have mono : ∀ m, j ≤ m → upTo G v m = false := by
      intro m
      induction m with
      | zero =>
        intro h
        obtain rfl : j = 0 := by omega
        exact hj
      | succ m ih =>
        intro h
        by_cases e : j = m + 1
        · subst e; exact hj
        · show (upTo G v m && _) = false
          rw [ih (by omega), Bool.false_and]
    rw [if_neg (by rw [mono n (by omega)]; simp)]
theorem upTo_next {G : List Ev} {v : Vk} {k : Int} (h1 : 1 ≤ k) (hup : ∀ m : Nat, (m : Int) + 1 < k → upTo G v m = true) (ht : toldL G v.se v.pl k = true) : ∀ m : Nat, (m : Int) + 1 < k + 1 → upTo G v m = true := by
  intro m hm
  by_cases e : (m : Int) + 1 < k
  · exact hup m e
  · obtain rfl : k = (m : Int) + 1 := by omega
    cases m with
    | zero => exact ht
    | succ m =>
      show (upTo G v m && toldL G v.se v.pl ((m : Int) + 2)) = true
      rw [hup m (by omega), Bool.true_and]
      have : ((m + 1 : Nat) : Int) + 1 = (m : Int) + 2 := by omega
      rw [← this]
      exact ht
theorem infoEv : (Try.prog.info? 34).map (fun i => (i.zero, i.size, i.bytes)) = some (some (.agg #[.string ByteArray.empty, .int .i64 0, .string ByteArray.empty, .int .i64 0]), 4, 48) := by kernel_rfl
theorem slE : SlT Try.prog 29 34 4 48 := by
  obtain ⟨i0, hi, hz0, hz1, hz2⟩ := info_parts infoEv
  exact ⟨i0, _, Try.underlying29, hi, hz0, hz1, hz2, rfl, by decide, by decide⟩
theorem infoCn : (Try.prog.info? 41).map (fun i => (i.zero, i.size, i.bytes)) = some (some (.agg #[.string ByteArray.empty, .int .i64 0, .int .i64 0, .int .i64 0, .int .i64 0, .int .i64 0]), 6, 56) := by kernel_rfl
theorem slK : SlT Try.prog 36 41 6 56 := by
  obtain ⟨i0, hi, hz0, hz1, hz2⟩ := info_parts infoCn
  exact ⟨i0, _, Try.underlying36, hi, hz0, hz1, hz2, rfl, by decide, by decide⟩
end Go.Proofs.Ythpjgongplffnaa

/- Normal, of a request without %, with fewer than 20 parts. -/
import Derived.Test.YtmgbmoiefgfemaaDoorSrtS
namespace Go.Proofs.YtmgbmoiefgfemaaDoor
open Go.RowKit Go.Lib Go.Sort Go.Shelf

def keepP (D : List ByteArray) (x : ByteArray) : Bool := !decide (x = ⟨#[]⟩) && !containsS D (nameP x)
/-- The parts among the first n words that are kept. -/
def parF (W D : List ByteArray) : Nat → List ByteArray
  | 0 => []
  | n + 1 => if keepP D (W.getD n ⟨#[]⟩) = true then parF W D n ++ [W.getD n ⟨#[]⟩] else parF W D n
theorem parF_next {W D : List ByteArray} {n : Nat} {x : ByteArray} (hx : W[n]? = some x) : parF W D (n + 1) = if keepP D x = true then parF W D n ++ [x] else parF W D n := by
  rw [parF, List.getD_eq_getElem?_getD, hx, Option.getD_some]
theorem parF_len (W D : List ByteArray) : ∀ n, (parF W D n).length ≤ n
  | 0 => Nat.le_refl _
  | n + 1 => by
    have := parF_len W D n
    unfold parF
    split
    · simp; omega
    · omega
theorem parF_mem (W D : List ByteArray) : ∀ n, n ≤ W.length → ∀ x, x ∈ parF W D n → x ∈ W
  | 0, _, x, h => by simp [parF] at h
  | n + 1, hn, x, h => by
    have ih := parF_mem W D n (by omega)
    unfold parF at h
    split at h
    · rw [List.mem_append, List.mem_singleton] at h
      rcases h with h | rfl
      · exact ih x h
      · rw [List.getD_eq_getElem?_getD, List.getElem?_eq_getElem (by omega), Option.getD_some]
        exact List.getElem_mem _
    · exact ih x h
/-- Strings as parts. -/
def toPt (x : ByteArray) : Pt := if h : x.size ≤ 1000 then ⟨x, h⟩ else default
theorem toPt_val {x : ByteArray} (h : x.size ≤ 1000) : (toPt x).1 = x := by simp [toPt, h]
def sortB (L : List ByteArray) : List ByteArray := (insP (L.map toPt)).map (·.1)
theorem flat_pt {L : List ByteArray} (h : ∀ x, x ∈ L → x.size ≤ 1000) : (L.map toPt).flatMap encP1 = L.flatMap encS := by
  induction L with
  | nil => rfl
  | cons x r ih =>
    rw [List.map_cons, List.flatMap_cons, List.flatMap_cons, ih (fun y hy => h y (by simp [hy]))]
    show [Value.string (toPt x).1] ++ _ = _
    rw [toPt_val (h x (by simp))]
    rfl
theorem flat_val (L : List Pt) : (L.map (·.1)).flatMap encS = L.flatMap encP1 := by
  induction L with
  | nil => rfl
  | cons x r ih => rw [List.map_cons, List.flatMap_cons, List.flatMap_cons, ih]; rfl
theorem sortB_len (L : List ByteArray) : (sortB L).length = L.length := by simp [sortB, insP_len]
/-- SortStableFunc of fewer than 20 parts. -/
theorem sortB_any (w : World) (base : Nat) (v : Value) (L : List ByteArray) (m : Int) (hb0 : 0 < base) (hm : w.cell? ⟨0, 0, none⟩ = some (.int .i64 m)) (h : Own w base 9 1 encS v L) (hs : ∀ x, x ∈ L → x.size ≤ 1000) (hn : L.length < 20) :
    Calls Tryd.prog 56 #[v, .func (.func 57) #[] #[]] w fun e w' => e = .returned (.tuple #[]) ∧ Own w' base 9 1 encS v (sortB L) ∧ Below base w w' := by
  have h2 : Own w base 9 1 encP1 v (L.map toPt) := by
    unfold Own at h ⊢
    rw [flat_pt hs, List.length_map]
    exact h
  refine (stable_any w base v (L.map toPt) m hb0 hm h2 (by simpa using hn)).mono ?_
  rintro e w' ⟨h3, h4, h5⟩
  refine ⟨h3, ?_, h5⟩
  unfold Own at h4 ⊢
  unfold sortB
  rw [flat_val, List.length_map]
  exact h4

def cutP (s sep : ByteArray) : ByteArray := ⟨(Lib.cut s.data.toList sep.data.toList).1.toArray⟩
def cutQ (s sep : ByteArray) : ByteArray := ⟨(Lib.cut s.data.toList sep.data.toList).2.1.toArray⟩
/-- The parts of the query of a request that are kept. -/
def partsQ (s : ByteArray) (D : List ByteArray) : List ByteArray := parF (wordsB (cutQ s ⟨#[63]⟩) ⟨#[38]⟩) D (wordsB (cutQ s ⟨#[63]⟩) ⟨#[38]⟩).length
/-- The key of a decoded request. -/
def normB (s : ByteArray) (D : List ByteArray) : ByteArray :=
  if 0 < (partsQ s D).length then tidyB (wordsB (cutP s ⟨#[63]⟩) ⟨#[47]⟩) ++ (⟨#[63]⟩ ++ joinB (sortB (partsQ s D)) ⟨#[38]⟩) else tidyB (wordsB (cutP s ⟨#[63]⟩) ⟨#[47]⟩)

theorem joinB_size {L : List ByteArray} {sep : ByteArray} (h : ∀ x, x ∈ L → x.size ≤ 1000) (hL : L.length ≤ 1000) (hs : sep.size ≤ 10) : (joinB L sep).size ≤ 1010000 := by
  have h1 := joinB_len (sep := sep) h
  have h2 : (1000 + sep.size) * L.length ≤ 1010 * 1000 := Nat.mul_le_mul (by omega) hL
  unfold joinB
  rw [mk_size]
  omega
theorem tidyB_size {ps : List ByteArray} (h : ∀ x, x ∈ ps → x.size ≤ 1000) (hl : ps.length ≤ 1000) : (tidyB ps).size ≤ 1010002 := by
  have h1 := joinB_size (L := tidL ps ps.length) (sep := ⟨#[47]⟩) (fun x hx => h x (tidL_mem ps _ (Nat.le_refl _) x hx)) (by have := tidL_len ps ps.length; omega) (by decide)
  have h2 : (⟨#[47]⟩ : ByteArray).size = 1 := rfl
  unfold tidyB
  split
  · rw [ByteArray.size_append, ByteArray.size_append]; omega
  · rw [ByteArray.size_append]; omega
theorem sortB_mem {L : List ByteArray} {x : ByteArray} (h : x ∈ sortB L) : x.size ≤ 1000 := by
  unfold sortB at h
  rw [List.mem_map] at h
  obtain ⟨y, _, rfl⟩ := h
  exact y.2
theorem contains_any (D : List ByteArray) (x : ByteArray) (v : Value) (w : World) (h : Sl w 1 encS v D) :
    Calls Tryd.prog 54 #[v, .string x] w fun e w' => e = .returned (.bool (containsS D x)) ∧ w' = w := by
  obtain ⟨ao, cap, rfl, hcap, hmax, hnil, hel⟩ := h
  unfold maxLen at hmax
  by_cases he : D = []
  · subst he
    have hc : containsS [] x = false := rfl
    rw [hc]
    exact Tryd.slices_Contains_string_empty ao cap x w
  · have h0 : 0 < D.length := List.length_pos_iff.2 he
    obtain ⟨b, off, rfl, _⟩ := hel 0 D[0] (by simp)
    have h2 := Tryd.slices_Contains_string b off D.length cap D x w (Nat.le_refl _) (by omega) (fun j hj => by
      obtain ⟨b', off', e, hc⟩ := hel j D[j] (by simp)
      simp only [Option.some.injEq, Addr.mk.injEq, and_true] at e
      obtain ⟨rfl, rfl⟩ := e
      have := hc 0 _ rfl
      simp only [Nat.mul_one, Nat.add_zero] at this
      rw [this]
      simp [List.getD_eq_getElem?_getD, hj])
    rw [List.take_length] at h2
    exact h2
end Go.Proofs.YtmgbmoiefgfemaaDoor

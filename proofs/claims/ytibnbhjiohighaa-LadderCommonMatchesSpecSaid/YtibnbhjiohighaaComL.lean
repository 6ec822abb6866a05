/- Films, the rates of all, and what a choice of rates is worth; plain. -/
import Derived.Test.YtibnbhjiohighaaCmpcK
import Derived.Test.YtibnbhjiohighaaBstVK
namespace Go.Proofs.Ytibnbhjiohighaa
open Go.RowKit

structure Flm where
  v : Value
  l : List Rng
instance : Inhabited Flm := ⟨⟨.slice none 0 0, []⟩⟩
abbrev encFl (f : Flm) : List Value := [f.v]
theorem encFl_len (f : Flm) : (encFl f).length = 1 := rfl
/-- A film among the arguments. -/
def WfF (w : World) (f : Flm) : Prop := Sl w 4 encR f.v f.l ∧ ∀ x, x ∈ f.l → WfR x
def raOf (l : List Rng) : List Int := l.map fun x => x.ra
def allRa (F : List Flm) : List Int := F.flatMap fun f => raOf f.l
/-- The different rates, increasing. -/
def rts (F : List Flm) : List Int := Lib.compact (sortI (allRa F))
def ratesAt (R L : List Int) : List Int := L.map fun k => R.getD k.toNat 0
/-- The best quality at some rates, of the first k renditions. -/
def topA (l : List Rng) (S : List Int) : Nat → Int
  | 0 => 0
  | k + 1 => match l[k]? with | none => topA l S k | some x => if S.contains x.ra = true then max (topA l S k) x.qu else topA l S k
def topF (l : List Rng) (S : List Int) : Int := topA l S l.length
def sumA (F : List Flm) (W S : List Int) : Nat → Int
  | 0 => 0
  | k + 1 => sumA F W S k + W.getD k 0 * topF (F.getD k default).l S
/-- What a choice of rates is worth. -/
def comV (F : List Flm) (W R L : List Int) : Int := sumA F W (ratesAt R L) F.length
theorem topA_at {l : List Rng} {S : List Int} {k : Nat} {x : Rng} (hx : l[k]? = some x) : topA l S (k + 1) = if S.contains x.ra = true then max (topA l S k) x.qu else topA l S k := by rw [topA, hx]
theorem topA_bnd {l : List Rng} (h : ∀ x, x ∈ l → 0 ≤ x.qu ∧ x.qu ≤ 1000000) (S : List Int) : ∀ k, 0 ≤ topA l S k ∧ topA l S k ≤ 1000000
  | 0 => by simp [topA]
  | k + 1 => by
    have ih := topA_bnd h S k
    rw [topA]
    split
    · exact ih
    · rename_i x hx
      have := h x (List.mem_of_getElem? hx)
      split <;> omega
theorem topA_nil (l : List Rng) : ∀ k, topA l [] k = 0
  | 0 => rfl
  | k + 1 => by
    rw [topA, topA_nil l k]
    split <;> simp
theorem sumA_bnd {F : List Flm} {W : List Int} (hq : ∀ f, f ∈ F → ∀ x, x ∈ f.l → 0 ≤ x.qu ∧ x.qu ≤ 1000000) (hw : ∀ x, x ∈ W → 1 ≤ x ∧ x ≤ 1000000) (hl : W.length = F.length) (S : List Int) : ∀ k, k ≤ F.length → 0 ≤ sumA F W S k ∧ sumA F W S k ≤ k * 1000000000000
  | 0, _ => by simp [sumA]
  | k + 1, hk => by
    have ih := sumA_bnd hq hw hl S k (by omega)
    have hf : F.getD k default ∈ F := by
      rw [List.getD_eq_getElem?_getD, List.getElem?_eq_getElem (by omega)]
      exact List.getElem_mem _
    have h1 := topA_bnd (hq _ hf) S (F.getD k default).l.length
    have hwk : W.getD k 0 ∈ W := by
      rw [List.getD_eq_getElem?_getD, List.getElem?_eq_getElem (by omega)]
      exact List.getElem_mem _
    have h2 := hw _ hwk
    rw [sumA]
    have h3 : 0 ≤ W.getD k 0 * topF (F.getD k default).l S := Int.mul_nonneg (by omega) h1.1
    have h4 : W.getD k 0 * topF (F.getD k default).l S ≤ 1000000 * 1000000 := Int.mul_le_mul h2.2 h1.2 h1.1 (by omega)
    omega
theorem sumA_nil (F : List Flm) (W : List Int) : ∀ k, sumA F W [] k = 0
  | 0 => rfl
  | k + 1 => by rw [sumA, sumA_nil F W k, topF, topA_nil]; simp
theorem comV_nil (F : List Flm) (W R : List Int) : comV F W R [] = 0 := sumA_nil F W _
theorem allRa_next {F : List Flm} {k : Nat} {f : Flm} (hf : F[k]? = some f) : allRa (F.take (k + 1)) = allRa (F.take k) ++ raOf f.l := by
  rw [take_next hf]
  unfold allRa
  rw [List.flatMap_append]
  simp
theorem raOf_next {l : List Rng} {k : Nat} {x : Rng} (hx : l[k]? = some x) : raOf (l.take (k + 1)) = raOf (l.take k) ++ [x.ra] := by
  rw [take_next hx]
  simp [raOf]
theorem allRa_len {F : List Flm} (h : ∀ f, f ∈ F → f.l.length ≤ 100) : (allRa F).length ≤ 100 * F.length := by
  induction F with
  | nil => simp [allRa]
  | cons f r ih =>
    have h1 := h f (by simp)
    have h2 := ih (fun g hg => h g (by simp [hg]))
    unfold allRa at h2 ⊢
    rw [List.flatMap_cons, List.length_append]
    simp only [List.length_cons, raOf, List.length_map] at *
    omega
/-- The fault of films. -/
def fF (F : List Flm) (i : Nat) : Int := checkR (F.getD i default).l
def comFa (F : List Flm) (W : List Int) (m : Int) : Int :=
  if 50 < F.length then 2 else if FF (fF F) F.length ≠ 0 then FF (fF F) F.length else if W.length ≠ F.length then 3 else if W.any (fun x => outB x 1 1000000) = true then 1 else if outB m 0 100 = true then 1 else if 14 < (rts F).length then 2 else 0
theorem com_zero {F : List Flm} {W : List Int} {m : Int} (h : comFa F W m = 0) : F.length ≤ 50 ∧ (∀ f, f ∈ F → checkR f.l = 0) ∧ W.length = F.length ∧ (∀ x, x ∈ W → 1 ≤ x ∧ x ≤ 1000000) ∧ (0 ≤ m ∧ m ≤ 100) ∧ (rts F).length ≤ 14 := by
  unfold comFa at h
  split at h
  · cases h
  rename_i h1
  split at h
  · rename_i h2; exact absurd h h2
  rename_i h2
  split at h
  · cases h
  rename_i h3
  split at h
  · cases h
  rename_i h4
  split at h
  · cases h
  rename_i h5
  split at h
  · cases h
  rename_i h6
  refine ⟨by omega, fun f hf => ?_, by omega, fun x hx => ?_, outB_no' h5, by omega⟩
  · obtain ⟨i, hi, rfl⟩ := List.mem_iff_getElem.1 hf
    have := FF_eq_zero (by simpa using h2) i hi
    unfold fF at this
    rw [List.getD_eq_getElem?_getD, List.getElem?_eq_getElem hi] at this
    exact this
  · have h7 : W.any (fun x => outB x 1 1000000) = false := by simpa using h4
    rw [List.any_eq_false] at h7
    exact outB_no' (h7 x hx)
/-- Rates, what they are worth, and a fault. -/
def CoP (w : World) (F : List Flm) (W : List Int) (m : Int) : Ending → World → Prop := fun e w' => ∃ v O z B, e = .returned (.tuple #[v, .int .i64 z, .int .i64 (comFa F W m)]) ∧ Sl w' 1 encI v O ∧ Below w.heap.size w w' ∧
  (comFa F W m = 0 → bestW (comV F W (rts F)) (rts F).length m.toNat B ∧ O = ratesAt (rts F) B ∧ z = comV F W (rts F) B) ∧ (comFa F W m ≠ 0 → O = [] ∧ z = 0)
theorem CoP.bad {w w' : World} {F : List Flm} {W : List Int} {m f : Int} (hf : f = comFa F W m) (h0 : f ≠ 0) (hb : Below w.heap.size w w') : CoP w F W m (.returned (.tuple #[.slice none 0 0, .int .i64 0, .int .i64 f])) w' :=
  ⟨_, [], 0, [], by rw [hf], Sl.nil, hb, fun h => absurd (hf.trans h) h0, fun _ => ⟨rfl, rfl⟩⟩
theorem CoP.good {w w' : World} {F : List Flm} {W : List Int} {m f z : Int} {v : Value} {B O : List Int} (hf : f = comFa F W m) (h0 : f = 0) (hs : Sl w' 1 encI v O) (hb : Below w.heap.size w w') (hB : bestW (comV F W (rts F)) (rts F).length m.toNat B) (hO : O = ratesAt (rts F) B) (hz : z = comV F W (rts F) B) : CoP w F W m (.returned (.tuple #[v, .int .i64 z, .int .i64 f])) w' :=
  ⟨v, O, z, B, by rw [hf], hs, hb, fun _ => ⟨hB, hO, hz⟩, fun h => absurd (hf.symm.trans h0) h⟩
end Go.Proofs.Ytibnbhjiohighaa

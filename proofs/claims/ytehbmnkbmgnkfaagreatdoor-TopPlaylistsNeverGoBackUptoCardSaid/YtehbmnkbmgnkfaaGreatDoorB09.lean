/- Best of keys: what a cache finds at most: plain. -/
import Derived.Test.YtehbmnkbmgnkfaaGreatDoorB08
import Derived.Maps.RangeWalk
import Derived.Maps.Ext
import Derived.Maps.OwnSet
import Derived.Maps.Views
import Derived.StringKeys
import Derived.Test.YtehbmnkbmgnkfaaGreatDoorB03
import Derived.Test.YtehbmnkbmgnkfaaGreatDoorB05
namespace Go.Proofs.YtehbmnkbmgnkfaaGreatDoor
open Go.RowKit

theorem ba_eq {a b : ByteArray} (h : a.toList = b.toList) : a = b := by
  rw [ByteArray.toList_eq, ByteArray.toList_eq] at h
  obtain ⟨⟨x⟩⟩ := a
  obtain ⟨⟨y⟩⟩ := b
  simp only at h
  rw [h]
/-- The first place from k on at which x is asked for; the number of keys: none. -/
def nuF (K : List ByteArray) (x : ByteArray) : Nat → Nat → Nat
  | 0, _ => K.length
  | d + 1, k => if keyA K k = x then k else nuF K x d (k + 1)
def nxU (K : List ByteArray) (x : ByteArray) (k : Nat) : Nat := nuF K x (K.length - k) k
theorem nxU_end (K : List ByteArray) (x : ByteArray) {k : Nat} (h : K.length ≤ k) : nxU K x k = K.length := by
  unfold nxU
  rw [show K.length - k = 0 by omega]
  rfl
theorem nxU_here {K : List ByteArray} {x : ByteArray} {k : Nat} (h : k < K.length) (hx : keyA K k = x) : nxU K x k = k := by
  unfold nxU
  rw [show K.length - k = (K.length - k - 1) + 1 by omega]
  show (if keyA K k = x then k else _) = k
  rw [if_pos hx]
theorem nxU_on {K : List ByteArray} {x : ByteArray} {k : Nat} (h : k < K.length) (hx : ¬ keyA K k = x) : nxU K x k = nxU K x (k + 1) := by
  unfold nxU
  rw [show K.length - k = (K.length - (k + 1)) + 1 by omega]
  show (if keyA K k = x then k else _) = _
  rw [if_neg hx]
theorem nxU_bd (K : List ByteArray) (x : ByteArray) : ∀ d k, K.length - k = d → nxU K x k ≤ K.length ∧ (nxU K x k < K.length → k ≤ nxU K x k ∧ keyA K (nxU K x k) = x)
  | 0, k, h => by
    rw [nxU_end K x (by omega)]
    exact ⟨Nat.le_refl _, fun h => absurd h (Nat.lt_irrefl _)⟩
  | d + 1, k, h => by
    by_cases hx : keyA K k = x
    · rw [nxU_here (by omega) hx]
      exact ⟨by omega, fun _ => ⟨Nat.le_refl _, hx⟩⟩
    · rw [nxU_on (by omega) hx]
      obtain ⟨h1, h2⟩ := nxU_bd K x d (k + 1) (by omega)
      exact ⟨h1, fun h3 => ⟨by have := (h2 h3).1; omega, (h2 h3).2⟩⟩
theorem nxU_le (K : List ByteArray) (x : ByteArray) (k : Nat) : nxU K x k ≤ K.length := (nxU_bd K x _ k rfl).1
theorem nxU_inj {K : List ByteArray} {x y : ByteArray} {k : Nat} (h : nxU K x k = nxU K y k) (hl : nxU K x k < K.length) : x = y := by
  have h1 := ((nxU_bd K x _ k rfl).2 hl).2
  have h2 := ((nxU_bd K y _ k rfl).2 (by omega)).2
  rw [← h1, h, h2]
/-- A list without a string. -/
def rmv (x : ByteArray) (H : List ByteArray) : List ByteArray := H.filter fun y => !decide (y = x)
theorem mem_rmv {x y : ByteArray} {H : List ByteArray} : y ∈ rmv x H ↔ y ∈ H ∧ y ≠ x := by
  unfold rmv
  rw [List.mem_filter]
  simp
theorem rmv_out {x : ByteArray} {H : List ByteArray} (h : ¬ x ∈ H) : rmv x H = H := by
  unfold rmv
  rw [List.filter_eq_self]
  intro a ha
  simp only [Bool.not_eq_true', decide_eq_false_iff_not]
  exact fun e => h (by rw [← e]; exact ha)
theorem rmv_cons (x a : ByteArray) (H : List ByteArray) : rmv x (a :: H) = if a = x then rmv x H else a :: rmv x H := by
  unfold rmv
  rw [List.filter_cons]
  by_cases e : a = x <;> simp [e]
theorem rmv_lt {x : ByteArray} : ∀ {H : List ByteArray}, x ∈ H → (rmv x H).length + 1 ≤ H.length
  | a :: r, h => by
    have hle : (rmv x r).length ≤ r.length := List.length_filter_le _ _
    rw [rmv_cons]
    by_cases e : a = x
    · rw [if_pos e]; simp only [List.length_cons]; omega
    · rw [if_neg e]
      have := rmv_lt (H := r) ((List.mem_cons.1 h).resolve_left fun c => e c.symm)
      simp only [List.length_cons]; omega
theorem rmv_len {x : ByteArray} : ∀ {H : List ByteArray}, H.Nodup → x ∈ H → (rmv x H).length = H.length - 1
  | a :: r, hn, h => by
    rw [List.nodup_cons] at hn
    rw [rmv_cons]
    by_cases e : a = x
    · subst e
      rw [if_pos rfl, rmv_out hn.1]
      simp
    · rw [if_neg e]
      have hx : x ∈ r := (List.mem_cons.1 h).resolve_left fun c => e c.symm
      have := rmv_len hn.2 hx
      have := List.length_pos_of_mem hx
      simp only [List.length_cons]; omega
theorem rmv_nodup {x : ByteArray} {H : List ByteArray} (h : H.Nodup) : (rmv x H).Nodup := h.filter _
theorem eraseIdx_rmv : ∀ {H : List ByteArray}, H.Nodup → ∀ {j : Nat} {x : ByteArray}, H[j]? = some x → H.eraseIdx j = rmv x H
  | a :: r, hn, 0, x, hx => by
    rw [List.nodup_cons] at hn
    simp only [List.getElem?_cons_zero, Option.some.injEq] at hx
    subst hx
    rw [rmv_cons, if_pos rfl, rmv_out hn.1]
    rfl
  | a :: r, hn, j + 1, x, hx => by
    rw [List.nodup_cons] at hn
    simp only [List.getElem?_cons_succ] at hx
    have hax : ¬ a = x := fun e => hn.1 (by rw [e]; exact List.mem_of_getElem? hx)
    rw [rmv_cons, if_neg hax, List.eraseIdx_cons_succ, eraseIdx_rmv hn.2 hx]
theorem nodup_le {A B : List ByteArray} (hA : A.Nodup) (h : ∀ x, x ∈ A → x ∈ B) : A.length ≤ B.length := by
  induction A generalizing B with
  | nil => exact Nat.zero_le _
  | cons a r ih =>
    rw [List.nodup_cons] at hA
    have h2 := ih (B := rmv a B) hA.2 fun x hx => mem_rmv.2 ⟨h x (by simp [hx]), fun e => hA.1 (by rw [← e]; exact hx)⟩
    have h3 := rmv_lt (h a (by simp))
    simp only [List.length_cons]
    omega
theorem nodup_eq {A B : List ByteArray} (hA : A.Nodup) (h : ∀ x, x ∈ A → x ∈ B) (hl : A.length = B.length) : ∀ x, x ∈ B → x ∈ A := by
  intro x hx
  apply Classical.byContradiction
  intro hn
  have := nodup_le (A := x :: A) (B := B) (List.nodup_cons.2 ⟨hn, hA⟩) fun y hy => by
    rcases List.mem_cons.1 hy with rfl | hy
    · exact hx
    · exact h y hy
  simp only [List.length_cons] at this
  omega
/-- Two caches that hold as much, and the same of what is asked for again. -/
structure SimC (K : List ByteArray) (i : Nat) (H H' : List ByteArray) : Prop where
  n1 : H.Nodup
  n2 : H'.Nodup
  len : H.length = H'.length
  same : ∀ x, nxU K x i < K.length → (x ∈ H ↔ x ∈ H')
/-- What is asked for last goes. -/
def Worst (K : List ByteArray) (i : Nat) (H : List ByteArray) (e : ByteArray) : Prop := e ∈ H ∧ ∀ x, x ∈ H → nxU K x i ≤ nxU K e i
theorem SimC.hit {K : List ByteArray} {i : Nat} {H H' : List ByteArray} (h : SimC K i H H') (hi : i < K.length) : keyA K i ∈ H ↔ keyA K i ∈ H' := h.same _ (by rw [nxU_here hi rfl]; exact hi)
theorem SimC.next {K : List ByteArray} {i : Nat} {H H' : List ByteArray} (h : SimC K i H H') (hi : i < K.length) (h1 : keyA K i ∈ H) : SimC K (i + 1) H H' := ⟨h.n1, h.n2, h.len, fun x hx => by
  by_cases e : keyA K i = x
  · subst e
    exact ⟨fun _ => (h.hit hi).1 h1, fun _ => h1⟩
  · exact h.same x (by rw [nxU_on hi e]; exact hx)⟩
theorem SimC.put {K : List ByteArray} {i : Nat} {H H' : List ByteArray} (h : SimC K i H H') (hi : i < K.length) (h1 : ¬ keyA K i ∈ H) : SimC K (i + 1) (keyA K i :: H) (H' ++ [keyA K i]) := by
  have h2 : ¬ keyA K i ∈ H' := fun e => h1 ((h.hit hi).2 e)
  refine ⟨List.nodup_cons.2 ⟨h1, h.n1⟩, ?_, by simp [h.len], fun x hx => ?_⟩
  · rw [List.nodup_append]
    refine ⟨h.n2, by simp, fun a ha b hb e => ?_⟩
    rw [List.mem_singleton] at hb
    subst hb
    subst e
    exact h2 ha
  · by_cases e : keyA K i = x
    · subst e; simp
    · have := h.same x (by rw [nxU_on hi e]; exact hx)
      simp [this, Ne.symm e]
/-- What goes out of both. -/
theorem SimC.drop {K : List ByteArray} {i : Nat} {H H' : List ByteArray} {e e' : ByteArray} (h : SimC K i H H') (h1 : Worst K i H e) (h2 : Worst K i H' e') : SimC K i (rmv e H) (rmv e' H') := by
  have key : (nxU K e i = K.length ∧ nxU K e' i = K.length) ∨ e = e' := by
    by_cases hn : nxU K e i = K.length
    · left
      refine ⟨hn, ?_⟩
      apply Classical.byContradiction
      intro hn'
      have hlt : ∀ x, x ∈ H' → nxU K x i < K.length := fun x hx => by have := h2.2 x hx; have := nxU_le K e' i; omega
      have hsub : ∀ x, x ∈ H' → x ∈ H := fun x hx => (h.same x (hlt x hx)).2 hx
      have := nodup_eq h.n2 hsub h.len.symm e h1.1
      have := hlt e this
      omega
    · right
      have hlt : ∀ x, x ∈ H → nxU K x i < K.length := fun x hx => by have := h1.2 x hx; have := nxU_le K e i; omega
      have hsub : ∀ x, x ∈ H → x ∈ H' := fun x hx => (h.same x (hlt x hx)).1 hx
      have heq := nodup_eq h.n1 hsub h.len
      have a1 := h2.2 e (hsub e h1.1)
      have a2 := h1.2 e' (heq e' h2.1)
      exact nxU_inj (k := i) (by omega) (hlt e h1.1)
  refine ⟨rmv_nodup h.n1, rmv_nodup h.n2, ?_, fun x hx => ?_⟩
  · rw [rmv_len h.n1 h1.1, rmv_len h.n2 h2.1, h.len]
  · have hs := h.same x hx
    rw [mem_rmv, mem_rmv]
    rcases key with ⟨k1, k2⟩ | rfl
    · have x1 : x ≠ e := fun c => by subst c; omega
      have x2 : x ≠ e' := fun c => by subst c; omega
      exact ⟨fun hm => ⟨hs.1 hm.1, x2⟩, fun hm => ⟨hs.2 hm.1, x1⟩⟩
    · exact ⟨fun hm => ⟨hs.1 hm.1, hm.2⟩, fun hm => ⟨hs.2 hm.1, hm.2⟩⟩
/-- The reference's cache, and how many were found. -/
def wrA (K : List ByteArray) (i : Nat) (H : List ByteArray) : Nat → Nat
  | 0 => 0
  | k + 1 => if nxU K (keyA H (wrA K i H k)) (i + 1) < nxU K (keyA H k) (i + 1) then k else wrA K i H k
def rfS (K : List ByteArray) (r : Nat) : Nat → List ByteArray × Int
  | 0 => ([], 0)
  | i + 1 => let p := rfS K r i
    if Lib.containsS p.1 (keyA K i) = true then (p.1, p.2 + 1)
    else ((if p.1.length = r then p.1.eraseIdx (wrA K i p.1 p.1.length) else p.1) ++ [keyA K i], p.2)
theorem wrA_ok (K : List ByteArray) (i : Nat) (H : List ByteArray) : ∀ k, (0 < k → wrA K i H k < k) ∧ ∀ j, j < k → nxU K (keyA H j) (i + 1) ≤ nxU K (keyA H (wrA K i H k)) (i + 1)
  | 0 => ⟨fun h => absurd h (Nat.lt_irrefl _), fun j hj => absurd hj (Nat.not_lt_zero _)⟩
  | k + 1 => by
    obtain ⟨h1, h2⟩ := wrA_ok K i H k
    unfold wrA
    split
    · rename_i h
      refine ⟨fun _ => by omega, fun j hj => ?_⟩
      by_cases e : j = k
      · subst e; exact Nat.le_refl _
      · have := h2 j (by omega); omega
    · rename_i h
      refine ⟨fun _ => ?_, fun j hj => ?_⟩
      · cases k with
        | zero => show 0 < 1; omega
        | succ k => have := h1 (by omega); omega
      · by_cases e : j = k
        · subst e; omega
        · exact h2 j (by omega)
theorem rfS_len (K : List ByteArray) (r : Nat) : ∀ i, (rfS K r i).1.length ≤ i ∧ (0 ≤ (rfS K r i).2 ∧ (rfS K r i).2 ≤ i)
  | 0 => by simp [rfS]
  | i + 1 => by
    have ih := rfS_len K r i
    show (if Lib.containsS (rfS K r i).1 (keyA K i) = true then ((rfS K r i).1, (rfS K r i).2 + 1) else ((if (rfS K r i).1.length = r then (rfS K r i).1.eraseIdx (wrA K i (rfS K r i).1 (rfS K r i).1.length) else (rfS K r i).1) ++ [keyA K i], (rfS K r i).2)).1.length ≤ _ ∧ _
    rw [show rfS K r (i + 1) = (if Lib.containsS (rfS K r i).1 (keyA K i) = true then ((rfS K r i).1, (rfS K r i).2 + 1) else ((if (rfS K r i).1.length = r then (rfS K r i).1.eraseIdx (wrA K i (rfS K r i).1 (rfS K r i).1.length) else (rfS K r i).1) ++ [keyA K i], (rfS K r i).2)) from rfl]
    split
    · refine ⟨by show (rfS K r i).1.length ≤ _; omega, ?_⟩
      show 0 ≤ (rfS K r i).2 + 1 ∧ (rfS K r i).2 + 1 ≤ _
      omega
    · refine ⟨?_, by show 0 ≤ (rfS K r i).2 ∧ (rfS K r i).2 ≤ _; omega⟩
      show (_ ++ [keyA K i]).length ≤ _
      rw [List.length_append]
      have h2 : (if (rfS K r i).1.length = r then (rfS K r i).1.eraseIdx (wrA K i (rfS K r i).1 (rfS K r i).1.length) else (rfS K r i).1).length ≤ (rfS K r i).1.length := by
        split
        · exact List.length_eraseIdx_le _ _
        · exact Nat.le_refl _
      simp only [List.length_cons, List.length_nil]
      omega
/-- What Best answers. -/
def bsN (K : List ByteArray) (r : Nat) : Int := if r = 0 then 0 else (rfS K r K.length).2
end Go.Proofs.YtehbmnkbmgnkfaaGreatDoor

/- A map of strings to what a cache holds, in memory. -/
namespace Go.Proofs.YtehbmnkbmgnkfaaGreatDoor
open Go.RowKit Go.ChangeMaps Go.MapKept
open Go.Maps (Keyed IsMap Tidy)

abbrev slit (k : ByteArray) : Lit := .string k.data.toList
theorem slit_inj {a b : ByteArray} (h : slit a = slit b) : a = b := by
  obtain ⟨⟨x⟩⟩ := a
  obtain ⟨⟨y⟩⟩ := b
  simp only [slit, Lit.string.injEq] at h
  rw [h]
theorem keyedS : Keyed Tryz.prog 9 := Go.Maps.string_keyed Tryz.underlying9
/-- An answer that a cache holds. -/
structure Hld where
  an : Ans
  us : Int
instance : Inhabited Hld := ⟨⟨default, 0⟩⟩
def heldV (x : Hld) : Value := .agg #[.int .i64 x.an.ve, .int .i64 x.an.bo, .int .i64 x.an.si, .bool x.an.no, .string x.an.fr, .int .i64 x.us]
def datH (x : Hld) : DataW Unit := .agg [.lit (.int .i64 x.an.ve), .lit (.int .i64 x.an.bo), .lit (.int .i64 x.an.si), .lit (.bool x.an.no), .lit (.string x.an.fr.data.toList), .lit (.int .i64 x.us)]
theorem datH_inj {a b : Hld} (h : datH a = datH b) : a = b := by
  obtain ⟨⟨a1, a2, a3, a4, a5⟩, a6⟩ := a
  obtain ⟨⟨b1, b2, b3, b4, b5⟩, b6⟩ := b
  simp only [datH, DataW.agg.injEq, List.cons.injEq, DataW.lit.injEq, Lit.int.injEq, Lit.bool.injEq, Lit.string.injEq, true_and, and_true] at h
  obtain ⟨rfl, rfl, rfl, rfl, h5, rfl⟩ := h
  obtain rfl : a5 = b5 := ByteArray.ext (Array.ext' h5)
  rfl
def heldL : List Value → Option Hld
  | [.int .i64 ve, .int .i64 bo, .int .i64 si, .bool no, .string fr, .int .i64 us] => some ⟨⟨ve, bo, si, no, fr⟩, us⟩
  | _ => none
def heldR : Value → Option (DataW Unit × List MemPlace)
  | .agg cs => (heldL cs.toList).map fun x => (datH x, [])
  | _ => none
theorem heldR_mk (x : Hld) : heldR (heldV x) = some (datH x, []) := rfl
theorem heldL_inv {l : List Value} {x : Hld} (h : heldL l = some x) : l = [.int .i64 x.an.ve, .int .i64 x.an.bo, .int .i64 x.an.si, .bool x.an.no, .string x.an.fr, .int .i64 x.us] := by
  unfold heldL at h
  split at h
  · cases h; rfl
  · cases h
theorem heldR_inv {v : Value} {d : DataW Unit} {ps : List MemPlace} (h : heldR v = some (d, ps)) : ∃ x, v = heldV x ∧ d = datH x := by
  unfold heldR at h
  split at h
  · rename_i cs
    cases hl : heldL cs.toList with
    | none => rw [hl] at h; cases h
    | some x =>
      rw [hl] at h
      simp only [Option.map_some, Option.some.injEq, Prod.mk.injEq] at h
      refine ⟨x, ?_, h.1.symm⟩
      have := heldL_inv hl
      unfold heldV
      rw [← this]
  · cases h
theorem zeroH (w : World) : (zeroValue 180).run Tryz.prog w = .ok (heldV default) w := by kernel_rfl
theorem keyOf_S {k : ByteArray} (h : k.size ≤ maxLen) : keyOf Tryz.prog 9 (.string k) = some (slit k) := WideMaps.keyOf_string_mk Tryz.underlying9 h
theorem keyOf_S_inv {key : Value} {kl : Lit} (h : keyOf Tryz.prog 9 key = some kl) : ∃ k : ByteArray, key = .string k ∧ k.size ≤ maxLen ∧ kl = slit k := by
  obtain ⟨s, h1, h2, h3⟩ := WideMaps.string_of_keyOf Tryz.underlying9 h
  exact ⟨s, h1, h3, h2⟩

/-- Is the string on the list? -/
def onL (k : ByteArray) (ks : List ByteArray) : Bool := ks.any fun y => decide (y = k)
theorem onL_iff {k : ByteArray} {ks : List ByteArray} : onL k ks = true ↔ k ∈ ks := by
  unfold onL
  rw [List.any_eq_true]
  constructor
  · rintro ⟨x, hx, h⟩
    rw [← of_decide_eq_true h]
    exact hx
  · exact fun h => ⟨k, h, decide_eq_true rfl⟩
/-- The list with a string. -/
def addL (k : ByteArray) (ks : List ByteArray) : List ByteArray := if onL k ks = true then ks else k :: ks
theorem mem_addL {d k : ByteArray} {ks : List ByteArray} : d ∈ addL k ks ↔ d = k ∨ d ∈ ks := by
  unfold addL
  split
  · rename_i h
    rw [onL_iff] at h
    constructor
    · exact Or.inr
    · rintro (rfl | h2)
      · exact h
      · exact h2
  · rw [List.mem_cons]
theorem nodup_addL {k : ByteArray} {ks : List ByteArray} (h : ks.Nodup) : (addL k ks).Nodup := by
  unfold addL
  split
  · exact h
  · rename_i e
    rw [onL_iff] at e
    exact List.nodup_cons.2 ⟨e, h⟩

/-- Block b is a map of at most n entries: its keys are a list's, each once; f says what is laid to each. -/
def MapH (w : World) (b n : Nat) (f : ByteArray → Hld) (ks : List ByteArray) : Prop :=
  ks.Nodup ∧ (∀ k, k ∈ ks → k.size ≤ maxLen) ∧ ∃ D : DataW Unit, w.ownsMap Tryz.prog 9 (heldR) b n D ∧ Tidy D ∧ (∀ k, k ∈ ks → D.atKey (slit k) (datH default) = datH (f k)) ∧ (∀ k, k.size ≤ maxLen → (Go.Maps.has D (slit k) = true ↔ k ∈ ks)) ∧ Go.Maps.size D = ks.length
section
variable {w w' : World} {b n : Nat} {f : ByteArray → Hld} {ks : List ByteArray}
theorem MapH.made (w : World) (f : ByteArray → Hld) : MapH (w.alloc (.map #[] 0)) w.heap.size 0 f [] :=
  ⟨by simp, by simp, .map [], World.ownsMap_made _ _ _ _, Go.Maps.tidy_empty, by simp, fun _ _ => by simp [Go.Maps.has], rfl⟩
theorem MapH.mono (h : MapH w b n f ks) {m : Nat} (hm : n ≤ m) : MapH w b m f ks := by
  obtain ⟨g1, g2, D, h1, h2⟩ := h
  exact ⟨g1, g2, D, h1.mono hm, h2⟩
theorem MapH.lt (h : MapH w b n f ks) : b < w.heap.size := by
  obtain ⟨_, _, D, h1, _⟩ := h
  exact h1.lt
theorem MapH.same (h : MapH w b n f ks) (hb : w'.heap[b]? = w.heap[b]?) : MapH w' b n f ks := by
  obtain ⟨g1, g2, D, ⟨es, cl, h1, h2⟩, h3⟩ := h
  exact ⟨g1, g2, D, ⟨es, cl, hb.trans h1, h2⟩, h3⟩
theorem MapH.congr (h : MapH w b n f ks) {g : ByteArray → Hld} (hg : ∀ k, k ∈ ks → f k = g k) : MapH w b n g ks := by
  obtain ⟨g1, g2, D, h1, h2, h3, h4⟩ := h
  exact ⟨g1, g2, D, h1, h2, fun k hk => by rw [← hg k hk]; exact h3 k hk, h4⟩
theorem MapH.look (h : MapH w b n f ks) (k : ByteArray) (hk : k.size ≤ maxLen) :
    ∃ c, (Instr.lookup 133 (.map (some b)) (.string k) true).run Tryz.prog w = .ok (.tuple #[heldV c, .bool (onL k ks)]) w ∧ (k ∈ ks → c = f k) := by
  obtain ⟨g1, g2, D, h1, h2, h3, h4, h5⟩ := h
  obtain ⟨v, ps, hr, hv⟩ := h1.look_ok keyedS Tryz.underlying133 (zeroH w) (heldR_mk default) (keyOf_S hk)
  obtain ⟨c, rfl, hc⟩ := heldR_inv hv
  have e : Go.Maps.has D (slit k) = onL k ks := by
    have h6 := (h4 k hk).trans (onL_iff (k := k) (ks := ks)).symm
    cases h7 : Go.Maps.has D (slit k) <;> cases h8 : onL k ks <;> rw [h7, h8] at h6 <;> simp_all
  refine ⟨c, by rw [← e]; exact hr, fun m => ?_⟩
  rw [h3 k m] at hc
  exact (datH_inj hc).symm
theorem MapH.put (h : MapH w b n f ks) (hn : n < maxLen) (k : ByteArray) (hk : k.size ≤ maxLen) (x : Hld) :
    ∃ w', (Instr.mapUpdate 133 (.map (some b)) (.string k) (heldV x)).run Tryz.prog w = .ok () w' ∧ MapH w' b (n + 1) (fun d => if d = k then x else f d) (addL k ks) ∧ w.grownBy w' (some b) := by
  obtain ⟨g1, g2, D, h1, h2, h3, h4, h5⟩ := h
  obtain ⟨w', hr, ho, hg⟩ := h1.update keyedS Tryz.underlying133 hn (key := .string k) (val := heldV x) (keyOf_S hk) (heldR_mk x)
  refine ⟨w', hr, ⟨?_, ?_, _, ho, h2.put (by trivial) _, fun d hd => ?_, fun d hd => ?_, ?_⟩, hg⟩
  · exact nodup_addL g1
  · intro d hd
    rcases mem_addL.1 hd with rfl | h
    · exact hk
    · exact g2 d h
  · by_cases e : d = k
    · subst e
      rw [Go.Maps.atKey_put_same h2.isMap (by trivial)]
      show _ = datH (if d = d then x else f d)
      rw [if_pos rfl]
    · have hd2 : d ∈ ks := (mem_addL.1 hd).resolve_left e
      rw [Go.Maps.atKey_put_other (fun h => e (slit_inj h)), h3 d hd2]
      show _ = datH (if d = k then x else f d)
      rw [if_neg e]
  · rw [mem_addL]
    by_cases e : d = k
    · subst e
      rw [Go.Maps.has_put_same h2.isMap (by trivial)]
      simp
    · rw [Go.Maps.has_put_other (fun h => e (slit_inj h)), h4 d hd]
      simp [e]
  · rw [Go.Maps.size_put h2]
    unfold addL
    by_cases m : k ∈ ks
    · rw [if_pos ((h4 k hk).2 m), if_pos (onL_iff.2 m), h5]
    · rw [if_neg (fun c => m ((h4 k hk).1 c)), if_neg (fun c => m (onL_iff.1 c)), h5]
      simp
theorem MapH.drop (h : MapH w b n f ks) (k : ByteArray) (hm : k ∈ ks) (ty : TypeId) :
    ∃ w', (Builtin.delete_ #[133, 9] ty #[.map (some b), .string k]).run Tryz.prog w = .ok (.tuple #[]) w' ∧ MapH w' b n f (rmv k ks) ∧ w.grownBy w' (some b) := by
  obtain ⟨g1, g2, D, h1, h2, h3, h4, h5⟩ := h
  have hk := g2 k hm
  obtain ⟨w', hr, ho, hg⟩ := h1.drop keyedS Tryz.underlying133 (key := .string k) (keyOf_S hk) ty
  refine ⟨w', hr, ⟨rmv_nodup g1, fun d hd => g2 d (mem_rmv.1 hd).1, _, ho, h2.del _, fun d hd => ?_, fun d hd => ?_, ?_⟩, hg.grown⟩
  · rw [Go.Maps.atKey_del_other (fun h => (mem_rmv.1 hd).2 (slit_inj h))]
    exact h3 d (mem_rmv.1 hd).1
  · by_cases e : d = k
    · subst e
      rw [Go.Maps.has_del_same, mem_rmv]
      simp
    · rw [Go.Maps.has_del_other (fun h => e (slit_inj h)), h4 d hd, mem_rmv]
      simp [e]
  · have h6 := Go.Maps.size_del (k := slit k) h2
    rw [if_pos ((h4 k hk).2 hm)] at h6
    rw [rmv_len g1 hm]
    omega
theorem MapH.del (h : MapH w b n f ks) (k : ByteArray) (hk : k.size ≤ maxLen) (ty : TypeId) :
    ∃ w', (Builtin.delete_ #[133, 9] ty #[.map (some b), .string k]).run Tryz.prog w = .ok (.tuple #[]) w' ∧ MapH w' b n f (rmv k ks) ∧ w.grownBy w' (some b) := by
  by_cases hm : k ∈ ks
  · exact h.drop k hm ty
  · obtain ⟨g1, g2, D, h1, h2, h3, h4, h5⟩ := h
    obtain ⟨w', hr, ho, hg⟩ := h1.drop keyedS Tryz.underlying133 (key := .string k) (keyOf_S hk) ty
    have hrm : rmv k ks = ks := by
      unfold rmv
      exact List.filter_eq_self.2 (fun x hx => by simp; rintro rfl; exact hm hx)
    rw [hrm]
    refine ⟨w', hr, ⟨g1, g2, _, ho, h2.del _, fun d hd => ?_, fun d hd => ?_, ?_⟩, hg.grown⟩
    · have e : ¬ d = k := fun e => hm (by rw [← e]; exact hd)
      rw [Go.Maps.atKey_del_other (fun h => e (slit_inj h))]
      exact h3 d hd
    · by_cases e : d = k
      · subst e
        rw [Go.Maps.has_del_same]
        simp [hm]
      · rw [Go.Maps.has_del_other (fun h => e (slit_inj h)), h4 d hd]
    · have h6 := Go.Maps.size_del (k := slit k) h2
      rw [if_neg (fun c => hm ((h4 k hk).1 c))] at h6
      omega
theorem MapH.len (h : MapH w b n f ks) (ty : TypeId) : (Builtin.len_ #[133] ty #[.map (some b)]).run Tryz.prog w = .ok (.int .i64 ks.length) w := by
  obtain ⟨_, _, D, h1, _, _, _, h5⟩ := h
  have := h1.len Tryz.underlying133 ty
  rw [h5] at this
  exact this

/-- A range over the map under way: block r is the iterator; left: the keys that are still to come, each once. -/
def RngH (w : World) (b r n : Nat) (f : ByteArray → Hld) (ks left : List ByteArray) : Prop :=
  left.Nodup ∧ (∀ k, k ∈ left → k ∈ ks) ∧ (∀ k, k ∈ ks → k.size ≤ maxLen) ∧ ∃ (D : DataW Unit) (lf : Lit → Bool) (cnt : Nat), w.ranges Tryz.prog 9 (heldR) b r n D lf cnt ∧ (∀ k, k ∈ ks → D.atKey (slit k) (datH default) = datH (f k)) ∧ (∀ k, k.size ≤ maxLen → (lf (slit k) = true ↔ k ∈ left))
theorem MapH.range (h : MapH w b n f ks) : ∃ w', (Instr.range 133 (.map (some b))).run Tryz.prog w = .ok (.pointer (some ⟨w.heap.size, 0, none⟩)) w' ∧ RngH w' b w.heap.size n f ks ks ∧ w.grownBy w' none ∧ w'.heap.size = w.heap.size + 1 := by
  obtain ⟨g1, g2, D, h1, h2, h3, h4, _⟩ := h
  obtain ⟨w', r1, r2, r3, r4⟩ := h1.range keyedS Tryz.underlying133
  exact ⟨w', r1, ⟨g1, fun _ h => h, g2, D, _, _, r2, h3, h4⟩, r3, r4⟩
theorem RngH.step {r : Nat} {left : List ByteArray} (h : RngH w b r n f ks left) (ty : TypeId) :
    (left = [] ∧ (Instr.next (.pointer (some ⟨r, 0, none⟩)) false ty).run Tryz.prog w = .ok (.tuple #[.bool false]) w) ∨
    ∃ k w', k ∈ left ∧ (Instr.next (.pointer (some ⟨r, 0, none⟩)) false ty).run Tryz.prog w = .ok (.tuple #[.bool true, .string k, heldV (f k)]) w' ∧ RngH w' b r n f ks (rmv k left) ∧ w.grownBy w' (some r) ∧ w'.heap.size = w.heap.size ∧
      (Instr.entry (.pointer (some ⟨r, 0, none⟩))).run Tryz.prog w' = .ok (.tuple #[.string k, heldV (f k)]) w' := by
  obtain ⟨g1, g4, g2, D, lf, cnt, h1, h3, g3⟩ := h
  rcases h1.next keyedS ty with ⟨_, hl, hrun⟩ | ⟨key, v, kl, y, w', cnt', hkey, hlk, hv, hat, hrun, hrg, hlt, hgr, hsz, hen⟩
  · left
    refine ⟨?_, hrun⟩
    cases left with
    | nil => rfl
    | cons k l =>
      have := (g3 k (g2 k (g4 k (by simp)))).2 (by simp)
      rw [hl] at this
      cases this
  · right
    obtain ⟨k, rfl, hk, rfl⟩ := keyOf_S_inv hkey
    obtain ⟨yd, yp⟩ := y
    obtain ⟨c, rfl, hc⟩ := heldR_inv hv
    have hkl := (g3 k hk).1 hlk
    have hcf : c = f k := by
      have h4 := h3 k (g4 k hkl)
      rw [hat] at h4
      exact datH_inj (hc.symm.trans h4)
    subst hcf
    refine ⟨k, w', hkl, hrun, ⟨rmv_nodup g1, fun d hd => g4 d (mem_rmv.1 hd).1, g2, D, _, _, hrg, h3, fun d hd => ?_⟩, hgr, hsz, hen⟩
    rw [Bool.and_eq_true, g3 d hd, mem_rmv]
    by_cases e : d = k
    · subst e
      rw [WideAt.sameKey_self (by trivial)]
      simp
    · have : (slit d).sameKey (slit k) = false := by
        cases hs : (slit d).sameKey (slit k)
        · rfl
        · exact absurd (slit_inj (WideAt.sameKey_eq hs)) e
      simp [this, e]
theorem RngH.kept {r : Nat} {left : List ByteArray} {row : Option Nat} (h : RngH w b r n f ks left) (hg : w.grownBy w' row) (hb' : some b ≠ row) (hr' : some r ≠ row) : RngH w' b r n f ks left := by
  obtain ⟨g1, g4, g2, D, lf, cnt, h1, h2⟩ := h
  exact ⟨g1, g4, g2, D, lf, cnt, h1.kept hg hb' hr', h2⟩
theorem RngH.drew {r : Nat} {left : List ByteArray} (h : RngH w b r n f ks left) : RngH w.drew b r n f ks left := h
end
end Go.Proofs.YtehbmnkbmgnkfaaGreatDoor

/- Rules, releases, caches, purges; plain. -/
namespace Go.Proofs.YtehbmnkbmgnkfaaGreatDoor
open Go.RowKit

structure Crl where
  pr : ByteArray
  li : Int
  st : Int
  go : Int
instance : Inhabited Crl := ⟨⟨ByteArray.empty, 0, 0, 0⟩⟩
def encU (x : Crl) : List Value := [.string x.pr, .int .i64 x.li, .int .i64 x.st, .int .i64 x.go]
theorem encU_len (x : Crl) : (encU x).length = 4 := rfl
def WfU (x : Crl) : Prop := x.pr.size ≤ 9223372036854775807

structure Rel where
  ke : ByteArray
  ti : Int
  si : Int
  go : Bool
instance : Inhabited Rel := ⟨⟨ByteArray.empty, 0, 0, false⟩⟩
def encL (x : Rel) : List Value := [.string x.ke, .int .i64 x.ti, .int .i64 x.si, .bool x.go]
theorem encL_len (x : Rel) : (encL x).length = 4 := rfl
def WfL (x : Rel) : Prop := x.ke.size ≤ 9223372036854775807

def sleB (a b : ByteArray) : Bool := Op.bytesLess a.toList b.toList || a.toList == b.toList
def ordU (x p : Crl) (i : Nat) : Bool := decide (0 < i) && sleB x.pr p.pr
def cuOf (x p : Crl) (i : Nat) : Int :=
  if (!reqB x.pr) = true then 3 else if (ordU x p i) = true then 8 else if (outB x.li 0 1000000000 || outB x.st 0 1000000000 || outB x.go 0 1000000000) = true then 1 else 0
def cuAt (l : List Crl) (i : Nat) : Int := cuOf (l.getD i default) (l.getD (i - 1) default) i
/-- The fault of rules. -/
def checkU (l : List Crl) : Int := if 100 < l.length then 2 else FF (cuAt l) l.length

def ordL (x p : Rel) (i : Nat) : Bool := decide (0 < i) && (Op.bytesLess x.ke.toList p.ke.toList || ((x.ke.toList == p.ke.toList) && decide (x.ti ≤ p.ti)))
def clOf (x p : Rel) (i : Nat) : Int :=
  if (!reqB x.ke) = true then 3 else if (outB x.ti 0 1000000000000) = true then 1 else if (x.go && x.si != 0) = true then 3 else if (!x.go && outB x.si 1 1000000000) = true then 1 else if (ordL x p i) = true then 8 else 0
def clAt (l : List Rel) (i : Nat) : Int := clOf (l.getD i default) (l.getD (i - 1) default) i
/-- The fault of releases. -/
def checkL (l : List Rel) : Int := if 1000 < l.length then 2 else FF (clAt l) l.length
end Go.Proofs.YtehbmnkbmgnkfaaGreatDoor

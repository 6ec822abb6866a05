/- What is told, which events concern a timeline, and what is left when some were looked at: plain. -/
import Derived.Test.YthpjgongplffnaaCntD
import Derived.Test.YthpjgongplffnaaMapV
namespace Go.Proofs.Ythpjgongplffnaa
open Go.RowKit

/-- Is it of this session, this part and this kind? -/
def isE (s : ByteArray) (p k : Int) (e : Ev) : Bool := (e.se.toList == s.toList && (e.pl == p)) && (e.ki == k)
def toldL (G : List Ev) (s : ByteArray) (p k : Int) : Bool := G.any (isE s p k)
/-- The part at a place. -/
def ptAt (l : List Prt) (p : Int) : Prt := l.getD p.toNat default
/-- Is an event of an advertisement of the timeline? -/
def conc (l : List Prt) (e : Ev) : Bool := (((decide (0 ≤ e.pl) && decide (e.pl < (l.length : Int))) && !noAd (ptAt l e.pl)) && ((ptAt l e.pl).ad.toList == e.ad.toList))
/-- The good events and the places of the idle ones, n looked at. -/
def stN (l : List Prt) (es : List Ev) : Nat → List Ev × List Int
  | 0 => ([], [])
  | n + 1 =>
    let s := stN l es n
    let e := es.getD n default
    if (!conc l e || toldL s.1 e.se e.pl e.ki) = true then (s.1, s.2 ++ [(n : Int)]) else (s.1 ++ [e], s.2)
theorem stN_idle {l : List Prt} {es : List Ev} {n : Nat} {e : Ev} (hx : es[n]? = some e) (h : (!conc l e || toldL (stN l es n).1 e.se e.pl e.ki) = true) : stN l es (n + 1) = ((stN l es n).1, (stN l es n).2 ++ [(n : Int)]) := by
  have : es.getD n default = e := by rw [List.getD_eq_getElem?_getD, hx]; rfl
  show (if (!conc l (es.getD n default) || toldL (stN l es n).1 (es.getD n default).se (es.getD n default).pl (es.getD n default).ki) = true then _ else _) = _
  rw [this, if_pos h]
theorem stN_good {l : List Prt} {es : List Ev} {n : Nat} {e : Ev} (hx : es[n]? = some e) (h : (!conc l e || toldL (stN l es n).1 e.se e.pl e.ki) = false) : stN l es (n + 1) = ((stN l es n).1 ++ [e], (stN l es n).2) := by
  have : es.getD n default = e := by rw [List.getD_eq_getElem?_getD, hx]; rfl
  show (if (!conc l (es.getD n default) || toldL (stN l es n).1 (es.getD n default).se (es.getD n default).pl (es.getD n default).ki) = true then _ else _) = _
  rw [this, if_neg (by rw [h]; simp)]
theorem stN_len (l : List Prt) (es : List Ev) : ∀ n, (stN l es n).1.length + (stN l es n).2.length = n
  | 0 => rfl
  | n + 1 => by
    have ih := stN_len l es n
    show (if (!conc l (es.getD n default) || toldL (stN l es n).1 (es.getD n default).se (es.getD n default).pl (es.getD n default).ki) = true then ((stN l es n).1, (stN l es n).2 ++ [(n : Int)]) else ((stN l es n).1 ++ [es.getD n default], (stN l es n).2) : List Ev × List Int).1.length + (if (!conc l (es.getD n default) || toldL (stN l es n).1 (es.getD n default).se (es.getD n default).pl (es.getD n default).ki) = true then ((stN l es n).1, (stN l es n).2 ++ [(n : Int)]) else ((stN l es n).1 ++ [es.getD n default], (stN l es n).2) : List Ev × List Int).2.length = n + 1
    split <;> simp <;> omega

/-- The key of an event. -/
def keyE (e : Ev) : Vk := ⟨e.se, e.pl⟩
theorem isE_iff {s : ByteArray} {p k : Int} {e : Ev} : isE s p k e = true ↔ keyE e = ⟨s, p⟩ ∧ e.ki = k := by
  unfold isE keyE
  rw [Bool.and_eq_true, Bool.and_eq_true, beq_iff_eq, beq_iff_eq, beq_iff_eq, ByteArray.toList_eq, ByteArray.toList_eq]
  constructor
  · rintro ⟨⟨h1, h2⟩, h3⟩
    obtain ⟨⟨⟨a⟩⟩, b, c, d⟩ := e
    obtain ⟨⟨a2⟩⟩ := s
    simp only at h1 h2 h3
    subst h1 h2
    exact ⟨rfl, h3⟩
  · rintro ⟨h1, h3⟩
    simp only [Vk.mk.injEq] at h1
    obtain ⟨rfl, rfl⟩ := h1
    exact ⟨⟨rfl, rfl⟩, h3⟩
theorem toldL_iff {G : List Ev} {v : Vk} {k : Int} : toldL G v.se v.pl k = true ↔ ∃ e ∈ G, keyE e = v ∧ e.ki = k := by
  unfold toldL
  rw [List.any_eq_true]
  constructor
  · rintro ⟨e, h1, h2⟩
    exact ⟨e, h1, isE_iff.1 h2⟩
  · rintro ⟨e, h1, h2⟩
    exact ⟨e, h1, isE_iff.2 h2⟩
theorem toldL_snoc (G : List Ev) (e : Ev) (s : ByteArray) (p k : Int) : toldL (G ++ [e]) s p k = (toldL G s p k || isE s p k e) := by
  simp [toldL]

/-- Bits from five truths. -/
def bits5 (a b c d e : Bool) : Int := (if a then 1 else 0) + (if b then 2 else 0) + (if c then 4 else 0) + (if d then 8 else 0) + (if e then 16 else 0)
/-- What is told of a key, as bits. -/
def bitsG (G : List Ev) (v : Vk) : Int := bits5 (toldL G v.se v.pl 1) (toldL G v.se v.pl 2) (toldL G v.se v.pl 3) (toldL G v.se v.pl 4) (toldL G v.se v.pl 5)
def keysG : List Ev → List Vk := fun G => G.foldl (fun ks e => if keyE e ∈ ks then ks else ks ++ [keyE e]) []
theorem keysG_snoc (G : List Ev) (e : Ev) : keysG (G ++ [e]) = if keyE e ∈ keysG G then keysG G else keysG G ++ [keyE e] := by
  unfold keysG
  rw [List.foldl_append]
  rfl
end Go.Proofs.Ythpjgongplffnaa

/- Appends of whole slices to what the call owns. -/
import Derived.WalkKit
import Derived.WalkSpells
import Derived.WalkLawsBesides
import Derived.Handy
import Derived.Lib.Hide
import Derived.BigQuiet
import Derived.Deep.QuietTactic
import Derived.Deep.LoopGhost
import Derived.Deep.Slices
import Derived.Laws.OwnMore
import Derived.Shelf.Abstract
import Derived.Deep.RegionWith
import Derived.Deep.DeepCutAuto
import Derived.ProofKit
import Derived.OpenShut
import Derived.ShutString
import Derived.ChangeOld
import Derived.SizedLaws
import Derived.Deep.Strs
import Derived.Laws.AppendOwnNone
import Derived.LaidMore
namespace Go.Proofs.YtgohddfnhofjhaaGreatDoor
open Go.RowKit
theorem Lr {p : Prop} (h : p) : Hid p := h
theorem Ls (n : Nat) : n ≤ n := Nat.le_refl n
theorem Lt {α : Type _} {l : List α} {i : Nat} {a : α} : l.getD i a = l[i]?.getD a := List.getD_eq_getElem?_getD
theorem Lu {α : Type _} {l : List α} {i : Nat} (h : i < l.length) : l[i]? = some l[i] := List.getElem?_eq_getElem h
theorem LC (w : World) (p : Addr) {v : Value} (h : w.cell? p = some v) : p.block < w.heap.size := World.block_lt_of_cell? w p h
theorem LD (n : Nat) (w : World) : Below n w w := Below.refl n w
def FF (f : Nat → Int) : Nat → Int
 | 0 => 0
 | n + 1 => if FF f n = 0 then f n else FF f n
theorem eF {f : Nat → Int} : ∀ {n : Nat}, (∀ j, j < n → f j = 0) → FF f n = 0
 | 0, _ => rfl
 | n + 1, h => by
  have h1 := eF (f := f) (n := n) (fun j hj => h j (by omega)); simp [FF, h1, h n (by omega)]
theorem iM {f : Nat → Int} {k : Nat} : ∀ {n : Nat}, k < n → (∀ j, j < k → f j = 0) → f k ≠ 0 → FF f n = f k
 | 0, h, _, _ => by omega
 | n + 1, h, hz, hk => by
  by_cases e : k = n
  ·subst e; simp [FF, eF hz]
  ·have h1 := iM (f := f) (n := n) (by omega) hz hk; simp [FF, h1, hk]
theorem fG {f : Nat → Int} : ∀ {n : Nat}, FF f n = 0 → ∀ j, j < n → f j = 0
 | 0, _, j, hj => by omega
 | n + 1, h, j, hj => by
  unfold FF at h; split at h
  ·rename_i h0; by_cases e : j = n
   ·subst e; exact h
   ·exact fG h0 j (by omega)
  ·contradiction
def Sl {α : Type} (w : World) (k : Nat) (enc : α → List Value) (v : Value) (l : List α) : Prop :=
 ∃ ao cap, v = .slice ao l.length cap ∧ l.length ≤ cap ∧ cap ≤ maxLen ∧ (ao = none → cap = 0) ∧
  ∀ i x, l[i]? = some x → ∃ b off, ao = some ⟨b, off, none⟩ ∧ ∀ j u, (enc x)[j]? = some u → w.cell? ⟨b, off + i * k + j, none⟩ = some u
section
variable {α : Type} {w w' : World} {k : Nat} {enc : α → List Value} {v : Value} {l : List α}
theorem Sl.nil : Sl w k enc (.slice none 0 0) ([] : List α) :=
 ⟨none, 0, rfl, Ls _, by simp [maxLen], fun _ => rfl, fun i x h => by simp at h⟩
theorem Sl.below (h : Sl w k enc v l) {B : Nat} (hb : Below B w w') (hB : w.heap.size ≤ B) : Sl w' k enc v l := by
 obtain ⟨ao, cap, h1, h2, h3, h4, h5⟩ := h; refine ⟨ao, cap, h1, h2, h3, h4, fun i x hx => ?_⟩; obtain ⟨b, off, ha, hc⟩ := h5 i x hx; refine ⟨b, off, ha, fun j u hu => ?_⟩; have hcell := hc j u hu; have hlt := LC w _ hcell; exact (hb.cell (p := ⟨b, off + i * k + j, none⟩) (Nat.lt_of_lt_of_le hlt hB)).trans hcell
theorem Sl.take (h : Sl w k enc v l) {ao : Option Addr} {cap : Nat} (hv : v = .slice ao l.length cap) (n : Nat) (hn : n ≤ l.length) : Sl w k enc (.slice ao n cap) (l.take n) := by
 obtain ⟨ao', cap', h1, h2, h3, h4, h5⟩ := h; rw [hv] at h1; simp only [Value.slice.injEq, true_and] at h1
 obtain ⟨rfl, rfl⟩ := h1; have hlen : (l.take n).length = n := by simp; omega
 refine ⟨ao, cap, by rw [hlen], by rw [hlen]; omega, h3, h4, fun i x hx => ?_⟩; rw [List.getElem?_take] at hx; split at hx
 ·exact h5 i x hx
 ·simp at hx
theorem dZ (hk : ∀ x, (enc x).length = k) : ∀ (l : List α) (i j : Nat) (x : α), l[i]? = some x → j < k → (l.flatMap enc)[i * k + j]? = (enc x)[j]?
 | [], i, j, x, h, _ => by simp at h
 | y :: r, 0, j, x, h, hj => by
  simp at h; subst h
  simp only [List.flatMap_cons, Nat.zero_mul, Nat.zero_add]
  rw [List.getElem?_append_left (by rw [hk]; exact hj)]
 | y :: r, i + 1, j, x, h, hj => by
  simp only [List.flatMap_cons]
  have e : (i + 1) * k + j = k + (i * k + j) := by rw [Nat.succ_mul]; omega
  rw [e, List.getElem?_append_right (by rw [hk]; omega), hk, Nat.add_sub_cancel_left]; exact dZ hk r i j x (by simpa using h) hj
theorem Sl.fresh (hk : ∀ x, (enc x).length = k) (w : World) (E : TypeId) (fr : Nat × Nat) (l : List α) (hm : l.length ≤ maxLen) :
 Sl (w.alloc (.cells (l.flatMap enc).toArray E fr)) k enc (.slice (some ⟨w.heap.size, 0, none⟩) l.length l.length) l := by
 refine ⟨_, _, rfl, Ls _, hm, fun e => by simp at e, fun i x hx => ⟨w.heap.size, 0, rfl, fun j u hu => ?_⟩⟩; have hj : j < k := by
  have := (List.getElem?_eq_some_iff.1 hu).1
  rwa [hk] at this
 rw [Nat.zero_add, World.cell?_alloc_mark, List.getElem?_toArray, dZ hk l i j x hx hj]; exact hu
theorem Sl.own {base : Nat} {E : TypeId} (hk : ∀ x, (enc x).length = k) (h : w.ownsRow base E k v l.length (l.flatMap enc)) : Sl w k enc v l := by
 have h0 := h; obtain ⟨h1, h2⟩ := h; rcases h2 with ⟨rfl, h2⟩ | ⟨g, cap, cur, rfl, hg, hh, hn, hm, hs, ht⟩
 ·obtain rfl : l = [] := List.length_eq_zero_iff.1 h2; exact Sl.nil
 ·refine ⟨_, cap, rfl, hn, hm, fun e => by simp at e, fun i x hx => ⟨g, 0, rfl, fun j u hu => ?_⟩⟩; have hj : j < k := by
   have := (List.getElem?_eq_some_iff.1 hu).1
   rwa [hk] at this
  have hi : i < l.length := (List.getElem?_eq_some_iff.1 hx).1; have hle : i * k + k ≤ l.length * k := by
   have := Nat.mul_le_mul_right k (Nat.succ_le_of_lt hi)
   rwa [Nat.succ_mul] at this
  rw [Nat.zero_add, h0.cellAt (i * k + j) (by omega), dZ hk l i j x hx hj]; exact hu
end
theorem _root_.Go.RowKit.Below.bf {w a b : World} (h : Below w.heap.size w a) (h2 : Below a.heap.size a b) : Below w.heap.size w b := h.trans (h2.mono h.size)
theorem rM (w : World) (C : List Value) (E : TypeId) (fr : Nat × Nat) : ∀ j u, C[j]? = some u → (w.alloc (.cells C.toArray E fr)).cell? ((⟨w.heap.size, 0, none⟩ : Addr).add j) = some u := by
 intro j u hu; have e : (⟨w.heap.size, 0, none⟩ : Addr).add j = ⟨w.heap.size, j, none⟩ := by
  unfold Addr.add; split
  ·simp [*]
  ·simp
 rw [e, World.cell?_alloc_mark, List.getElem?_toArray]; exact hu
theorem ah {k : IntKind} {a b : Int} (h : a = b) : Ending.returned (.int k a) = .returned (.int k b) := by rw [h]
theorem az {a b : Bool} (h : a = b) : Ending.returned (.bool a) = .returned (.bool b) := by rw [h]
end Go.Proofs.YtgohddfnhofjhaaGreatDoor
namespace Go.Proofs.YtgohddfnhofjhaaGreatDoor
open Go.RowKit Go.ChangeShapes Go.WideShapes Go.Deep
def Dec {α : Type} (P : Program) (w : World) (E : TypeId) (enc' : α → List Value) (wf : α → Prop) : Prop :=
 ∀ (H : Type) (enc : TypeId × Value → H) (n : Nat) (cs : List Value) (x : DataW H × List MemPlace), DataW.trod enc P w 0 (fun _ => true) true n E cs = some x → ∃ y, cs = enc' y ∧ wf y
theorem AU {α : Type} {H : Type} {enc : TypeId × Value → H} {P : Program} {w : World} {t E : TypeId} {k : Nat} {enc' : α → List Value} {wf : α → Prop} (ht : P.underlying t = some (.slice E)) (hk : P.cellsOf E = k) (hk0 : 0 < k)
 (hd : Dec P w E enc' wf) {a : Option Addr} {len cap : Nat} {d : DataW H} {p : List MemPlace} (h : DataW.Trod enc P w 0 (fun _ => true) true t (.slice a len cap) d p) :
 ∃ l, Sl w k enc' (.slice a len cap) l ∧ (∀ y, y ∈ l → wf y) ∧ l.length = len ∧
  ((d = .nil ∧ cap = 0) ∨ ∃ elems spare, d = .slice elems spare ∧ elems.length + spare.length = cap) := by
 obtain ⟨fuel, hf⟩ := h; rcases open_slice ht hf with ⟨hcs, hx⟩ | ⟨a', len', cap', m, n, D, Pl, hcs, hb, hl, hm, hmm, hx, hel⟩
 ·simp [Value.cells] at hcs
  obtain ⟨rfl, rfl, rfl⟩ := hcs; simp at hx
  exact ⟨[], Sl.nil, fun y hy => by simp at hy, rfl, .inl ⟨hx.1, rfl⟩⟩
 ·simp [Value.cells] at hcs
  obtain ⟨rfl, rfl, rfl⟩ := hcs; simp only [Prod.mk.injEq] at hx
  simp only [if_true] at hmm
  subst hmm; have hy : ∀ i, i < m → ∃ y : α, (w.cells? 0 (a'.add (i * P.cellsOf E)) (P.cellsOf E)) = some (enc' y) ∧ wf y := fun i hi => by
   obtain ⟨cs', h1, h2⟩ := hel i hi; obtain ⟨y, rfl, hw⟩ := hd H enc n cs' _ h2; exact ⟨y, h1, hw⟩
  have hlist : ∀ j, j ≤ m → ∃ l : List α, l.length = j ∧ (∀ y, y ∈ l → wf y) ∧ ∀ i y, l[i]? = some y → w.cells? 0 (a'.add (i * P.cellsOf E)) (P.cellsOf E) = some (enc' y) := by
   intro j
   induction j with
   | zero => exact fun _ => ⟨[], rfl, fun y hy => by simp at hy, fun i y h => by simp at h⟩
   | succ j ih =>
    intro hj; obtain ⟨l, hl1, hl2, hl3⟩ := ih (by omega); obtain ⟨y, hy1, hy2⟩ := hy j (by omega); refine ⟨l ++ [y], by simp [hl1], fun z hz => ?_, fun i z hz => ?_⟩
    ·rcases List.mem_append.1 hz with h | h
     ·exact hl2 z h
     ·simp at h; subst h; exact hy2
    ·by_cases h : i < l.length
     ·rw [List.getElem?_append_left h] at hz; exact hl3 i z hz
     ·rw [List.getElem?_append_right (by omega)] at hz; have hi : i = l.length := by
       have := (List.getElem?_eq_some_iff.1 hz).1; simp at this; omega
      subst hi; simp at hz; subst hz
      rw [hl1]; exact hy1
  obtain ⟨l, hl1, hl2, hl3⟩ := hlist len hl; refine ⟨l, ⟨some a', m, by rw [hl1], by omega, hm, fun e => by simp at e, fun i y hi => ?_⟩, hl2, hl1, .inr ⟨_, _, hx.1, by simp; omega⟩⟩; have hc := hl3 i y hi; rw [hk] at hc; obtain ⟨_, hlen, hcell⟩ := World.cells?_some hc; obtain ⟨b, off, spot⟩ := a'; have hspot : spot = none := by
   cases i with
   | zero =>
    have h0 := hcell 0 hk0; rw [Lu (by omega)] at h0
    simpa [Addr.add] using World.cell?_spot h0
   | succ i =>
    have hy0 := hl3 0 (l[0]'(by have := (List.getElem?_eq_some_iff.1 hi).1; omega)) (by simp); rw [hk] at hy0; obtain ⟨_, hlen0, hcell0⟩ := World.cells?_some hy0; have h0 := hcell0 0 hk0; rw [Lu (by omega)] at h0
    simpa [Addr.add] using World.cell?_spot h0
  subst hspot; refine ⟨b, off, rfl, fun j u hu => ?_⟩; have hj : j < k := by
   have := (List.getElem?_eq_some_iff.1 hu).1; omega
  have := hcell j hj; rw [hu] at this; rw [← this]
  congr 1
  unfold Addr.add; split <;> split <;> simp [*] <;> omega
theorem Eg {H : Type} {P : Program} {ts : List TypeId} {ds : List (DataW H)} (h : (DataW.weightsEach P ts ds).all (· ≤ reachBytes) = true) {j : Nat} {t E : TypeId} {d : DataW H} {cap len : Nat} (hle : len ≤ cap)
 (htj : ts[j]? = some t) (hdj : ds[j]? = some d) (hu : P.underlying t = some (.slice E)) (hd : (d = .nil ∧ cap = 0) ∨ ∃ elems spare, d = .slice elems spare ∧ elems.length + spare.length = cap) :
 len * P.bytesOf E ≤ 140737488351232 := by
 rcases hd with ⟨_, rfl⟩ | ⟨elems, spare, rfl, hc⟩
 ·have : len = 0 := by omega
  simp [this]
 ·have := sized_slice h htj hdj hu; rw [hc] at this; exact Nat.le_trans (Nat.mul_le_mul_right _ hle) (by simpa [reachBytes] using this)
def Own {α : Type} (w : World) (base : Nat) (E : TypeId) (k : Nat) (enc : α → List Value) (v : Value) (l : List α) : Prop := w.ownsRow base E k v l.length (l.flatMap enc)
theorem Own.nil {α : Type} {w : World} {base : Nat} {E : TypeId} {k : Nat} {enc : α → List Value} : Own w base E k enc (.slice none 0 0) ([] : List α) := World.ownsRow_nil _ _ _ _
theorem Own.al {α : Type} {w : World} {base : Nat} {E : TypeId} {k : Nat} {enc : α → List Value} {v : Value} {l : List α} (h : Own w base E k enc v l) (o : Obj) : Own (w.alloc o) base E k enc v l := World.ownsRow.alloc h o
theorem Own.sl {α : Type} {w : World} {base : Nat} {E : TypeId} {k : Nat} {enc : α → List Value} {v : Value} {l : List α} (h : Own w base E k enc v l) (hk : ∀ x, (enc x).length = k) : Sl w k enc v l := Sl.own hk h
theorem Own.drewN {α : Type} {w : World} {base : Nat} {E : TypeId} {k : Nat} {enc : α → List Value} {v : Value} {l : List α} (h : Own w base E k enc v l) (n : Nat) : Own (w.drewN n) base E k enc v l := h
def SlT (P : Program) (t E : TypeId) (k bytes : Nat) : Prop :=
 ∃ i z, P.underlying t = some (.slice E) ∧ P.info? E = some i ∧ i.zero = some z ∧ i.size = k ∧ i.bytes = bytes ∧ z.cells.size = k ∧ 0 < k ∧ 0 < bytes
theorem jw {α : Type} {P : Program} {ops : Array Oper} {rest : List Oper} {o : Oper} {a : Act} {Q : Exit → Act → World → Prop} (hgd : o.guard = none) (s x : Operand) (t : TypeId)
 (ho : o.op = .call { callee := .builtin .append, args := #[s, x], argTypes := #[t, t] })
 {E : TypeId} {k bytes : Nat} (hT : SlT P t E k bytes) {enc : α → List Value} {base : Nat} {v : Value} {l : List α} {W : World} {C : List Value} (hs : a.eval s = v)
 {A : Nat} (hx : a.eval x = .slice (some ⟨A, 0, none⟩) 1 1)
 (y : α) (hC : enc y = C) (hk : C.length = k) (h1 : C.all Value.oneCell' = true)
 (hown : Own W base E k enc v l) (hA : A = W.heap.size) (hn : (l.length + 1) * bytes ≤ 140737488355328) (hbase : base ≤ W.heap.size)
 (h : ∀ v' w', Own w' base E k enc v' (l ++ [y]) → Below base W w' → wpList P ops Q rest (a.put o.dst v') w') : wpList P ops Q (o :: rest) a (W.alloc (.cells C.toArray E)) := by
 obtain ⟨i, z, ht, hi, hz, hsize, hby, hzs, hsz, hb0⟩ := hT; subst hA; have hlen : l.length + 1 ≤ 140737488355328 := Nat.le_trans (Nat.le_mul_of_pos_right _ hb0) hn; refine wpList_append_own _ hgd s x t ho base E i z k bytes ht hi hz hsize hby hzs hsz v l.length (l.flatMap enc) hs (World.ownsRow.alloc hown _) ⟨W.heap.size, 0, none⟩ 1 1 C hx (by omega)
  (rM W C E (0, 0)) (fun u hu => List.all_eq_true.1 h1 u hu) (by unfold maxLen; omega) hn (by simp; omega) (fun v' w' h2 h3 _ => h v' w' ?_ ?_)
 ·unfold Own; rw [List.flatMap_append, List.length_append, List.flatMap_singleton, hC]; exact h2
 ·exact ((LD _ _).alloc hbase _).grown h3 (by simp; omega) (fun k hk => (World.ownsRow.lt hown k hk).1)
def gI {α : Type} (w : World) (E : TypeId) (k : Nat) (enc : α → List Value) (l : List α) : Ending → World → Prop :=
 fun e w' => ∃ v', e = .returned v' ∧ Own w' w.heap.size E k enc v' l ∧ Below w.heap.size w w'
theorem gI.mk {α : Type} {w w' : World} {E : TypeId} {k : Nat} {enc : α → List Value} {l : List α} {v' : Value} (hs : Own w' w.heap.size E k enc v' l) (hb : Below w.heap.size w w') :
 gI w E k enc l (.returned v') w' := ⟨v', rfl, hs, hb⟩
theorem kZ {α : Type} {enc : α → List Value} {k : Nat} (hk : ∀ x, (enc x).length = k) (hk0 : 0 < k) {m : List α} {j : Nat} {u : Value} (h : (m.flatMap enc)[j]? = some u) :
 ∃ y, m[j / k]? = some y ∧ (enc y)[j % k]? = some u := by
 have hj : j < (m.flatMap enc).length := (List.getElem?_eq_some_iff.1 h).1; have hlen : (m.flatMap enc).length = m.length * k := by
  clear h hj
  induction m with
  | nil => simp
  | cons a r ih => rw [List.flatMap_cons, List.length_append, hk, ih, List.length_cons, Nat.succ_mul]; omega
 rw [hlen] at hj; have hi : j / k < m.length := Nat.div_lt_of_lt_mul (by rw [Nat.mul_comm]; exact hj); refine ⟨m[j / k], by simp [hi], ?_⟩; have e : j / k * k + j % k = j := by rw [Nat.mul_comm]; exact Nat.div_add_mod j k
 rw [← dZ hk m (j / k) (j % k) m[j / k] (by simp [hi]) (Nat.mod_lt _ hk0), e]; exact h
theorem ay {α : Type} {enc : α → List Value} {k : Nat} (hk : ∀ x, (enc x).length = k) (m : List α) : (m.flatMap enc).length = m.length * k := by
 induction m with
 | nil => simp
 | cons a r ih => rw [List.flatMap_cons, List.length_append, hk, ih, List.length_cons, Nat.succ_mul]; omega
theorem gJ {α : Type} {P : Program} {ops : Array Oper} {rest : List Oper} {o : Oper} {a : Act} {Q : Exit → Act → World → Prop} (hgd : o.guard = none) (s x : Operand) (t : TypeId)
 (ho : o.op = .call { callee := .builtin .append, args := #[s, x], argTypes := #[t, t] })
 {E : TypeId} {k bytes : Nat} (hT : SlT P t E k bytes) {enc : α → List Value} (hk : ∀ x, (enc x).length = k) (h1 : ∀ y, (enc y).all Value.oneCell' = true) {base : Nat} {v u : Value} {l m : List α} {W : World} (hs : a.eval s = v)
 (hx : a.eval x = u) (hown : Own W base E k enc v l) (hm : Sl W k enc u m) (hn : (l.length + m.length) * bytes ≤ 140737488355328) (hbase : base ≤ W.heap.size)
 (h : ∀ v' w', Own w' base E k enc v' (l ++ m) → Below base W w' → wpList P ops Q rest (a.put o.dst v') w') : wpList P ops Q (o :: rest) a W := by
 obtain ⟨i, z, ht, hi, hz, hsize, hby, hzs, hsz, hb0⟩ := hT; obtain ⟨ao, cap, rfl, hcap, hmax, hnil, hel⟩ := hm; have hlen : l.length + m.length ≤ 140737488355328 := Nat.le_trans (Nat.le_mul_of_pos_right _ hb0) hn; cases ao with
 | none =>
  have hc := hnil rfl; subst hc; obtain rfl : m = [] := List.length_eq_zero_iff.1 (by omega); refine wpList_append_own_none hgd s x t ho base E i k ht hi v l.length (l.flatMap enc) hs hown hx ?_; have := h v W (by rw [List.append_nil]; exact hown) (LD _ _); exact this
 | some ad =>
  refine wpList_append_own _ hgd s x t ho base E i z k bytes ht hi hz hsize hby hzs hsz v l.length (l.flatMap enc) hs hown ad m.length cap (m.flatMap enc) hx (ay hk m)
   (fun j u hj => ?_) (fun u hu => ?_) (by unfold maxLen; omega) hn hbase (fun v' w' h2 h3 _ => h v' w' ?_ ?_)
  ·obtain ⟨y, hy, hu⟩ := kZ hk hsz hj; obtain ⟨b, off, hb, hc⟩ := hel _ y hy; simp only [Option.some.injEq] at hb
   subst hb; have := hc _ u hu; rw [← this]; have e : j / k * k + j % k = j := by rw [Nat.mul_comm]; exact Nat.div_add_mod j k
   rw [Nat.add_assoc, e]
   congr 1
   unfold Addr.add; split <;> simp [*]
  ·rw [List.mem_flatMap] at hu; obtain ⟨y, _, hu⟩ := hu; exact List.all_eq_true.1 (h1 y) u hu
  ·unfold Own; rw [List.flatMap_append, List.length_append]; exact h2
  ·exact (LD _ _).grown h3 hbase (fun k hk => (World.ownsRow.lt hown k hk).1)
end Go.Proofs.YtgohddfnhofjhaaGreatDoor

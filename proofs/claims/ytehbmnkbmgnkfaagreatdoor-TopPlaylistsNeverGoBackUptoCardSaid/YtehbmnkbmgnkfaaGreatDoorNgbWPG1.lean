/- Arguments opened: a slice of structs reads as a list. -/
import Derived.Test.YtehbmnkbmgnkfaaGreatDoorB01
import Derived.ProofKit
import Derived.OpenShut
import Derived.ShutString
import Derived.ChangeOld
import Derived.SizedLaws
import Derived.Deep.Strs
import Derived.Test.YtehbmnkbmgnkfaaGreatDoorRows
import Derived.Test.YtehbmnkbmgnkfaaGreatDoorB30
import Derived.Lib.SmallJoins
namespace Go.Proofs.YtehbmnkbmgnkfaaGreatDoor
open Go.RowKit Go.ChangeShapes Go.WideShapes Go.Deep

/-- Cells of type E are enc' y for some y that is wf. -/
def Dec {α : Type} (P : Program) (w : World) (E : TypeId) (enc' : α → List Value) (wf : α → Prop) : Prop :=
  ∀ (H : Type) (enc : TypeId × Value → H) (n : Nat) (cs : List Value) (x : DataW H × List MemPlace), DataW.trod enc P w 0 (fun _ => true) true n E cs = some x → ∃ y, cs = enc' y ∧ wf y

/-- An int of Go. -/
def I64 (n : Int) : Prop := -9223372036854775808 ≤ n ∧ n ≤ 9223372036854775807
theorem I64.of {n : Int} (h : (Lit.int .i64 n).wf = true) : I64 n := by
  simp [Lit.wf, IntKind.min, IntKind.max, IntKind.signed, IntKind.bits] at h
  exact ⟨by omega, by omega⟩

theorem sl_open {α : Type} {H : Type} {enc : TypeId × Value → H} {P : Program} {w : World} {t E : TypeId} {k : Nat} {enc' : α → List Value} {wf : α → Prop} (ht : P.underlying t = some (.slice E)) (hk : P.cellsOf E = k) (hk0 : 0 < k)
    (hd : Dec P w E enc' wf) {a : Option Addr} {len cap : Nat} {d : DataW H} {p : List MemPlace} (h : DataW.Trod enc P w 0 (fun _ => true) true t (.slice a len cap) d p) :
    ∃ l, Sl w k enc' (.slice a len cap) l ∧ (∀ y, y ∈ l → wf y) ∧ l.length = len ∧
      ((d = .nil ∧ cap = 0) ∨ ∃ elems spare, d = .slice elems spare ∧ elems.length + spare.length = cap) := by
  obtain ⟨fuel, hf⟩ := h
  rcases open_slice ht hf with ⟨hcs, hx⟩ | ⟨a', len', cap', m, n, D, Pl, hcs, hb, hl, hm, hmm, hx, hel⟩
  · simp [Value.cells] at hcs
    obtain ⟨rfl, rfl, rfl⟩ := hcs
    simp at hx
    exact ⟨[], Sl.nil, fun y hy => by simp at hy, rfl, .inl ⟨hx.1, rfl⟩⟩
  · simp [Value.cells] at hcs
    obtain ⟨rfl, rfl, rfl⟩ := hcs
    simp only [Prod.mk.injEq] at hx
    simp only [if_true] at hmm
    subst hmm
    have hy : ∀ i, i < m → ∃ y : α, (w.cells? 0 (a'.add (i * P.cellsOf E)) (P.cellsOf E)) = some (enc' y) ∧ wf y := fun i hi => by
      obtain ⟨cs', h1, h2⟩ := hel i hi
      obtain ⟨y, rfl, hw⟩ := hd H enc n cs' _ h2
      exact ⟨y, h1, hw⟩
    have hlist : ∀ j, j ≤ m → ∃ l : List α, l.length = j ∧ (∀ y, y ∈ l → wf y) ∧ ∀ i y, l[i]? = some y → w.cells? 0 (a'.add (i * P.cellsOf E)) (P.cellsOf E) = some (enc' y) := by
      intro j
      induction j with
      | zero => exact fun _ => ⟨[], rfl, fun y hy => by simp at hy, fun i y h => by simp at h⟩
      | succ j ih =>
        intro hj
        obtain ⟨l, hl1, hl2, hl3⟩ := ih (by omega)
        obtain ⟨y, hy1, hy2⟩ := hy j (by omega)
        refine ⟨l ++ [y], by simp [hl1], fun z hz => ?_, fun i z hz => ?_⟩
        · rcases List.mem_append.1 hz with h | h
          · exact hl2 z h
          · simp at h; subst h; exact hy2
        · by_cases h : i < l.length
          · rw [List.getElem?_append_left h] at hz; exact hl3 i z hz
          · rw [List.getElem?_append_right (by omega)] at hz
            have hi : i = l.length := by
              have := (List.getElem?_eq_some_iff.1 hz).1
              simp at this; omega
            subst hi
            simp at hz; subst hz
            rw [hl1]; exact hy1
    obtain ⟨l, hl1, hl2, hl3⟩ := hlist len hl
    refine ⟨l, ⟨some a', m, by rw [hl1], by omega, hm, fun e => by simp at e, fun i y hi => ?_⟩, hl2, hl1, .inr ⟨_, _, hx.1, by simp; omega⟩⟩
    have hc := hl3 i y hi
    rw [hk] at hc
    obtain ⟨_, hlen, hcell⟩ := World.cells?_some hc
    obtain ⟨b, off, spot⟩ := a'
    have hspot : spot = none := by
      cases i with
      | zero =>
        have h0 := hcell 0 hk0
        rw [List.getElem?_eq_getElem (by omega)] at h0
        simpa [Addr.add] using World.cell?_spot h0
      | succ i =>
        have hy0 := hl3 0 (l[0]'(by have := (List.getElem?_eq_some_iff.1 hi).1; omega)) (by simp)
        rw [hk] at hy0
        obtain ⟨_, hlen0, hcell0⟩ := World.cells?_some hy0
        have h0 := hcell0 0 hk0
        rw [List.getElem?_eq_getElem (by omega)] at h0
        simpa [Addr.add] using World.cell?_spot h0
    subst hspot
    refine ⟨b, off, rfl, fun j u hu => ?_⟩
    have hj : j < k := by
      have := (List.getElem?_eq_some_iff.1 hu).1
      omega
    have := hcell j hj
    rw [hu] at this
    rw [← this]
    congr 1
    unfold Addr.add
    split <;> split <;> simp [*] <;> omega

/-- What the form's reach says of a slice among the arguments. -/
theorem sl_reach {H : Type} {P : Program} {ts : List TypeId} {ds : List (DataW H)} (h : (DataW.weightsEach P ts ds).all (· ≤ reachBytes) = true) {j : Nat} {t E : TypeId} {d : DataW H} {cap len : Nat} (hle : len ≤ cap)
    (htj : ts[j]? = some t) (hdj : ds[j]? = some d) (hu : P.underlying t = some (.slice E)) (hd : (d = .nil ∧ cap = 0) ∨ ∃ elems spare, d = .slice elems spare ∧ elems.length + spare.length = cap) :
    len * P.bytesOf E ≤ 140737488351232 := by
  rcases hd with ⟨_, rfl⟩ | ⟨elems, spare, rfl, hc⟩
  · have : len = 0 := by omega
    simp [this]
  · have := sized_slice h htj hdj hu
    rw [hc] at this
    exact Nat.le_trans (Nat.mul_le_mul_right _ hle) (by simpa [reachBytes] using this)
end Go.Proofs.YtehbmnkbmgnkfaaGreatDoor

/- Arguments opened, with their bulk. -/
namespace Go.Proofs.YtehbmnkbmgnkfaaGreatDoor
open Go.RowKit Go.ChangeShapes Go.WideShapes Go.Deep

theorem bulk_one {H : Type} (d : DataW H) : 1 ≤ Rows.uptoBulk d := by
  cases d with
  | lit l => cases l <;> simp [Rows.uptoBulk]
  | nil => simp [Rows.uptoBulk]
  | ptr d => simp [Rows.uptoBulk]
  | slice elems spare => simp [Rows.uptoBulk]
  | agg parts => simp [Rows.uptoBulk]
  | iface t d => simp [Rows.uptoBulk]
  | map entries => simp [Rows.uptoBulk]
  | held h => simp [Rows.uptoBulk]
theorem bulk_append {H : Type} (l r : List (DataW H)) : Rows.uptoBulkAll (l ++ r) = Rows.uptoBulkAll l + Rows.uptoBulkAll r := by
  induction l with
  | nil => simp [Rows.uptoBulkAll]
  | cons x l ih => simp only [List.cons_append, Rows.uptoBulkAll, ih]; omega
theorem bulk_part {H : Type} {d : DataW H} {l : List (DataW H)} (h : d ∈ l) : Rows.uptoBulk d ≤ Rows.uptoBulkAll l := by
  induction l with
  | nil => cases h
  | cons x r ih =>
    simp only [Rows.uptoBulkAll]
    cases List.mem_cons.1 h with
    | inl e => subst e; omega
    | inr e => have := ih e; omega

def sizes {α : Type} (size : α → Nat) : List α → Nat
  | [] => 0
  | y :: r => size y + sizes size r
theorem sizes_append {α : Type} (size : α → Nat) : ∀ a b : List α, sizes size (a ++ b) = sizes size a + sizes size b
  | [], b => by simp [sizes]
  | p :: r, b => by simp [sizes, sizes_append size r b]; omega
theorem sizes_bulk {α H : Type} {size : α → Nat} {D : Nat → DataW H} {l : List α} (h : ∀ i y, l[i]? = some y → size y ≤ Rows.uptoBulk (D i)) : ∀ k, k ≤ l.length → sizes size (l.take k) ≤ Rows.uptoBulkAll ((List.range k).map D)
  | 0, _ => by simp [sizes]
  | k + 1, hk => by
    have hx : l[k]? = some (l[k]'(by omega)) := List.getElem?_eq_getElem (by omega)
    have ih := sizes_bulk h k (by omega)
    rw [List.take_succ_eq_append_getElem (by omega), sizes_append, List.range_succ, List.map_append, bulk_append]
    have := h k _ hx
    simp only [sizes, List.map_cons, List.map_nil, Rows.uptoBulkAll]
    omega

/-- Cells of type E are enc' y for some y that is wf, and not larger than what is read. -/
def DecB {α : Type} (P : Program) (w : World) (E : TypeId) (enc' : α → List Value) (wf : α → Prop) (size : α → Nat) : Prop :=
  ∀ (H : Type) (enc : TypeId × Value → H) (n : Nat) (cs : List Value) (x : DataW H × List MemPlace), DataW.trod enc P w 0 (fun _ => true) true n E cs = some x → ∃ y, cs = enc' y ∧ wf y ∧ size y ≤ Rows.uptoBulk x.1
theorem DecB.of {α : Type} {P : Program} {w : World} {E : TypeId} {enc' : α → List Value} {wf : α → Prop} (h : Dec P w E enc' wf) : DecB P w E enc' wf fun _ => 1 := fun H enc n cs x hx => by
  obtain ⟨y, h1, h2⟩ := h H enc n cs x hx
  exact ⟨y, h1, h2, bulk_one _⟩

theorem sl_openB {α : Type} {H : Type} {enc : TypeId × Value → H} {P : Program} {w : World} {t E : TypeId} {k : Nat} {enc' : α → List Value} {wf : α → Prop} {size : α → Nat} (ht : P.underlying t = some (.slice E)) (hk : P.cellsOf E = k) (hk0 : 0 < k)
    (hd : DecB P w E enc' wf size) {fuel : Nat} {cs0 : List Value} {x0 : DataW H × List MemPlace} (hf : DataW.trod enc P w 0 (fun _ => true) true fuel t cs0 = some x0) :
    ∃ v l, cs0 = [v] ∧ Sl w k enc' v l ∧ (∀ y, y ∈ l → wf y) ∧ sizes size l ≤ Rows.uptoBulk x0.1 := by
  rcases open_slice ht hf with ⟨hcs, hx⟩ | ⟨a', len', cap', m, n, D, Pl, hcs, hb, hl, hm, hmm, hx, hel⟩
  · exact ⟨_, [], hcs, Sl.nil, fun y hy => by simp at hy, by simp [sizes]⟩
  · simp only [if_true] at hmm
    subst hmm
    have hy : ∀ i, i < m → ∃ y : α, (w.cells? 0 (a'.add (i * P.cellsOf E)) (P.cellsOf E)) = some (enc' y) ∧ wf y ∧ size y ≤ Rows.uptoBulk (D i) := fun i hi => by
      obtain ⟨cs', h1, h2⟩ := hel i hi
      obtain ⟨y, rfl, hw, hs⟩ := hd H enc n cs' _ h2
      exact ⟨y, h1, hw, hs⟩
    have hlist : ∀ j, j ≤ m → ∃ l : List α, l.length = j ∧ (∀ y, y ∈ l → wf y) ∧ ∀ i y, l[i]? = some y → w.cells? 0 (a'.add (i * P.cellsOf E)) (P.cellsOf E) = some (enc' y) ∧ size y ≤ Rows.uptoBulk (D i) := by
      intro j
      induction j with
      | zero => exact fun _ => ⟨[], rfl, fun y hy => by simp at hy, fun i y h => by simp at h⟩
      | succ j ih =>
        intro hj
        obtain ⟨l, hl1, hl2, hl3⟩ := ih (by omega)
        obtain ⟨y, hy1, hy2, hy3⟩ := hy j (by omega)
        refine ⟨l ++ [y], by simp [hl1], fun z hz => ?_, fun i z hz => ?_⟩
        · rcases List.mem_append.1 hz with h | h
          · exact hl2 z h
          · simp at h; subst h; exact hy2
        · by_cases h : i < l.length
          · rw [List.getElem?_append_left h] at hz; exact hl3 i z hz
          · rw [List.getElem?_append_right (by omega)] at hz
            have hi : i = l.length := by
              have := (List.getElem?_eq_some_iff.1 hz).1
              simp at this; omega
            subst hi
            simp at hz; subst hz
            rw [hl1]; exact ⟨hy1, hy3⟩
    obtain ⟨l, hl1, hl2, hl3⟩ := hlist len' hl
    refine ⟨_, l, hcs, ⟨some a', m, by rw [hl1], by omega, hm, fun e => by simp at e, fun i y hi => ?_⟩, hl2, ?_⟩
    · have hc := (hl3 i y hi).1
      rw [hk] at hc
      obtain ⟨_, hlen, hcell⟩ := World.cells?_some hc
      obtain ⟨b, off, spot⟩ := a'
      have hspot : spot = none := by
        cases i with
        | zero =>
          have h0 := hcell 0 hk0
          rw [List.getElem?_eq_getElem (by omega)] at h0
          simpa [Addr.add] using World.cell?_spot h0
        | succ i =>
          have hy0 := (hl3 0 (l[0]'(by have := (List.getElem?_eq_some_iff.1 hi).1; omega)) (by simp)).1
          rw [hk] at hy0
          obtain ⟨_, hlen0, hcell0⟩ := World.cells?_some hy0
          have h0 := hcell0 0 hk0
          rw [List.getElem?_eq_getElem (by omega)] at h0
          simpa [Addr.add] using World.cell?_spot h0
      subst hspot
      refine ⟨b, off, rfl, fun j u hu => ?_⟩
      have hj : j < k := by
        have := (List.getElem?_eq_some_iff.1 hu).1
        omega
      have := hcell j hj
      rw [hu] at this
      rw [← this]
      congr 1
      unfold Addr.add
      split <;> split <;> simp [*] <;> omega
    · have h1 := sizes_bulk (D := D) (l := l) (size := size) (fun i y h => (hl3 i y h).2) len' (by omega)
      rw [← hl1, List.take_length, hl1] at h1
      rw [hx]
      simp only [Rows.uptoBulk]
      omega
end Go.Proofs.YtehbmnkbmgnkfaaGreatDoor

/- A list, stages, a rule among the arguments, and how large what is read is. -/
namespace Go.Proofs.YtehbmnkbmgnkfaaGreatDoor
open Go.RowKit Go.ChangeShapes Go.WideShapes Go.Deep

theorem cellsIntT : Tryz.prog.cellsOf 3 = 1 := by kernel_rfl
theorem cellsStrT : Tryz.prog.cellsOf 9 = 1 := by kernel_rfl
theorem cellsBoT : Tryz.prog.cellsOf 4 = 1 := by kernel_rfl
theorem cellsExT : Tryz.prog.cellsOf 45 = 1 := by kernel_rfl
theorem cellsEnT : Tryz.prog.cellsOf 47 = 7 := by kernel_rfl
theorem cellsEnsT : Tryz.prog.cellsOf 22 = 1 := by kernel_rfl
theorem cellsLsT : Tryz.prog.cellsOf 24 = 5 := by kernel_rfl
theorem cellsStT : Tryz.prog.cellsOf 49 = 9 := by kernel_rfl
theorem sizes_mem {α : Type} {size : α → Nat} {l : List α} {y : α} (h : y ∈ l) : size y ≤ sizes size l := by
  induction l with
  | nil => cases h
  | cons a r ih =>
    simp only [sizes]
    rcases List.mem_cons.1 h with e | e
    · subst e; omega
    · have := ih e; omega
theorem sizes_len {α : Type} {size : α → Nat} (hs : ∀ y, 1 ≤ size y) (l : List α) : l.length ≤ sizes size l := by
  induction l with
  | nil => simp [sizes]
  | cons a r ih => have := hs a; simp only [sizes, List.length_cons]; omega
theorem trodB3 {H : Type} {enc : TypeId × Value → H} {P : Program} {w : World} {base : Nat} {spare : Nat → Bool} {held : Bool} {t : TypeId} {f0 f1 f2 : Field} {fuel : Nat} {cs : List Value} {x : DataW H × List MemPlace} (ht : P.underlying t = some (.struct #[f0, f1, f2])) (h : DataW.trod enc P w base spare held fuel t cs = some x) :
    ∃ (y0 y1 y2 : DataW H × List MemPlace) (n : Nat), x.1 = .agg [y0.1, y1.1, y2.1] ∧ cs.length = P.cellsOf t ∧ DataW.trod enc P w base spare held n f0.type ((cs.drop f0.offset).take (P.cellsOf f0.type)) = some y0 ∧ DataW.trod enc P w base spare held n f1.type ((cs.drop f1.offset).take (P.cellsOf f1.type)) = some y1 ∧ DataW.trod enc P w base spare held n f2.type ((cs.drop f2.offset).take (P.cellsOf f2.type)) = some y2 := by
  obtain ⟨xs, n, _, rfl, hl, hlen, hf⟩ := DataW.trod_struct ht h
  match xs, hlen with
  | [y0, y1, y2], _ => exact ⟨y0, y1, y2, n, rfl, hl, by simpa using hf 0 f0 rfl, by simpa using hf 1 f1 rfl, by simpa using hf 2 f2 rfl⟩
theorem trodB5 {H : Type} {enc : TypeId × Value → H} {P : Program} {w : World} {base : Nat} {spare : Nat → Bool} {held : Bool} {t : TypeId} {f0 f1 f2 f3 f4 : Field} {fuel : Nat} {cs : List Value} {x : DataW H × List MemPlace} (ht : P.underlying t = some (.struct #[f0, f1, f2, f3, f4])) (h : DataW.trod enc P w base spare held fuel t cs = some x) :
    ∃ (y0 y1 y2 y3 y4 : DataW H × List MemPlace) (n : Nat), x.1 = .agg [y0.1, y1.1, y2.1, y3.1, y4.1] ∧ cs.length = P.cellsOf t ∧ DataW.trod enc P w base spare held n f0.type ((cs.drop f0.offset).take (P.cellsOf f0.type)) = some y0 ∧ DataW.trod enc P w base spare held n f1.type ((cs.drop f1.offset).take (P.cellsOf f1.type)) = some y1 ∧ DataW.trod enc P w base spare held n f2.type ((cs.drop f2.offset).take (P.cellsOf f2.type)) = some y2 ∧ DataW.trod enc P w base spare held n f3.type ((cs.drop f3.offset).take (P.cellsOf f3.type)) = some y3 ∧ DataW.trod enc P w base spare held n f4.type ((cs.drop f4.offset).take (P.cellsOf f4.type)) = some y4 := by
  obtain ⟨xs, n, _, rfl, hl, hlen, hf⟩ := DataW.trod_struct ht h
  match xs, hlen with
  | [y0, y1, y2, y3, y4], _ => exact ⟨y0, y1, y2, y3, y4, n, rfl, hl, by simpa using hf 0 f0 rfl, by simpa using hf 1 f1 rfl, by simpa using hf 2 f2 rfl, by simpa using hf 3 f3 rfl, by simpa using hf 4 f4 rfl⟩
theorem trodB7 {H : Type} {enc : TypeId × Value → H} {P : Program} {w : World} {base : Nat} {spare : Nat → Bool} {held : Bool} {t : TypeId} {f0 f1 f2 f3 f4 f5 f6 : Field} {fuel : Nat} {cs : List Value} {x : DataW H × List MemPlace} (ht : P.underlying t = some (.struct #[f0, f1, f2, f3, f4, f5, f6])) (h : DataW.trod enc P w base spare held fuel t cs = some x) :
    ∃ (y0 y1 y2 y3 y4 y5 y6 : DataW H × List MemPlace) (n : Nat), x.1 = .agg [y0.1, y1.1, y2.1, y3.1, y4.1, y5.1, y6.1] ∧ cs.length = P.cellsOf t ∧ DataW.trod enc P w base spare held n f0.type ((cs.drop f0.offset).take (P.cellsOf f0.type)) = some y0 ∧ DataW.trod enc P w base spare held n f1.type ((cs.drop f1.offset).take (P.cellsOf f1.type)) = some y1 ∧ DataW.trod enc P w base spare held n f2.type ((cs.drop f2.offset).take (P.cellsOf f2.type)) = some y2 ∧ DataW.trod enc P w base spare held n f3.type ((cs.drop f3.offset).take (P.cellsOf f3.type)) = some y3 ∧ DataW.trod enc P w base spare held n f4.type ((cs.drop f4.offset).take (P.cellsOf f4.type)) = some y4 ∧ DataW.trod enc P w base spare held n f5.type ((cs.drop f5.offset).take (P.cellsOf f5.type)) = some y5 ∧ DataW.trod enc P w base spare held n f6.type ((cs.drop f6.offset).take (P.cellsOf f6.type)) = some y6 := by
  obtain ⟨xs, n, _, rfl, hl, hlen, hf⟩ := DataW.trod_struct ht h
  match xs, hlen with
  | [y0, y1, y2, y3, y4, y5, y6], _ => exact ⟨y0, y1, y2, y3, y4, y5, y6, n, rfl, hl, by simpa using hf 0 f0 rfl, by simpa using hf 1 f1 rfl, by simpa using hf 2 f2 rfl, by simpa using hf 3 f3 rfl, by simpa using hf 4 f4 rfl, by simpa using hf 5 f5 rfl, by simpa using hf 6 f6 rfl⟩
def szS (s : ByteArray) : Nat := s.size + 1
theorem decStrT (w : World) : DecB Tryz.prog w 9 encS (fun _ => True) szS := by
  intro H enc n cs x h
  obtain ⟨s, e, hx, _⟩ := DataW.trod_string Tryz.underlying9 h
  refine ⟨s, e, trivial, ?_⟩
  rw [hx]
  show s.size + 1 ≤ s.data.toList.length + 1
  rw [Lib.size_eq]
  exact Nat.le_refl _
def szE (x : Ent) : Nat := x.ur.size + x.ke.size + sizes szS x.ex + 1
theorem wfE_of {x : Ent} (h : szE x ≤ 1048576) (h1 : I64 x.mi) (h2 : I64 x.da) : WfE x := by
  unfold szE at h
  have h3 := sizes_len (size := szS) (fun _ => by unfold szS; omega) x.ex
  refine ⟨by omega, by omega, h1, h2, by omega, fun s hs => ?_⟩
  have h4 := sizes_mem (size := szS) hs
  unfold szS at h3 h4
  unfold szS at h
  omega
set_option maxRecDepth 100000 in
theorem entT {H : Type} {enc : TypeId × Value → H} {w : World} {n : Nat} {cs : List Value} {x : DataW H × List MemPlace} (h : DataW.trod enc Tryz.prog w 0 (fun _ => true) true n 47 cs = some x) :
    ∃ p : EnV, cs = encEn p ∧ (Sl w 1 encS p.2 p.1.ex ∧ I64 p.1.mi ∧ I64 p.1.da) ∧ szE p.1 ≤ Rows.uptoBulk x.1 := by
  obtain ⟨y0, y1, y2, y3, y4, y5, y6, m, hx, hl, h0, h1, h2, h3, h4, h5, h6⟩ := trodB7 Tryz.underlying47 h
  rw [cellsEnT] at hl
  match cs, hl with
  | [a, b, c, d, e, f, g], _ =>
    simp only [cellsIntT, cellsStrT, cellsBoT, cellsExT] at h0 h1 h2 h3 h4 h5 h6
    obtain ⟨a', e0, x0, _⟩ := DataW.trod_string Tryz.underlying9 h0
    obtain ⟨b', e1, _, w1⟩ := DataW.trod_int Tryz.underlying3 h1
    obtain ⟨c', e2, _⟩ := DataW.trod_bool Tryz.underlying4 h2
    obtain ⟨d', e3, _, w3⟩ := DataW.trod_int Tryz.underlying3 h3
    obtain ⟨e', e4, x4, _⟩ := DataW.trod_string Tryz.underlying9 h4
    obtain ⟨f', e5, _⟩ := DataW.trod_bool Tryz.underlying4 h5
    obtain ⟨g', l, e6, hs, _, hb⟩ := sl_openB Tryz.underlying45 cellsStrT (by decide) (decStrT w) h6
    simp at e0 e1 e2 e3 e4 e5 e6
    subst e0 e1 e2 e3 e4 e5 e6
    refine ⟨(⟨a', b', c', d', e', f', l⟩, g), rfl, ⟨hs, I64.of w1, I64.of w3⟩, ?_⟩
    rw [hx]
    have k0 : a'.size + 1 ≤ Rows.uptoBulk y0.1 := by
      rw [x0]; show a'.size + 1 ≤ a'.data.toList.length + 1; rw [Lib.size_eq]; exact Nat.le_refl _
    have k4 : e'.size + 1 ≤ Rows.uptoBulk y4.1 := by
      rw [x4]; show e'.size + 1 ≤ e'.data.toList.length + 1; rw [Lib.size_eq]; exact Nat.le_refl _
    show a'.size + e'.size + sizes szS l + 1 ≤ _
    simp only [Rows.uptoBulk, Rows.uptoBulkAll]
    omega
theorem decEnT (w : World) : DecB Tryz.prog w 47 encEn (fun p => Sl w 1 encS p.2 p.1.ex ∧ I64 p.1.mi ∧ I64 p.1.da) (fun p => szE p.1) := fun _ _ _ _ _ h => entT h
set_option maxRecDepth 100000 in
theorem decStgT (w : World) : DecB Tryz.prog w 49 encSt (fun p => Sl w 1 encS p.2 p.1.x.ex ∧ I64 p.1.x.mi ∧ I64 p.1.x.da) (fun p => szE p.1.x) := by
  intro H enc n cs x h
  obtain ⟨y0, y1, y2, m, hx, hl, h0, h1, h2⟩ := trodB3 Tryz.underlying49 h
  rw [cellsStT] at hl
  match cs, hl with
  | [a, b0, b1, b2, b3, b4, b5, b6, c], _ =>
    simp only [cellsIntT, cellsEnT] at h0 h1 h2
    obtain ⟨a', e0, _, w0⟩ := DataW.trod_int Tryz.underlying3 h0
    obtain ⟨p, e1, hw, hb⟩ := entT h1
    obtain ⟨c', e2, _, w2⟩ := DataW.trod_int Tryz.underlying3 h2
    obtain ⟨⟨ur, mi, br, da, ke, ga, ex⟩, v⟩ := p
    simp [encEn] at e0 e1 e2
    obtain ⟨rfl, rfl, rfl, rfl, rfl, rfl, rfl⟩ := e1
    subst e0 e2
    refine ⟨(⟨a', ⟨ur, mi, br, da, ke, ga, ex⟩, c'⟩, b6), rfl, hw, ?_⟩
    rw [hx]
    simp only [Rows.uptoBulk, Rows.uptoBulkAll]
    have hb : szE ⟨ur, mi, br, da, ke, ga, ex⟩ ≤ Rows.uptoBulk y1.1 := hb
    show szE ⟨ur, mi, br, da, ke, ga, ex⟩ ≤ _
    omega
theorem toList5T {cs : Array Value} {l : List Value} (h : cs.toList = l) : cs = l.toArray := by rw [← h]
set_option maxRecDepth 100000 in
theorem openLsT {H : Type} {enc : TypeId × Value → H} {r : Reach} {b0 : Nat} (W : World) (v : Value) (d : DataW H) (p : List MemPlace) (hv : Value.okWide Tryz.prog W r b0 24 v)
    (h : DataW.Trod enc Tryz.prog W 0 (fun _ => true) true 24 v d p) (hd : Rows.uptoBulk d ≤ 1048576) : ∃ (l : Lst) (u : Value), v = agLs l u ∧ EnS W u l.en ∧ WfLs l := by
  obtain ⟨cs, rfl, hsz⟩ := okWide_struct Tryz.underlying24 hv
  obtain ⟨fuel, hf⟩ := h
  have hf : DataW.trod enc Tryz.prog W 0 (fun _ => true) true fuel 24 cs.toList = some (d, p) := by simpa [Value.cells] using hf
  obtain ⟨y0, y1, y2, y3, y4, m, hx, hl, h0, h1, h2, h3, h4⟩ := trodB5 Tryz.underlying24 hf
  rw [cellsLsT] at hl
  obtain ⟨cl, hcl⟩ : ∃ cl, cl = cs.toList := ⟨_, rfl⟩
  rw [← hcl] at hl h0 h1 h2 h3 h4
  match cl, hl with
  | [a, b, c, e, f], _ =>
    simp only [cellsIntT, cellsBoT, cellsEnsT] at h0 h1 h2 h3 h4
    obtain ⟨a', e0, _, w0⟩ := DataW.trod_int Tryz.underlying3 h0
    obtain ⟨b', e1, _, w1⟩ := DataW.trod_int Tryz.underlying3 h1
    obtain ⟨c', e2, _, w2⟩ := DataW.trod_int Tryz.underlying3 h2
    obtain ⟨u, q, e3, hs, hw, hb⟩ := sl_openB Tryz.underlying22 cellsEnT (by decide) (decEnT W) h3
    obtain ⟨f', e4, _⟩ := DataW.trod_bool Tryz.underlying4 h4
    simp at e0 e1 e2 e3 e4
    subst e0 e1 e2 e3 e4
    have hx : d = .agg [y0.1, y1.1, y2.1, y3.1, y4.1] := hx
    have h3b : Rows.uptoBulk y3.1 ≤ 1048576 := by
      rw [hx] at hd
      simp only [Rows.uptoBulk, Rows.uptoBulkAll] at hd
      omega
    have hln := sizes_len (size := fun p : EnV => szE p.1) (fun _ => by unfold szE; omega) q
    refine ⟨⟨a', b', c', q.map Prod.fst, f'⟩, e, ?_, ⟨q, hs, rfl, fun p hp => (hw p hp).1⟩, ⟨I64.of w0, I64.of w1, I64.of w2, by simp; omega, fun x hx => ?_⟩⟩
    · rw [toList5T hcl.symm]
    · obtain ⟨p, hp, rfl⟩ := List.mem_map.1 hx
      exact wfE_of (Nat.le_trans (Nat.le_trans (sizes_mem (size := fun p : EnV => szE p.1) hp) hb) h3b) (hw p hp).2.1 (hw p hp).2.2
theorem openStT {H : Type} {enc : TypeId × Value → H} (W : World) {fuel : Nat} {v : Value} {x : DataW H × List MemPlace} (h : DataW.trod enc Tryz.prog W 0 (fun _ => true) true fuel 25 [v] = some x) (hd : Rows.uptoBulk x.1 ≤ 1048576) :
    ∃ S : List Stg, StS W v S ∧ (∀ s, s ∈ S → WfE s.x) ∧ S.length ≤ 1048576 := by
  obtain ⟨u, q, e, hs, hw, hb⟩ := sl_openB Tryz.underlying25 cellsStT (by decide) (decStgT W) h
  simp at e
  subst e
  have hln := sizes_len (size := fun p : StV => szE p.1.x) (fun _ => by unfold szE; omega) q
  refine ⟨q.map Prod.fst, ⟨q, hs, rfl, fun p hp => (hw p hp).1⟩, fun s hs2 => ?_, by simp; omega⟩
  obtain ⟨p, hp, rfl⟩ := List.mem_map.1 hs2
  exact wfE_of (Nat.le_trans (Nat.le_trans (sizes_mem (size := fun p : StV => szE p.1.x) hp) hb) hd) (hw p hp).2.1 (hw p hp).2.2
theorem decIntT (w : World) : DecB Tryz.prog w 3 encI (fun _ => True) (fun _ => 1) := by
  refine DecB.of fun H enc n cs x h => ?_
  obtain ⟨a, e, _, _⟩ := DataW.trod_int Tryz.underlying3 h
  exact ⟨a, e, trivial⟩
theorem openInT {H : Type} {enc : TypeId × Value → H} (W : World) {fuel : Nat} {v : Value} {x : DataW H × List MemPlace} (h : DataW.trod enc Tryz.prog W 0 (fun _ => true) true fuel 28 [v] = some x) (hd : Rows.uptoBulk x.1 ≤ 1048576) :
    ∃ L : List Int, Sl W 1 encI v L ∧ L.length ≤ 1048576 := by
  obtain ⟨u, q, e, hs, _, hb⟩ := sl_openB Tryz.underlying28 cellsIntT (by decide) (decIntT W) h
  simp at e
  subst e
  have hln := sizes_len (size := fun _ : Int => 1) (fun _ => Nat.le_refl _) q
  exact ⟨q, hs, by omega⟩
set_option maxRecDepth 100000 in
theorem openRuT {H : Type} {enc : TypeId × Value → H} {r : Reach} {b0 : Nat} (W : World) (v : Value) (d : DataW H) (p : List MemPlace) (hv : Value.okWide Tryz.prog W r b0 27 v)
    (h : DataW.Trod enc Tryz.prog W 0 (fun _ => true) true 27 v d p) (hd : Rows.uptoBulk d ≤ 1048576) : ∃ x : Crl, v = .agg #[.string x.pr, .int .i64 x.li, .int .i64 x.st, .int .i64 x.go] ∧ x.pr.size ≤ 1048576 := by
  obtain ⟨v0, v1, v2, v3, y0, y1, y2, y3, n, rfl, hx, _, h0, h1, h2, h3⟩ := Go.Joins.open_agg4 Tryz.underlying27 (by kernel_rfl) (by kernel_rfl) hv h
  obtain ⟨a', e0, x0, _⟩ := DataW.trod_string Tryz.underlying9 h0
  obtain ⟨b', e1, _, _⟩ := DataW.trod_int Tryz.underlying3 h1
  obtain ⟨c', e2, _, _⟩ := DataW.trod_int Tryz.underlying3 h2
  obtain ⟨d', e3, _, _⟩ := DataW.trod_int Tryz.underlying3 h3
  simp at e0 e1 e2 e3
  subst e0 e1 e2 e3
  refine ⟨⟨a', b', c', d'⟩, rfl, ?_⟩
  have k0 : a'.size + 1 ≤ Rows.uptoBulk y0.1 := by
    rw [x0]; show a'.size + 1 ≤ a'.data.toList.length + 1; rw [Lib.size_eq]; exact Nat.le_refl _
  rw [hx] at hd
  simp only [Rows.uptoBulk, Rows.uptoBulkAll] at hd
  show a'.size ≤ 1048576
  omega
/-- A list, for the witness. -/
abbrev witLs : Value := .agg #[.int .i64 0, .int .i64 0, .int .i64 0, .slice none 0 0, .bool false]
abbrev witRu : Value := .agg #[.string ByteArray.empty, .int .i64 0, .int .i64 0, .int .i64 0]
end Go.Proofs.YtehbmnkbmgnkfaaGreatDoor

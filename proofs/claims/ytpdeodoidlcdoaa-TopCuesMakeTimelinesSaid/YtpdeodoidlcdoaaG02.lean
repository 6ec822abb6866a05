/- Bytes among the arguments. -/
import Derived.Test.YtpdeodoidlcdoaaG01
import Derived.Maps.OwnOps
namespace Go.Proofs.Ytpdeodoidlcdoaa
open Go.RowKit Go.ChangeShapes Go.WideShapes Go.Deep

theorem cellsU : Try.prog.cellsOf 5 = 1 := by kernel_rfl
theorem bytesU : Try.prog.bytesOf 5 = 1 := by kernel_rfl

theorem decU (w : World) : Dec Try.prog w 5 encU (fun _ => True) := by
  intro H enc n cs x h
  obtain ⟨a, e0, _, w0⟩ := DataW.trod_int Try.underlying5 h
  have hb := bounds_u8 w0
  subst e0
  refine ⟨UInt8.ofNat a.toNat, ?_, trivial⟩
  simp [encU, UInt8.toNat_ofNat']
  omega
end Go.Proofs.Ytpdeodoidlcdoaa

/- A map of bools that the call has made: the look-up of one element. -/
namespace Go.Proofs.Ytpdeodoidlcdoaa
open Go.RowKit Go.ChangeMaps Go.MapKept
open Go.Maps (Keyed)

theorem plainElem_bool_inv {H : Type} {P : Program} {e : TypeId} (he : P.underlying e = some .bool) {v : Value} {z : DataW H × List MemPlace} (h : plainElem P e v = some z) : ∃ x, v = .bool x ∧ z = (.lit (.bool x), []) := by
  unfold plainElem at h
  rw [he] at h
  cases v <;> simp at h
  subst h
  exact ⟨_, rfl, rfl⟩
theorem lookup_bool {H : Type} {P : Program} {w : World} {k t e : TypeId} {b n : Nat} {D : DataW H} (h : w.ownsMap P k (plainElem P e) b n D) (K : Keyed P k) (ht : P.underlying t = some (.map k e)) (he : P.underlying e = some .bool) (hz : (zeroValue e).run P w = .ok (.bool false) w)
    {key : Value} {kl : Lit} (hkey : keyOf P k key = some kl) : ∃ c, (Instr.lookup t (.map (some b)) key false).run P w = .ok (.bool c) w ∧ D.atKey kl (.lit (.bool false)) = .lit (.bool c) := by
  obtain ⟨v, ps, hrun, hv⟩ := h.lookup K ht hz (plainElem_bool he false) hkey
  obtain ⟨c, rfl, hc⟩ := plainElem_bool_inv he hv
  simp only [Prod.mk.injEq] at hc
  exact ⟨c, hrun, hc.1⟩
/-- 'm[k]' (without 'ok') at elements of type bool. -/
theorem wpList_lookup_own_bool {H : Type} {P : Program} (w : World) {ops : Array Oper} {rest : List Oper} {o : Oper} {a : Act} {Q : Exit → Act → World → Prop}
    (hg : o.guard = none) (m x : Operand) (t : TypeId) (hop : o.op = Op.lookup t m x false)
    (k e : TypeId) (K : Keyed P k) (ht : P.underlying t = some (.map k e)) (he : P.underlying e = some .bool) (hz : (zeroValue e).run P w = .ok (.bool false) w) (b n : Nat) (D : DataW H)
    (hm : a.eval m = .map (some b)) (hown : w.ownsMap P k (plainElem P e) b n D) (key : Value) (kl : Lit) (hx : a.eval x = key) (hkey : keyOf P k key = some kl)
    (hK : ∀ c : Bool, D.atKey kl (.lit (.bool false)) = .lit (.bool c) → wpList P ops Q rest (a.put o.dst (.bool c)) w) :
    wpList P ops Q (o :: rest) a w := by
  refine wpList_plain hg fun K' hK' => ?_
  obtain ⟨c, hrun, hat⟩ := lookup_bool hown K ht he hz hkey
  unfold Oper.wp
  simp [execOp, hop, hm, hx, hrun, Result.andThen]
  exact hK' _ _ (hK c hat)
end Go.Proofs.Ytpdeodoidlcdoaa

/- Events of cues, and the breaks that they make; plain. -/
namespace Go.Proofs.Ytpdeodoidlcdoaa
open Go.RowKit

/-- What became of an event: its break (op: it has no end yet), or that it is cancelled. -/
structure Evn where
  id : Int
  be : Int
  en : Int
  op : Bool
  ca : Bool
def idsE (l : List Evn) : Prop := l.Pairwise fun a b => a.id ≠ b.id
def gapsE (l : List Evn) : List Evn := l.filter fun e => !e.ca
def canE (l : List Evn) (ev : Int) : Bool := l.any fun e => (e.id == ev) && e.ca
def mapId (l : List Evn) (ev : Int) (f : Evn → Evn) : List Evn := l.map fun e => if e.id = ev then f e else e
theorem idsE.one {l : List Evn} (h : idsE l) {a b : Evn} (ha : a ∈ l) (hb : b ∈ l) (e : a.id = b.id) : a = b := by
  induction l with
  | nil => simp at ha
  | cons x r ih =>
    obtain ⟨h1, h2⟩ := List.pairwise_cons.1 h
    rcases List.mem_cons.1 ha with ha' | ha' <;> rcases List.mem_cons.1 hb with hb' | hb'
    · rw [ha', hb']
    · exact absurd (by rw [← ha']; exact e) (h1 b hb')
    · exact absurd (by rw [← hb']; exact e.symm) (h1 a ha')
    · exact ih h2 ha' hb'
theorem set_mapId : ∀ {l : List Evn} {k : Nat} {e : Evn} {f : Evn → Evn}, idsE l → l[k]? = some e → l.set k (f e) = mapId l e.id f
  | [], k, e, f, _, h => by simp at h
  | x :: r, 0, e, f, hd, h => by
    simp at h; subst h
    obtain ⟨h1, _⟩ := List.pairwise_cons.1 hd
    simp only [List.set_cons_zero, mapId, List.map_cons, if_true]
    congr 1
    symm
    have hm : ∀ a, a ∈ r → (if a.id = x.id then f a else a) = a := fun a ha => if_neg fun e => h1 a ha e.symm
    exact (List.map_congr_left hm).trans (List.map_id' r)
  | x :: r, k + 1, e, f, hd, h => by
    obtain ⟨h1, h2⟩ := List.pairwise_cons.1 hd
    have hx : x.id ≠ e.id := h1 e (List.mem_of_getElem? (by simpa using h))
    simp only [List.set_cons_succ, mapId, List.map_cons, if_neg hx]
    congr 1
    exact set_mapId h2 (by simpa using h)
theorem erase_id : ∀ {l : List Evn} {k : Nat} {e : Evn}, idsE l → l[k]? = some e → l.eraseIdx k = l.filter fun a => !(a.id == e.id)
  | [], k, e, _, h => by simp at h
  | x :: r, 0, e, hd, h => by
    simp at h; subst h
    obtain ⟨h1, _⟩ := List.pairwise_cons.1 hd
    rw [List.eraseIdx_cons_zero, List.filter_cons, if_neg (by simp)]
    symm
    exact List.filter_eq_self.2 fun a ha => by simp [(h1 a ha).symm]
  | x :: r, k + 1, e, hd, h => by
    obtain ⟨h1, h2⟩ := List.pairwise_cons.1 hd
    have hx : x.id ≠ e.id := h1 e (List.mem_of_getElem? (by simpa using h))
    rw [List.eraseIdx_cons_succ, List.filter_cons, if_pos (by simp [hx])]
    congr 1
    exact erase_id h2 (by simpa using h)
theorem idsE.sub {l m : List Evn} (h : idsE l) (hs : m.Sublist l) : idsE m := List.Pairwise.sublist hs h
theorem idsE.gaps {l : List Evn} (h : idsE l) : idsE (gapsE l) := h.sub List.filter_sublist
theorem idsE.mapId {l : List Evn} (h : idsE l) (ev : Int) {f : Evn → Evn} (hf : ∀ e, (f e).id = e.id) : idsE (mapId l ev f) := by
  unfold idsE Go.Proofs.Ytpdeodoidlcdoaa.mapId
  rw [List.pairwise_map]
  refine List.Pairwise.imp (fun {a b} hab => ?_) h
  split <;> split <;> first | exact hab | (simp only [hf]; exact hab)

/-- An event is cancelled: its break goes. -/
theorem gaps_cancel {l : List Evn} (ev : Int) : gapsE (mapId l ev fun e => { e with ca := true }) = (gapsE l).filter fun a => !(a.id == ev) := by
  unfold gapsE mapId
  induction l with
  | nil => rfl
  | cons x r ih =>
    rw [List.map_cons, List.filter_cons, List.filter_cons, ih]
    by_cases hx : x.id = ev
    · simp only [if_pos hx, Bool.not_true, Bool.false_eq_true, if_false]
      by_cases hc : x.ca
      · simp [hc]
      · simp [hc, hx]
    · simp only [if_neg hx]
      by_cases hc : x.ca
      · simp [hc]
      · simp [hc, hx]
theorem can_cancel {l : List Evn} (ev d : Int) (h : l.any (fun e => e.id == ev) = true) : canE (mapId l ev fun e => { e with ca := true }) d = ((d == ev) || canE l d) := by
  unfold canE mapId
  rw [Bool.eq_iff_iff]
  simp only [List.any_eq_true, List.mem_map, Bool.and_eq_true, beq_iff_eq, Bool.or_eq_true]
  constructor
  · rintro ⟨e, ⟨a, ha, rfl⟩, h1, h2⟩
    by_cases hx : a.id = ev
    · rw [if_pos hx] at h1
      exact .inl (by rw [← h1]; exact hx)
    · rw [if_neg hx] at h1 h2
      exact .inr ⟨a, ha, h1, h2⟩
  · rintro (rfl | ⟨a, ha, h1, h2⟩)
    · obtain ⟨a, ha, hx⟩ := List.any_eq_true.1 h
      exact ⟨_, ⟨a, ha, rfl⟩, by rw [if_pos (by simpa using hx)]; simpa using hx, by rw [if_pos (by simpa using hx)]⟩
    · refine ⟨_, ⟨a, ha, rfl⟩, ?_, ?_⟩
      · split <;> exact h1
      · split
        · rfl
        · exact h2
end Go.Proofs.Ytpdeodoidlcdoaa

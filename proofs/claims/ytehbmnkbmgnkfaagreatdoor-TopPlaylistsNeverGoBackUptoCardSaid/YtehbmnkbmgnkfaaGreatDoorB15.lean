/- What happens between caches, step by step: plain; and what stays within bounds. -/
import Derived.Test.YtehbmnkbmgnkfaaGreatDoorB14
namespace Go.Proofs.YtehbmnkbmgnkfaaGreatDoor
open Go.RowKit

/-- What the origin answers. -/
def oriM (l : List Rel) (k : ByteArray) (no : Int) : Ans := if (veO l k no).isSome = true then ⟨(outL l (veO l k no)).ti, no, (outL l (veO l k no)).si, false, ⟨#[]⟩⟩ else ⟨-1, no, 0, true, ⟨#[]⟩⟩
def Day.S (D : Day) (i : Nat) : Sto := D.st.getD i default
def Day.setS (D : Day) (i : Nat) (s : Sto) : Day := { D with st := D.st.set i s }
def Day.G (D : Day) (g : Nat) : Gtn := D.go.getD g default
def incCa (s : Sto) : Sto := { s with ld := { s.ld with ca := s.ld.ca + 1 } }
def incFr (s : Sto) : Sto := { s with ld := { s.ld with fr := s.ld.fr + 1 } }
def incSl (s : Sto) : Sto := { s with ld := { s.ld with sl := s.ld.sl + 1 } }
def incWt (s : Sto) : Sto := { s with ld := { s.ld with wt := s.ld.wt + 1 } }
def takeS (s : Sto) (key : ByteArray) (no : Int) : Sto := { s with hm := fun d => if d = key then ⟨(s.hm key).an, no⟩ else s.hm d }
def Day.takeD (D : Day) (i : Nat) (s : Sto) (key : ByteArray) : Day := { D with st := D.st.set i (takeS s key D.no), pu := D.pu + 1 }
def Day.giveD (D : Day) (f : Wtr) (x : Ans) : Day :=
  match f.ak with
  | some j => D.giveA j (D.S (D.K j).ca).ch.de x
  | none => { D with go := D.go.set f.ge (gotS (D.G f.ge) D.no x) }
def Day.waitD (D : Day) (j : Nat) (f : Wtr) : Day := { D with wa := upF D.wa j (D.wa j ++ [f]) }
def Day.howD (D : Day) (f : Wtr) (how : Int) : Day :=
  match f.ak with
  | some _ => D
  | none => { D with go := D.go.set f.ge { D.G f.ge with ho := how } }
/-- A cache that holds a key gives it. -/
def tookA (s : Sto) (key : ByteArray) : Ans := { (s.hm key).an with fr := s.ch.na }
def Day.freshD (D : Day) (i : Nat) (s : Sto) (key : ByteArray) (f : Wtr) : Day := (((D.setS i (incFr (incCa s))).takeD i (incFr (incCa s)) key).giveD f (tookA s key)).howD f 1
def Day.staleG (D : Day) (i : Nat) (s : Sto) (key : ByteArray) (f : Wtr) : Day := ((D.setS i (incSl (incCa s))).takeD i (incSl (incCa s)) key).giveD f (tookA s key)
def Day.moreD (D : Day) (i : Nat) (key : ByteArray) (last : Int) : Day := match wayO D (D.S i).ar key last with
  | some _ => D
  | none => D.askD i (D.S i) key true
def Day.newD (D : Day) (i : Nat) (s : Sto) (key : ByteArray) (kept : Bool) (f : Wtr) : Day := (((D.setS i (incCa s)).askD i (incCa s) key kept).waitD D.ak.length f).howD f 3
def Day.joinD (D : Day) (i : Nat) (s : Sto) (j : Nat) (f : Wtr) : Day := ((D.setS i (incWt (incCa s))).waitD j f).howD f 4
/-- A request comes to a cache. -/
def Day.cameD (D : Day) (R : List Crl) (P : List Pur) (i : Nat) (s : Sto) (key : ByteArray) (f : Wtr) : Day :=
  if (ruI R key R.length).isSome = false then D.newD i s key false f
  else if onL key s.ks = true ∧ D.no < untM (outU R (ruI R key R.length)) (s.hm key).an false then D.freshD i s key f
  else if onL key s.ks = true ∧ D.no < untM (outU R (ruI R key R.length)) (s.hm key).an true then ((D.staleG i s key f).moreD i key (purM P key D.no)).howD f 2
  else match wayO D s.ar key (purM P key D.no) with
    | some j => D.joinD i s j f
    | none => D.newD i s key true f
/-- The key that was used longest ago. -/
def lonK (f : ByteArray → Hld) (ks : List ByteArray) : ByteArray := ks.foldl (fun x y => if lgB f y x = true then y else x) (ks.headD ⟨#[]⟩)
def totK (f : ByteArray → Hld) : List ByteArray → Int
  | [] => 0
  | k :: ks => needA (f k).an + totK f ks
/-- Keys leave until there is room. -/
def evK (f : ByteArray → Hld) (ro nd : Int) : Nat → List ByteArray → List ByteArray
  | 0, ks => ks
  | g + 1, ks => if ro < totK f ks + nd then evK f ro nd g (rmv (lonK f ks) ks) else ks
def Day.setK (D : Day) (i : Nat) (s : Sto) (ks : List ByteArray) : Day := D.setS i { s with ks := ks }
/-- May a cache hold an answer? -/
def noKeep (D : Day) (R : List Crl) (P : List Pur) (s : Sto) (key : ByteArray) (x : Ans) : Bool :=
  (onL key s.ks && decide (x.bo < (s.hm key).an.bo)) || (decide (x.bo < purM P key D.no) || decide (untM (outU R (ruI R key R.length)) x true ≤ D.no))
def Day.keepD (D : Day) (R : List Crl) (P : List Pur) (i : Nat) (s : Sto) (key : ByteArray) (x : Ans) : Day :=
  if noKeep D R P s key x = true then D
  else if s.ch.ro < needA x then D.setK i s (rmv key s.ks)
  else { D with st := D.st.set i { s with ks := key :: evK s.hm s.ch.ro (needA x) s.ks.length (rmv key s.ks), hm := fun d => if d = key then ⟨x, D.no⟩ else s.hm d }, pu := D.pu + 1 }
def doneS (s : Sto) (j : Nat) (si : Int) : Sto := { s with ar := s.ar.filter fun o => !decide (o = j), ld := { s.ld with bs := s.ld.bs + si } }
/-- An answer comes back. -/
def Day.backD (D : Day) (R : List Crl) (P : List Pur) (j : Nat) (x : Ans) : Day :=
  let D1 := D.setS (D.K j).ca (doneS (D.S (D.K j).ca) j x.si)
  let D2 := (D.wa j).foldl (fun D f => D.giveD f x) D1
  if (D.K j).kp = true then D2.keepD R P (D.K j).ca (D2.S (D.K j).ca) (D.K j).ke x else D2
/-- A request of a cache comes to its parent, or to the origin. -/
def Day.arrD (D : Day) (R : List Crl) (E : List Rel) (P : List Pur) (j : Nat) : Day :=
  if 0 ≤ (D.S (D.K j).ca).pa then D.cameD R P (D.S (D.K j).ca).pa.toNat (D.S (D.S (D.K j).ca).pa.toNat) (D.K j).ke ⟨0, some j⟩
  else D.giveD ⟨0, some j⟩ (oriM E (D.K j).ke D.no)
/-- A purge. -/
def Day.purD (D : Day) (key : ByteArray) : Day := { D with st := D.st.map fun s => { s with ks := rmv key s.ks } }
def Day.popD (D : Day) : Day := { D with qu := (hpop (bfr D.K) D.qu).2 }
def Day.nowD (D : Day) (t : Int) : Day := { D with no := t }

theorem lonK_le (f : ByteArray → Hld) : ∀ (ks : List ByteArray) (x : ByteArray), (ks.foldl (fun x y => if lgB f y x = true then y else x) x = x ∨ ks.foldl (fun x y => if lgB f y x = true then y else x) x ∈ ks) ∧ lgB f x (ks.foldl (fun x y => if lgB f y x = true then y else x) x) = false ∧ ∀ y, y ∈ ks → lgB f y (ks.foldl (fun x y => if lgB f y x = true then y else x) x) = false
  | [], x => ⟨.inl rfl, lgB_self f x, fun y h => by cases h⟩
  | k :: ks, x => by
    simp only [List.foldl_cons]
    cases hb : lgB f k x
    · rw [if_neg (by simp)]
      obtain ⟨h1, h2, h3⟩ := lonK_le f ks x
      refine ⟨h1.imp id (List.mem_cons_of_mem _), h2, fun y hy => ?_⟩
      rcases List.mem_cons.1 hy with rfl | hy
      · cases hc : lgB f y (ks.foldl (fun x y => if lgB f y x = true then y else x) x)
        · rfl
        · rcases h1 with e | h1
          · rw [e, hb] at hc; cases hc
          · exfalso
            have hx : lgB f x (ks.foldl (fun x y => if lgB f y x = true then y else x) x) = true := by
              revert h2 hb hc
              generalize ks.foldl (fun x y => if lgB f y x = true then y else x) x = z
              unfold lgB
              rw [bytesLess_eq, bytesLess_eq, bytesLess_eq]
              intro h2 hb hc
              simp only [Bool.or_eq_true, Bool.or_eq_false_iff, Bool.and_eq_true, Bool.and_eq_false_iff, decide_eq_true_eq, decide_eq_false_iff_not, beq_iff_eq, beq_eq_false_iff_ne] at *
              rcases hc with hc | ⟨hc, hc'⟩
              · exact absurd (show (f x).us < (f z).us by omega) h2.1
              · by_cases e : (f y).us = (f x).us
                · right
                  refine ⟨by omega, ?_⟩
                  have : ¬ y.toList < x.toList := hb.2.resolve_left (fun h => h e)
                  exact List.lt_of_le_of_lt (List.not_lt.1 this) hc'
                · exact absurd (show (f x).us < (f z).us by omega) h2.1
            rw [h2] at hx; cases hx
      · exact h3 y hy
    · rw [if_pos rfl]
      obtain ⟨h1, h2, h3⟩ := lonK_le f ks k
      refine ⟨.inr ?_, ?_, fun y hy => ?_⟩
      · rcases h1 with e | h1
        · rw [e]; exact List.mem_cons_self ..
        · exact List.mem_cons_of_mem _ h1
      · cases hc : lgB f x (ks.foldl (fun x y => if lgB f y x = true then y else x) k)
        · rfl
        · have := lgB_tr hb hc
          rw [h2] at this; cases this
      · rcases List.mem_cons.1 hy with rfl | hy
        · exact h2
        · exact h3 y hy
theorem lonK_ok (f : ByteArray → Hld) {ks : List ByteArray} (h : ks ≠ []) : LonM f ks (lonK f ks) := by
  obtain ⟨k, l, rfl⟩ := List.exists_cons_of_ne_nil h
  obtain ⟨h1, h2, h3⟩ := lonK_le f (k :: l) k
  refine ⟨?_, h3⟩
  rcases h1 with e | h1
  · unfold lonK
    show List.foldl _ k _ ∈ _
    rw [e]; exact List.mem_cons_self ..
  · exact h1
theorem ba_list {a b : ByteArray} (h : a.toList = b.toList) : a = b := by
  rw [ByteArray.toList_eq, ByteArray.toList_eq] at h
  exact ByteArray.ext (Array.ext' h)
theorem LonM.one {f : ByteArray → Hld} {ks : List ByteArray} {x y : ByteArray} (h : LonM f ks x) (g : LonM f ks y) : x = y := by
  have h1 := h.2 y g.1
  have h2 := g.2 x h.1
  unfold lgB at h1 h2
  rw [bytesLess_eq] at h1 h2
  simp only [Bool.or_eq_false_iff, Bool.and_eq_false_iff, decide_eq_false_iff_not, beq_eq_false_iff_ne] at h1 h2
  have e : (f x).us = (f y).us := by omega
  refine ba_list (List.le_antisymm (List.not_lt.1 ?_) (List.not_lt.1 ?_))
  · exact h1.2.resolve_left (fun h => h e.symm)
  · exact h2.2.resolve_left (fun h => h e)
theorem LonM.eq {f : ByteArray → Hld} {ks : List ByteArray} {x : ByteArray} (h : LonM f ks x) : x = lonK f ks := h.one (lonK_ok f (fun e => by rw [e] at h; exact absurd h.1 (by simp)))
theorem addL_in {k : ByteArray} {ks : List ByteArray} (h : onL k ks = true) : addL k ks = ks := if_pos h
theorem addL_out {k : ByteArray} {ks : List ByteArray} (h : ¬ k ∈ ks) : addL k ks = k :: ks := if_neg (fun e => h (onL_iff.1 e))
theorem Day.S_eq {D : Day} {i : Nat} {s : Sto} (h : D.st[i]? = some s) : D.S i = s := by unfold Day.S; rw [List.getD_eq_getElem?_getD, h]; rfl
theorem Day.at_ {D : Day} {i : Nat} (h : i < D.st.length) : D.st[i]? = some (D.S i) := by unfold Day.S; rw [List.getD_eq_getElem?_getD, List.getElem?_eq_getElem h]; rfl
theorem Day.K_eq {D : Day} {j : Nat} {k : Akn} (h : D.ak[j]? = some k) : D.K j = k := by unfold Day.K; rw [List.getD_eq_getElem?_getD, h]; rfl
theorem Day.ak_at {D : Day} {j : Nat} (h : j < D.ak.length) : D.ak[j]? = some (D.K j) := by unfold Day.K; rw [List.getD_eq_getElem?_getD, List.getElem?_eq_getElem h]; rfl
theorem Day.go_at {D : Day} {g : Nat} (h : g < D.go.length) : D.go[g]? = some (D.G g) := by unfold Day.G; rw [List.getD_eq_getElem?_getD, List.getElem?_eq_getElem h]; rfl

/-- A cache is within bounds: n bounds what was counted. -/
structure SFit (n : Nat) (s : Sto) : Prop where
  ar : s.ar.length ≤ n
  ca : 0 ≤ s.ld.ca ∧ s.ld.ca ≤ n
  fr : 0 ≤ s.ld.fr ∧ s.ld.fr ≤ n
  sl : 0 ≤ s.ld.sl ∧ s.ld.sl ≤ n
  wt : 0 ≤ s.ld.wt ∧ s.ld.wt ≤ n
  ak : 0 ≤ s.ld.ak ∧ s.ld.ak ≤ n
  bs : 0 ≤ s.ld.bs ∧ s.ld.bs ≤ n * 1000000000
  de : 1 ≤ s.ch.de ∧ s.ch.de ≤ 100000
  ro : 0 ≤ s.ch.ro ∧ s.ch.ro ≤ 1000000000000
  pa : -1 ≤ s.pa ∧ s.pa ≤ 30
  kl : s.ks.length ≤ n
/-- An answer is within bounds. -/
structure AFit (x : Ans) : Prop where
  bo : 0 ≤ x.bo ∧ x.bo ≤ 10000000000000
  si : 0 ≤ x.si ∧ x.si ≤ 1000000000
theorem AFit.zero : AFit ⟨0, 0, 0, false, ⟨#[]⟩⟩ := ⟨⟨by decide, by decide⟩, ⟨by decide, by decide⟩⟩
structure Fit (n : Nat) (D : Day) : Prop where
  num : DNum D
  qu : D.qu.length ≤ n
  ak : D.ak.length ≤ n
  wa : ∀ j, (D.wa j).length ≤ n
  pu : D.pu ≤ n
  no : 0 ≤ D.no ∧ D.no ≤ 10000000000000
  st : ∀ (i : Nat) (s : Sto), D.st[i]? = some s → SFit n s
  an : ∀ (i : Nat) (s : Sto), D.st[i]? = some s → ∀ k, k ∈ s.ks → AFit (s.hm k).an
  ks : ∀ (i : Nat) (s : Sto), D.st[i]? = some s → s.ks.Nodup ∧ ∀ k, k ∈ s.ks → k.size ≤ 300
  qa : ∀ e, e ∈ D.qu → AFit e.an
  kk : ∀ (j : Nat) (k : Akn), D.ak[j]? = some k → k.ca < D.st.length ∧ k.ke.size ≤ 300
  wg : ∀ j, j < D.ak.length → ∀ x, x ∈ D.wa j → x.ak = none → x.ge < D.go.length
theorem SFit.mono {n m : Nat} {s : Sto} (h : SFit n s) (hm : n ≤ m) : SFit m s := by
  obtain ⟨h1, h2, h3, h4, h5, h6, h7, h8, h9, h10, h11⟩ := h
  constructor <;> omega
theorem Fit.mono {n m : Nat} {D : Day} (h : Fit n D) (hm : n ≤ m) : Fit m D :=
  { h with qu := Nat.le_trans h.qu hm, ak := Nat.le_trans h.ak hm, wa := fun j => Nat.le_trans (h.wa j) hm, pu := Nat.le_trans h.pu hm, st := fun i s hs => (h.st i s hs).mono hm }
/-- One cache is replaced by one with the same row of asks, or one that has grown by what is known, and other held answers. -/
theorem Fit.set {n : Nat} {D : Day} (h : Fit n D) {i : Nat} {s : Sto} (hf : SFit n s) (ha : ∀ k, k ∈ s.ks → AFit (s.hm k).an) (hk : s.ks.Nodup ∧ ∀ k, k ∈ s.ks → k.size ≤ 300) (hn : ∀ j, j ∈ s.ar → j < D.ak.length) : Fit n (D.setS i s) := by
  have hl : (D.st.set i s).length = D.st.length := List.length_set
  exact { h with
    num := ⟨h.num.qu, fun k t ht j hj => by
      rcases set_at ht with ⟨rfl, rfl⟩ | ⟨hne, ht⟩
      · exact hn j hj
      · exact h.num.ar k t ht j hj, h.num.wa⟩
    st := fun k t ht => by
      rcases set_at ht with ⟨rfl, rfl⟩ | ⟨hne, ht⟩
      · exact hf
      · exact h.st k t ht
    an := fun k t ht => by
      rcases set_at ht with ⟨rfl, rfl⟩ | ⟨hne, ht⟩
      · exact ha
      · exact h.an k t ht
    ks := fun k t ht => by
      rcases set_at ht with ⟨rfl, rfl⟩ | ⟨hne, ht⟩
      · exact hk
      · exact h.ks k t ht
    kk := fun j k hk => by
      show k.ca < (D.st.set i s).length ∧ _
      rw [hl]; exact h.kk j k hk }
theorem hpush_mem {α : Type} [Inhabited α] {lt : α → α → Bool} {l : List α} {x y : α} (h : y ∈ hpush lt l x) : y ∈ l ∨ y = x := by
  have hl : ∀ g j (l : List α), j < l.length → y ∈ hup lt g j l → y ∈ l := by
    intro g
    induction g with
    | zero => exact fun _ _ _ h => h
    | succ g ih =>
      intro j l hj hy
      unfold hup at hy
      split at hy
      · exact hy
      · split at hy
        · exact hsw_mem (by omega) hj (ih _ _ (by rw [hsw_len]; omega) hy)
        · exact hy
  have := hl _ _ _ (by simp) h
  simpa using this
theorem hpush_len {α : Type} [Inhabited α] {lt : α → α → Bool} {l : List α} {x : α} : (hpush lt l x).length = l.length + 1 := by
  unfold hpush
  rw [hup_len]
  simp
theorem Fit.take {n : Nat} {D : Day} (h : Fit n D) {i : Nat} {s : Sto} (hs : D.st[i]? = some s) (key : ByteArray) (hk : key ∈ s.ks) : Fit (n + 1) (D.takeD i s key) := by
  have h1 : Fit n (D.setS i (takeS s key D.no)) := h.set (by
      obtain ⟨h1, h2, h3, h4, h5, h6, h7, h8, h9, h10, h11⟩ := h.st i s hs
      exact ⟨h1, h2, h3, h4, h5, h6, h7, h8, h9, h10, h11⟩) (fun k hk2 => by
      show AFit (if k = key then ⟨(s.hm key).an, D.no⟩ else s.hm k : Hld).an
      split
      · exact h.an i s hs key hk
      · exact h.an i s hs k hk2) (h.ks i s hs) (h.num.ar i s hs)
  have h2 := h1.mono (Nat.le_succ n)
  exact { h2 with pu := Nat.succ_le_succ h.pu, num := ⟨h1.num.qu, h1.num.ar, h1.num.wa⟩ }
theorem Fit.ask {n : Nat} {D : Day} (h : Fit n D) {i : Nat} {s : Sto} (hs : D.st[i]? = some s) (key : ByteArray) (kept : Bool) (hk : key.size ≤ 300) : Fit (n + 1) (D.askD i s key kept) := by
  have hl : (D.st.set i (askS s D.ak.length)).length = D.st.length := List.length_set
  have hal : (D.ak ++ [(⟨i, D.no, key, kept⟩ : Akn)]).length = D.ak.length + 1 := by simp
  have hil : i < D.st.length := (List.getElem?_eq_some_iff.1 hs).1
  exact {
    num := {
      qu := fun e he => by
        show _ < (D.ak ++ [(⟨i, D.no, key, kept⟩ : Akn)]).length
        rw [hal]
        rcases hpush_mem he with he | rfl
        · exact Nat.lt_succ_of_lt (h.num.qu e he)
        · exact Nat.lt_succ_self _
      ar := fun k t ht j hj => by
        show _ < (D.ak ++ [(⟨i, D.no, key, kept⟩ : Akn)]).length
        rw [hal]
        rcases set_at ht with ⟨rfl, rfl⟩ | ⟨hne, ht⟩
        · rcases List.mem_append.1 hj with hj | hj
          · exact Nat.lt_succ_of_lt (h.num.ar k s hs j hj)
          · simp only [List.mem_singleton] at hj; omega
        · exact Nat.lt_succ_of_lt (h.num.ar k t ht j hj)
      wa := fun j hj x hx a hxa => by
        show _ < (D.ak ++ [(⟨i, D.no, key, kept⟩ : Akn)]).length
        rw [hal]
        by_cases e : j = D.ak.length
        · subst e
          have hx' : x ∈ upF D.wa D.ak.length [] D.ak.length := hx
          rw [upF_same] at hx'
          cases hx'
        · have hj2 : j < D.ak.length := by
            have : j < (D.ak ++ [(⟨i, D.no, key, kept⟩ : Akn)]).length := hj
            rw [hal] at this; omega
          have hx' : x ∈ upF D.wa D.ak.length [] j := hx
          rw [upF_other _ _ e] at hx'
          exact Nat.lt_succ_of_lt (h.num.wa j hj2 x hx' a hxa) }
    qu := by
      show (hpush _ _ _).length ≤ _
      rw [hpush_len]; exact Nat.succ_le_succ h.qu
    ak := by
      show (D.ak ++ [(⟨i, D.no, key, kept⟩ : Akn)]).length ≤ _
      rw [hal]; exact Nat.succ_le_succ h.ak
    wa := fun j => by
      show (upF D.wa D.ak.length [] j).length ≤ _
      unfold upF
      split
      · simp
      · exact Nat.le_succ_of_le (h.wa j)
    pu := Nat.le_succ_of_le h.pu
    no := h.no
    st := fun k t ht => by
      rcases set_at ht with ⟨rfl, rfl⟩ | ⟨hne, ht⟩
      · obtain ⟨h1, h2, h3, h4, h5, h6, h7, h8, h9, h10, h11⟩ := h.st k s hs
        unfold askS
        refine ⟨by simp; omega, ?_, ?_, ?_, ?_, ?_, ?_, h8, h9, h10, Nat.le_succ_of_le h11⟩ <;> (dsimp only; omega)
      · exact (h.st k t ht).mono (Nat.le_succ n)
    an := fun k t ht => by
      rcases set_at ht with ⟨rfl, rfl⟩ | ⟨hne, ht⟩
      · exact h.an k s hs
      · exact h.an k t ht
    ks := fun k t ht => by
      rcases set_at ht with ⟨rfl, rfl⟩ | ⟨hne, ht⟩
      · exact h.ks k s hs
      · exact h.ks k t ht
    qa := fun e he => by
      rcases hpush_mem he with he | rfl
      · exact h.qa e he
      · exact AFit.zero
    kk := fun j k hk2 => by
      show k.ca < (D.st.set i _).length ∧ _
      rw [hl]
      rcases push_at hk2 with ⟨e, rfl⟩ | ⟨hi, hk2⟩
      · exact ⟨hil, hk⟩
      · exact h.kk j k hk2
    wg := fun j hj x hx hxa => by
      by_cases e : j = D.ak.length
      · subst e
        have hx' : x ∈ upF D.wa D.ak.length [] D.ak.length := hx
        rw [upF_same] at hx'
        cases hx'
      · have hj2 : j < D.ak.length := by
          have : j < (D.ak ++ [(⟨i, D.no, key, kept⟩ : Akn)]).length := hj
          rw [hal] at this; omega
        have hx' : x ∈ upF D.wa D.ak.length [] j := hx
        rw [upF_other _ _ e] at hx'
        exact h.wg j hj2 x hx' hxa }
/-- Who waits is known. -/
def WFit (D : Day) (f : Wtr) : Prop := match f.ak with
  | some j => j < D.ak.length
  | none => f.ge < D.go.length
theorem Fit.give {n : Nat} {D : Day} (h : Fit n D) {f : Wtr} (hf : WFit D f) {x : Ans} (hx : AFit x) : Fit (n + 1) (D.giveD f x) := by
  unfold WFit at hf
  unfold Day.giveD
  cases ha : f.ak with
  | none =>
    have hl : ∀ y, (D.go.set f.ge y).length = D.go.length := fun y => List.length_set
    have h2 := h.mono (Nat.le_succ n)
    exact { h2 with
      num := ⟨h.num.qu, h.num.ar, h.num.wa⟩
      wg := fun j hj y hy hya => by
        show _ < (D.go.set f.ge _).length
        rw [hl]; exact h.wg j hj y hy hya }
  | some j =>
    rw [ha] at hf
    have h2 := h.mono (Nat.le_succ n)
    exact { h2 with
      num := ⟨fun e he => by
        rcases hpush_mem he with he | rfl
        · exact h.num.qu e he
        · exact hf, h.num.ar, h.num.wa⟩
      qu := by
        show (hpush _ _ _).length ≤ _
        rw [hpush_len]; exact Nat.succ_le_succ h.qu
      qa := fun e he => by
        rcases hpush_mem he with he | rfl
        · exact h.qa e he
        · exact hx }
theorem Fit.wait {n : Nat} {D : Day} (h : Fit n D) {j : Nat} {f : Wtr} (hf : WFit D f) : Fit (n + 1) (D.waitD j f) := by
  have h2 := h.mono (Nat.le_succ n)
  have key : ∀ i x, x ∈ upF D.wa j (D.wa j ++ [f]) i → x ∈ D.wa i ∨ x = f := fun i x hx => by
    unfold upF at hx
    split at hx
    · rename_i e
      rw [e]
      simpa using hx
    · exact .inl hx
  exact { h2 with
    num := ⟨h.num.qu, h.num.ar, fun i hi x hx a hxa => by
      rcases key i x hx with hx | rfl
      · exact h.num.wa i hi x hx a hxa
      · unfold WFit at hf; rw [hxa] at hf; exact hf⟩
    wa := fun i => by
      show (upF D.wa j (D.wa j ++ [f]) i).length ≤ _
      unfold upF
      split
      · rw [List.length_append]; exact Nat.succ_le_succ (h.wa j)
      · exact Nat.le_succ_of_le (h.wa i)
    wg := fun i hi x hx hxa => by
      rcases key i x hx with hx | rfl
      · exact h.wg i hi x hx hxa
      · unfold WFit at hf; rw [hxa] at hf; exact hf }
theorem Fit.how {n : Nat} {D : Day} (h : Fit n D) (f : Wtr) (how : Int) : Fit n (D.howD f how) := by
  unfold Day.howD
  cases f.ak with
  | some _ => exact h
  | none =>
    have hl : ∀ y, (D.go.set f.ge y).length = D.go.length := fun y => List.length_set
    exact { h with
      num := ⟨h.num.qu, h.num.ar, h.num.wa⟩
      wg := fun j hj y hy hya => by
        show _ < (D.go.set f.ge _).length
        rw [hl]; exact h.wg j hj y hy hya }
theorem Fit.incs {n : Nat} {D : Day} (h : Fit n D) {i : Nat} {s : Sto} (hs : D.st[i]? = some s) :
    Fit (n + 1) (D.setS i (incCa s)) ∧ Fit (n + 1) (D.setS i (incFr (incCa s))) ∧ Fit (n + 1) (D.setS i (incSl (incCa s))) ∧ Fit (n + 1) (D.setS i (incWt (incCa s))) := by
  obtain ⟨h1, h2, h3, h4, h5, h6, h7, h8, h9, h10, h11⟩ := h.st i s hs
  have h' := h.mono (Nat.le_succ n)
  refine ⟨h'.set ⟨Nat.le_succ_of_le h1, ?_, ?_, ?_, ?_, ?_, ?_, h8, h9, h10, Nat.le_succ_of_le h11⟩ (h.an i s hs) (h.ks i s hs) (h.num.ar i s hs), h'.set ⟨Nat.le_succ_of_le h1, ?_, ?_, ?_, ?_, ?_, ?_, h8, h9, h10, Nat.le_succ_of_le h11⟩ (h.an i s hs) (h.ks i s hs) (h.num.ar i s hs), h'.set ⟨Nat.le_succ_of_le h1, ?_, ?_, ?_, ?_, ?_, ?_, h8, h9, h10, Nat.le_succ_of_le h11⟩ (h.an i s hs) (h.ks i s hs) (h.num.ar i s hs), h'.set ⟨Nat.le_succ_of_le h1, ?_, ?_, ?_, ?_, ?_, ?_, h8, h9, h10, Nat.le_succ_of_le h11⟩ (h.an i s hs) (h.ks i s hs) (h.num.ar i s hs)⟩ <;> (simp only [incCa, incFr, incSl, incWt]; omega)
theorem giveD_st {D : Day} {f : Wtr} {x : Ans} : (D.giveD f x).st = D.st := by
  unfold Day.giveD
  cases f.ak <;> rfl
theorem giveD_no {D : Day} {f : Wtr} {x : Ans} : (D.giveD f x).no = D.no := by
  unfold Day.giveD
  cases f.ak <;> rfl
theorem giveD_ak {D : Day} {f : Wtr} {x : Ans} : (D.giveD f x).ak = D.ak := by
  unfold Day.giveD
  cases f.ak <;> rfl
theorem giveD_wa {D : Day} {f : Wtr} {x : Ans} : (D.giveD f x).wa = D.wa := by
  unfold Day.giveD
  cases f.ak <;> rfl
theorem go_len {D : Day} {f : Wtr} {x : Ans} : (D.giveD f x).go.length = D.go.length := by
  unfold Day.giveD
  cases f.ak with
  | none => exact List.length_set
  | some j => rfl
theorem setS_setS (D : Day) (i : Nat) (a b : Sto) : (D.setS i a).setS i b = D.setS i b := by unfold Day.setS; simp only [List.set_set]
/-- What giving to many leaves. -/
structure SameD (D D' : Day) : Prop where
  st : D'.st = D.st
  ak : D'.ak = D.ak
  wa : D'.wa = D.wa
  no : D'.no = D.no
  go : D'.go.length = D.go.length
theorem gives_same (x : Ans) : ∀ (l : List Wtr) (D : Day), SameD D (l.foldl (fun D f => D.giveD f x) D)
  | [], D => ⟨rfl, rfl, rfl, rfl, rfl⟩
  | f :: l, D => by
    have h := gives_same x l (D.giveD f x)
    exact ⟨h.st.trans giveD_st, h.ak.trans giveD_ak, h.wa.trans giveD_wa, h.no.trans giveD_no, h.go.trans go_len⟩
theorem WFit.of {D D' : Day} {f : Wtr} (h : WFit D f) (h1 : D'.ak.length = D.ak.length) (h2 : D'.go.length = D.go.length) : WFit D' f := by
  unfold WFit at *
  cases hf : f.ak with
  | none => rw [hf] at h; simp only at h ⊢; omega
  | some j => rw [hf] at h; simp only at h ⊢; omega
theorem Fit.gives {x : Ans} (hx : AFit x) : ∀ (l : List Wtr) (n : Nat) (D : Day), Fit n D → (∀ f, f ∈ l → WFit D f) → Fit (n + l.length) (l.foldl (fun D f => D.giveD f x) D)
  | [], _, _, h, _ => h
  | f :: l, n, D, h, hf => by
    have h1 := Fit.gives hx l (n + 1) (D.giveD f x) (h.give (hf f (List.mem_cons_self ..)) hx) (fun g hg => (hf g (List.mem_cons_of_mem _ hg)).of (by rw [giveD_ak]) go_len)
    rw [List.length_cons, show n + (l.length + 1) = n + 1 + l.length by omega]
    exact h1
theorem Fit.waits {n : Nat} {D : Day} (h : Fit n D) {j : Nat} (hj : j < D.ak.length) : ∀ f, f ∈ D.wa j → WFit D f := fun f hf => by
  unfold WFit
  cases ha : f.ak with
  | none => exact h.wg j hj f hf ha
  | some a => exact h.num.wa j hj f hf a ha
theorem Fit.done {n : Nat} {D : Day} (h : Fit n D) {i : Nat} {s : Sto} (hs : D.st[i]? = some s) (j : Nat) {x : Ans} (hx : AFit x) : Fit (n + 1) (D.setS i (doneS s j x.si)) := by
  obtain ⟨h1, h2, h3, h4, h5, h6, h7, h8, h9, h10, h11⟩ := h.st i s hs
  have h' := h.mono (Nat.le_succ n)
  have hl : (s.ar.filter fun o => !decide (o = j)).length ≤ s.ar.length := List.length_filter_le _ _
  have hb := hx.si
  refine h'.set ⟨?_, ?_, ?_, ?_, ?_, ?_, ?_, h8, h9, h10, Nat.le_succ_of_le h11⟩ (h.an i s hs) (h.ks i s hs) (fun o ho => h.num.ar i s hs o (List.mem_filter.1 ho).1) <;> (simp only [doneS]; omega)
end Go.Proofs.YtehbmnkbmgnkfaaGreatDoor

/- origin: the walk. -/
namespace Go.Proofs.YtehbmnkbmgnkfaaGreatDoor
open Go.RowKit

/-- The release lies in a block of its own behind the answer's box. -/
structure OrS (w2 W : World) (b : Nat) (x : Rel) : Prop where
  bel : Below w2.heap.size w2 W
  le : w2.heap.size ≤ b
  box : BkL W b x
set_option maxRecDepth 100000 in
set_option maxHeartbeats 4000000 in
theorem origin_any (w : World) (B : Nat) (A : Adr) (D : Day) (E : List Rel) (key : ByteArray) (h : PD w B A D) (hE : Sl w 4 encL A.d2 E) :
    Calls Tryz.prog 71 #[.pointer (some ⟨A.q, 0, none⟩), .string key] w fun e w' => e = .returned (aggA (oriM E key D.no)) ∧ Below w.heap.size w w' := by
  obtain ⟨w2, hw2⟩ : ∃ w2, w2 = w.alloc (.cells #[.int .i64 0, .int .i64 0, .int .i64 0, .bool false, .string ⟨#[]⟩] 141) := ⟨_, rfl⟩
  have hb2 : Below w.heap.size w w2 := by rw [hw2]; exact (Below.refl _ w).alloc (Nat.le_refl _) _
  have hbx : w2.heap[w.heap.size]? = some (.cells #[.int .i64 0, .int .i64 0, .int .i64 0, .bool false, .string ⟨#[]⟩] 141 (0, 0)) := by rw [hw2]; exact block_new w _
  have hsz : w.heap.size < w2.heap.size := by rw [hw2]; simp
  have hqb := (h.below hb2).qb.2
  have q2 : w2.cell? ⟨A.q, 2, none⟩ = some A.d2 := cellF hqb 2 rfl
  have q8 : w2.cell? ⟨A.q, 8, none⟩ = some (.int .i64 D.no) := cellF hqb 8 rfl
  have hql := World.block_lt_of_cell? w2 _ q8
  have HV := Lib.hid (fun (W : World) (hb : Below w2.heap.size w2 W) => versionAt_any W E A.d2 key D.no ((hE.below hb2 (Nat.le_refl _)).below hb (Nat.le_refl _)))
  have HB2 := Lib.hid hb2
  have HBQ : Hid (Below w2.heap.size w2 w2.drew) := Lib.hid (Below.refl _ w2).drew
  have HBR := Lib.hid ((Below.refl w2.heap.size w2).alloc (Nat.le_refl _) (.cells #[.string ⟨#[]⟩, .int .i64 0, .int .i64 0, .bool false] 43 (0, 0))).drew
  have HW2 := Lib.hid hw2
  have HX : Hid (oriM E key D.no = if (veO E key D.no).isSome = true then ⟨(outL E (veO E key D.no)).ti, D.no, (outL E (veO E key D.no)).si, false, ⟨#[]⟩⟩ else ⟨-1, D.no, 0, true, ⟨#[]⟩⟩) := Lib.hid rfl
  generalize oriM E key D.no = X at HX ⊢
  generalize outL E (veO E key D.no) = Y at HX HV
  generalize (veO E key D.no).isSome = ok at HX HV
  have HBX := Lib.hid hbx
  clear h hqb hE hb2 hw2 hbx
  go_enter Tryz.func71, Tryz.ntmps71
  go_upto_region 1 with (fail)
  rw [← HW2.out]
  go_cut [5, 6] (fun s5 s6 W => ∃ b, s5 = .pointer (some ⟨b, 0, none⟩) ∧ s6 = .bool ok ∧ Aside (OrS w2 W b Y))
  case first =>
    have HSS : Hid (∀ W : World, Below w2.heap.size w2 W → W.cell? ⟨A.q, 2, none⟩ = some A.d2 ∧ W.cell? ⟨A.q, 8, none⟩ = some (.int .i64 D.no)) := Lib.hid fun W hb => ⟨(hb.cell (p := ⟨A.q, 2, none⟩) hql).trans q2, (hb.cell (p := ⟨A.q, 8, none⟩) hql).trans q8⟩
    have HBS : Hid (Below w2.heap.size w2 w2) := Lib.hid (Below.refl _ _)
    have HBT := Lib.hid ((Below.refl w2.heap.size w2).alloc (Nat.le_refl _) (.cells #[.string ⟨#[]⟩, .int .i64 0, .int .i64 0, .bool false] 43 (0, 0)))
    have HRB : Hid (∀ W : World, Below (w2.alloc (.cells #[.string ⟨#[]⟩, .int .i64 0, .int .i64 0, .bool false] 43 (0, 0))).drew.heap.size (w2.alloc (.cells #[.string ⟨#[]⟩, .int .i64 0, .int .i64 0, .bool false] 43 (0, 0))).drew W → BkL W w2.heap.size default) := Lib.hid fun W hb => (hb.block _ (by simp)).trans (block_new w2 _)
    go_region_held3 (fun W => W.cell? ⟨A.q, 2, none⟩ = some A.d2 ∧ W.cell? ⟨A.q, 8, none⟩ = some (.int .i64 D.no))
      (first | exact HSS.out _ HBQ.out | exact HSS.out _ HBR.out | exact HSS.out _ HBS.out | exact HSS.out _ HBT.out | exact HSS.out _ HB3.out | exact HSS.out _ HB4.out | exact HSS.out _ HB5.out | fail)
      (first | (go_at_call 97; (with_reducible refine (HV.out _ HBQ.out).mono ?_); rintro e w3 ⟨rfl, hb3⟩; have HB3 := Lib.hid (HBQ.out.thru hb3); have HB4 := Lib.hid (HB3.out.alloc HB3.out.size (.cells #[.string Y.ke, .int .i64 Y.ti, .int .i64 Y.si, .bool Y.go] 43 (0, 0))); have HB5 := Lib.hid (HB3.out.alloc HB3.out.size (.cells #[.string ⟨#[]⟩, .int .i64 0, .int .i64 0, .bool false] 43 (0, 0))); clear hb3)
             | (go_at_call 97; (with_reducible refine (HV.out _ HBR.out).mono ?_); rintro e w3 ⟨rfl, hb3⟩; have HB3 := Lib.hid (HBR.out.thru hb3); have zb := HRB.out _ hb3; have z0 := zb.frz 0; have z1 := zb.frz 1; have z2 := zb.frz 2; have z3 := zb.frz 3; obtain ⟨y0, y1, y2, y3⟩ := zb.cells; have HZB := Lib.hid zb; have HB4 := Lib.hid (below_set4 HB3.out (Nat.le_refl _) (.string Y.ke) (.int .i64 Y.ti) (.int .i64 Y.si) (.bool Y.go)); have HB5 := HB4; clear hb3 zb)
             | fail)
    all_goals (go_wp2)
    all_goals go_meet
    all_goals first
      | exact ⟨_, rfl, rfl, (show Aside _ from ⟨HB4.out, HB3.out.size, block_new _ _⟩)⟩
      | exact ⟨_, rfl, rfl, (show Aside _ from ⟨HB4.out, Nat.le_refl _, HZB.out.set _ _ _ _⟩)⟩
  obtain ⟨b, rfl, rfl, OS⟩ := hcut
  have HBW := Lib.hid (HB2.out.trans (OS.out.bel.mono HB2.out.size))
  have hbk := (OS.out.bel.block _ hsz).trans HBX.out
  have e0 := cellF hbk 0 rfl
  have e1 := cellF hbk 1 rfl
  have e2 := cellF hbk 2 rfl
  have e3 := cellF hbk 3 rfl
  have e4 := cellF hbk 4 rfl
  have f0 := frozF hbk 0
  have f1 := frozF hbk 1
  have f2 := frozF hbk 2
  have f3 := frozF hbk 3
  have f4 := frozF hbk 4
  have r8 := (OS.out.bel.cell (p := ⟨A.q, 8, none⟩) hql).trans q8
  obtain ⟨y0, y1, y2, y3⟩ := OS.out.box.cells
  clear OS hbk q2 q8 HV HBQ HBR HW2
  cases ok
  case false =>
    have hX : X = ⟨-1, D.no, 0, true, ⟨#[]⟩⟩ := HX.out
    subst hX
    go_upto_region 3 with (fail)
    repeat (first | go_values | go_skip | go_guarded | go_step | go_upon)
    exact bodyPost_ret (v := .agg #[.int .i64 (-1), .int .i64 D.no, .int .i64 0, .bool true, .string ⟨#[]⟩]) (by simp [results, Tryz.results71, go_sem, e0, e1, e2, e3, e4]) rfl ⟨rfl, ((((HBW.out.setCell (Nat.le_refl _) _).setCell (Nat.le_refl _) _).setCell (Nat.le_refl _) _).setCell (Nat.le_refl _) _).setCell (Nat.le_refl _) _⟩
  case true =>
    have hX : X = ⟨Y.ti, D.no, Y.si, false, ⟨#[]⟩⟩ := HX.out
    subst hX
    go_upto_region 4 with (fail)
    go_still_tail 9, (by kernel_rfl)
    change wpList _ _ _ _ _ wc.drew
    repeat (first | go_values | go_skip | go_guarded | go_step | go_upon)
    exact bodyPost_ret (v := .agg #[.int .i64 Y.ti, .int .i64 D.no, .int .i64 Y.si, .bool false, .string ⟨#[]⟩]) (by simp [results, Tryz.results71, go_sem, e0, e1, e2, e3, e4]) rfl ⟨rfl, ((((HBW.out.drew.setCell (Nat.le_refl _) _).setCell (Nat.le_refl _) _).setCell (Nat.le_refl _) _).setCell (Nat.le_refl _) _).setCell (Nat.le_refl _) _⟩
end Go.Proofs.YtehbmnkbmgnkfaaGreatDoor

/- give, ask, take, underWay: their contracts where all is within bounds. -/
namespace Go.Proofs.YtehbmnkbmgnkfaaGreatDoor
open Go.RowKit

/-- The delivery lies below. -/
structure EnvD (w0 : World) (B : Nat) (A : Adr) (C : List Cch) (R : List Crl) (E : List Rel) (P : List Pur) : Prop where
  le : w0.heap.size ≤ B
  c : Sl w0 4 encC A.d0 C
  r : Sl w0 4 encU A.d1 R
  e : Sl w0 4 encL A.d2 E
  p : Sl w0 2 encG A.d3 P
  rb : ∀ x, x ∈ R → (0 ≤ x.li ∧ x.li ≤ 1000000000) ∧ (0 ≤ x.st ∧ x.st ≤ 1000000000) ∧ (0 ≤ x.go ∧ x.go ≤ 1000000000)
  eb : ∀ x, x ∈ E → 0 ≤ x.si ∧ x.si ≤ 1000000000
theorem EnvD.adr {w0 : World} {B n : Nat} {A A' : Adr} {C : List Cch} {R : List Crl} {E : List Rel} {P : List Pur} (h : EnvD w0 B A C R E P) (hA : AdrLe A A' n) : EnvD w0 B A' C R E P :=
  ⟨h.le, by rw [hA.d0]; exact h.c, by rw [hA.d1]; exact h.r, by rw [hA.d2]; exact h.e, by rw [hA.d3]; exact h.p, h.rb, h.eb⟩
theorem outU_ok {R : List Crl} (rb : ∀ x, x ∈ R → (0 ≤ x.li ∧ x.li ≤ 1000000000) ∧ (0 ≤ x.st ∧ x.st ≤ 1000000000) ∧ (0 ≤ x.go ∧ x.go ≤ 1000000000)) (o : Option Nat) : (0 ≤ (outU R o).li ∧ (outU R o).li ≤ 1000000000) ∧ (0 ≤ (outU R o).st ∧ (outU R o).st ≤ 1000000000) ∧ (0 ≤ (outU R o).go ∧ (outU R o).go ≤ 1000000000) := by
  have hd : (0 ≤ (default : Crl).li ∧ (default : Crl).li ≤ 1000000000) ∧ (0 ≤ (default : Crl).st ∧ (default : Crl).st ≤ 1000000000) ∧ (0 ≤ (default : Crl).go ∧ (default : Crl).go ≤ 1000000000) := ⟨⟨by decide, by decide⟩, ⟨by decide, by decide⟩, ⟨by decide, by decide⟩⟩
  cases o with
  | none => exact hd
  | some j =>
    have e : outU R (some j) = R.getD j default := rfl
    rw [e, List.getD_eq_getElem?_getD]
    cases h : R[j]? with
    | none => exact hd
    | some x => exact rb x (List.mem_of_getElem? h)
theorem encW_same {a b : Nat → Nat} {f : Wtr} (h : ∀ j, f.ak = some j → a j = b j) : encW a f = encW b f := by
  unfold encW
  cases hf : f.ak with
  | none => rfl
  | some j => simp only [Option.map_some]; rw [h j hf]
theorem WFit.same {D : Day} {A A' : Adr} {f : Wtr} (h : WFit D f) (hA : AdrLe A A' D.ak.length) : encW A'.ab f = encW A.ab f :=
  encW_same fun j hj => hA.ab j (by unfold WFit at h; rw [hj] at h; exact h)
theorem give_wv (w : World) (B : Nat) (A : Adr) (D : Day) (n : Nat) (f : Wtr) (x : Ans) (h : PD w B A D) (hF : Fit n D) (hn : n ≤ 800000) (hf : WFit D f) :
    Calls Tryz.prog 70 #[.pointer (some ⟨A.q, 0, none⟩), .agg (encW A.ab f).toArray, aggA x] w fun e w' => ∃ A', e = .returned (.tuple #[]) ∧ PD w' B A' (D.giveD f x) ∧ AdrLe A A' D.ak.length ∧ Below B w w' ∧ A'.wv = A.wv := by
  obtain ⟨ge, ak⟩ := f
  cases ak with
  | none =>
    have hg : ge < D.go.length := hf
    have H := giveG_any w B A D ge (D.G ge) x h (Day.go_at hg)
    exact H.mono fun e w' ⟨h1, h2, h3⟩ => ⟨A, h1, h2, AdrLe.refl A _, h3, rfl⟩
  | some j =>
    have hj : j < D.ak.length := hf
    have hc := (hF.kk j _ (Day.ak_at hj)).1
    have hs := Day.at_ hc
    have hb := (hF.st _ _ hs).de
    exact giveA_any w B A D ge j (D.K j).ca (D.S (D.K j).ca) x h hF.num hj rfl hs (Nat.le_trans hF.qu (by omega)) ⟨hF.no.1, Int.le_trans hF.no.2 (by decide)⟩ ⟨by omega, by omega⟩
theorem give_any (w : World) (B : Nat) (A : Adr) (D : Day) (n : Nat) (f : Wtr) (x : Ans) (h : PD w B A D) (hF : Fit n D) (hn : n ≤ 800000) (hf : WFit D f) :
    Calls Tryz.prog 70 #[.pointer (some ⟨A.q, 0, none⟩), .agg (encW A.ab f).toArray, aggA x] w fun e w' => ∃ A', e = .returned (.tuple #[]) ∧ PD w' B A' (D.giveD f x) ∧ AdrLe A A' D.ak.length ∧ Below B w w' :=
  (give_wv w B A D n f x h hF hn hf).mono fun _ _ ⟨A', h1, h2, h3, h4, _⟩ => ⟨A', h1, h2, h3, h4⟩
theorem ask_fit (w : World) (B : Nat) (A : Adr) (D : Day) (n i : Nat) (s : Sto) (key : ByteArray) (kept : Bool) (h : PD w B A D) (hF : Fit n D) (hn : n ≤ 800000) (hs : D.st[i]? = some s) :
    Calls Tryz.prog 91 #[.pointer (some ⟨A.q, 0, none⟩), .int .i64 (i : Nat), .string key, .bool kept] w fun e w' => ∃ A', e = .returned (.pointer (some ⟨A'.ab D.ak.length, 0, none⟩)) ∧ PD w' B A' (D.askD i s key kept) ∧ AdrLe A A' D.ak.length ∧ Below B w w' := by
  have hb := hF.st _ _ hs
  have h1 := hb.de
  have h2 := hb.ak
  have h3 := hb.ar
  exact ask_any w B A D i s key kept h hF.num hs (Nat.le_trans hF.qu (by omega)) (Nat.le_trans hF.ak (by omega)) (by omega) ⟨hF.no.1, Int.le_trans hF.no.2 (by decide)⟩ ⟨by omega, by omega⟩ ⟨h2.1, by omega⟩
theorem take_fit (w : World) (B : Nat) (A : Adr) (D : Day) (n i : Nat) (s : Sto) (key : ByteArray) (h : PD w B A D) (hF : Fit n D) (hn : n ≤ 800000) (hs : D.st[i]? = some s) (hk : onL key s.ks = true) :
    Calls Tryz.prog 93 #[.pointer (some ⟨A.q, 0, none⟩), .pointer (some ⟨A.sb i, 0, none⟩), .string key] w fun e w' => e = .returned (aggA (tookA s key)) ∧ PD w' B A (D.takeD i s key) ∧ Below B w w' := by
  have H := take_any w B A D i s key h hs (onL_iff.1 hk) (by have := hF.pu; unfold maxLen; omega)
  rw [addL_in hk] at H
  exact H
theorem way_fit (w0 w : World) (B : Nat) (A : Adr) (D : Day) (C : List Cch) (R : List Crl) (E : List Rel) (P : List Pur) (n i : Nat) (s : Sto) (key : ByteArray) (h : PD w B A D) (hF : Fit n D) (hs : D.st[i]? = some s) (hE : EnvD w0 B A C R E P) (hw : Below w0.heap.size w0 w) :
    Calls Tryz.prog 94 #[.pointer (some ⟨A.q, 0, none⟩), .pointer (some ⟨A.sb i, 0, none⟩), .string key] w fun e w' => e = .returned (.pointer ((wayO D s.ar key (purM P key D.no)).map fun j => ⟨A.ab j, 0, none⟩)) ∧ Below w.heap.size w w' :=
  way_any w B A D P i s key h hs (hF.num.ar i s hs) (hE.p.below hw (Nat.le_refl _))
end Go.Proofs.YtehbmnkbmgnkfaaGreatDoor

/- The day as the document tells it: asks with what is known of them; plain. -/
import Derived.Test.YtehbmnkbmgnkfaaGreatDoorB16
namespace Go.Proofs.YtehbmnkbmgnkfaaGreatDoor
open Go.RowKit

/-- Who waits, and how he is answered. -/
structure Xw where
  ge : Nat
  ak : Option Nat
  ho : Int
/-- An ask: its cache, key, when it was made, when it arrives; whether it has come, whether there is an answer, when this is back; whether it is done, whether there is no rule; who waits. -/
structure Xk where
  ca : Nat
  ke : ByteArray
  ma : Int
  ar : Int
  cm : Bool
  kn : Bool
  bk : Int
  go : Ans
  dn : Bool
  al : Bool
  ws : List Xw
instance : Inhabited Xk := ⟨⟨0, ⟨#[]⟩, 0, 0, false, false, 0, default, false, false, []⟩⟩
structure Xh where
  ke : ByteArray
  an : Ans
  us : Int
instance : Inhabited Xh := ⟨⟨⟨#[]⟩, default, 0⟩⟩
structure Xd where
  ak : List Xk
  he : List (List Xh)
  go : List Gtn
  ld : List Ldd
  no : Int
  nx : Nat
  pg : Nat
def Xd.K (X : Xd) (j : Nat) : Xk := X.ak.getD j default
def Xd.H (X : Xd) (i : Nat) : List Xh := X.he.getD i []
def Xd.G (X : Xd) (g : Nat) : Gtn := X.go.getD g default
def Xd.Ld (X : Xd) (i : Nat) : Ldd := X.ld.getD i default
def ldCa (l : Ldd) : Ldd := { l with ca := l.ca + 1 }
def ldFr (l : Ldd) : Ldd := { l with fr := l.fr + 1 }
def ldSl (l : Ldd) : Ldd := { l with sl := l.sl + 1 }
def ldWt (l : Ldd) : Ldd := { l with wt := l.wt + 1 }
def ldAk (l : Ldd) : Ldd := { l with ak := l.ak + 1 }
def ldBs (n : Int) (l : Ldd) : Ldd := { l with bs := l.bs + n }
def Xd.setL (X : Xd) (i : Nat) (f : Ldd → Ldd) : Xd := { X with ld := X.ld.set i (f (X.Ld i)) }
def Xd.setH (X : Xd) (i : Nat) (l : List Xh) : Xd := { X with he := X.he.set i l }
def Xd.setA (X : Xd) (j : Nat) (k : Xk) : Xd := { X with ak := X.ak.set j k }
/-- Is a key held? -/
def onH (l : List Xh) (k : ByteArray) : Bool := l.any fun h => decide (h.ke = k)
/-- What is held of a key. -/
def hmOf (l : List Xh) (k : ByteArray) : Hld := match l.find? (fun h => decide (h.ke = k)) with
  | some h => ⟨h.an, h.us⟩
  | none => default
def delH (l : List Xh) (k : ByteArray) : List Xh := l.filter fun h => !decide (h.ke = k)
/-- A key is used. -/
def useH (l : List Xh) (k : ByteArray) (no : Int) : List Xh := l.map fun h => if h.ke = k then { h with us := no } else h
section
variable (C : List Cch) (R : List Crl) (E : List Rel) (P : List Pur) (L : List Gt) (lim : Int)
def deO (i : Nat) : Int := (C.getD i default).de
def Xd.giveX (X : Xd) (w : Xw) (a : Ans) : Xd :=
  match w.ak with
  | none => { X with go := X.go.set w.ge ⟨X.no, a.ve, a.bo, a.fr, w.ho⟩ }
  | some j => X.setA j { X.K j with kn := true, go := a, bk := X.no + deO C (X.K j).ca }
def Xd.startX (X : Xd) (i : Nat) (key : ByteArray) (al : Bool) (ws : List Xw) : Xd :=
  { X.setL i ldAk with ak := X.ak ++ [⟨i, key, X.no, X.no + deO C i, false, false, 0, default, false, al, ws⟩] }
def Xd.joinX (X : Xd) (j : Nat) (w : Xw) : Xd := X.setA j { X.K j with ws := (X.K j).ws ++ [w] }
/-- The ask that is under way. -/
def Xd.wayX (X : Xd) (i : Nat) (key : ByteArray) (last : Int) : Option Nat :=
  (List.range X.ak.length).find? fun j => (decide ((X.K j).ca = i) && !(X.K j).dn) && (((X.K j).ke.toList == key.toList) && (!(X.K j).al && decide (last ≤ (X.K j).ma)))
def rulO (key : ByteArray) : Crl := outU R (ruI R key R.length)
def Xd.comeX (X : Xd) (i : Nat) (key : ByteArray) (ge : Nat) (ak : Option Nat) : Xd :=
  if (ruI R key R.length).isSome = false then (X.setL i ldCa).startX C i key true [⟨ge, ak, 3⟩]
  else if onH (X.H i) key = true ∧ X.no < untM (rulO R key) (hmOf (X.H i) key).an true then
    if X.no < untM (rulO R key) (hmOf (X.H i) key).an false then
      (((X.setL i ldCa).setL i ldFr).setH i (useH (X.H i) key X.no)).giveX C ⟨ge, ak, 1⟩ { (hmOf (X.H i) key).an with fr := (C.getD i default).na }
    else match X.wayX i key (purM P key X.no) with
      | some _ => (((X.setL i ldCa).setL i ldSl).setH i (useH (X.H i) key X.no)).giveX C ⟨ge, ak, 2⟩ { (hmOf (X.H i) key).an with fr := (C.getD i default).na }
      | none => ((((X.setL i ldCa).setL i ldSl).setH i (useH (X.H i) key X.no)).startX C i key false []).giveX C ⟨ge, ak, 2⟩ { (hmOf (X.H i) key).an with fr := (C.getD i default).na }
  else match X.wayX i key (purM P key X.no) with
    | some j => ((X.setL i ldCa).setL i ldWt).joinX j ⟨ge, ak, 4⟩
    | none => (X.setL i ldCa).startX C i key false [⟨ge, ak, 3⟩]
/-- May an answer not be held? -/
def Xd.noKX (X : Xd) (i : Nat) (key : ByteArray) (a : Ans) : Bool :=
  (onH (X.H i) key && decide (a.bo < (hmOf (X.H i) key).an.bo)) || (decide (a.bo < purM P key X.no) || decide (untM (rulO R key) a true ≤ X.no))
/-- What stays when there must be room. -/
def evX (l : List Xh) (ro nd : Int) : List Xh := l.filter fun h => onL h.ke (evK (hmOf l) ro nd l.length (l.map Xh.ke))
def Xd.keepX (X : Xd) (i : Nat) (key : ByteArray) (a : Ans) : Xd :=
  if X.noKX R P i key a = true then X
  else if (C.getD i default).ro < needA a then X.setH i (delH (X.H i) key)
  else X.setH i (evX (delH (X.H i) key) (C.getD i default).ro (needA a) ++ [⟨key, a, X.no⟩])
def Xd.doneX (X : Xd) (j : Nat) : Xd := (X.setA j { X.K j with dn := true }).setL (X.K j).ca (ldBs (X.K j).go.si)
def Xd.givesX (X : Xd) (l : List Xw) (a : Ans) : Xd := l.foldl (fun X w => X.giveX C w a) X
def Xd.backX (X : Xd) (j : Nat) : Xd :=
  if (X.K j).al = false then ((X.doneX j).givesX C (X.K j).ws (X.K j).go).keepX C R P (X.K j).ca (X.K j).ke (X.K j).go
  else (X.doneX j).givesX C (X.K j).ws (X.K j).go
def Xd.cameX (X : Xd) (j : Nat) : Xd := X.setA j { X.K j with cm := true }
def parO (i : Nat) : Int := cNum C (C.getD i default).pa
def Xd.arrX (X : Xd) (j : Nat) : Xd :=
  if 0 ≤ parO C (X.K j).ca then (X.cameX j).comeX C R P (parO C (X.K j).ca).toNat (X.K j).ke 0 (some j)
  else (X.cameX j).giveX C ⟨0, some j, 0⟩ (oriM E (X.K j).ke X.no)
def Xd.purX (X : Xd) (key : ByteArray) : Xd := { X with he := X.he.map fun l => delH l key, pg := X.pg + 1 }
/-- Does ask a go before ask b? -/
def akLt (X : Xd) (a b : Nat) : Bool :=
  if (X.K a).ca ≠ (X.K b).ca then decide ((X.K a).ca < (X.K b).ca)
  else if ((X.K a).ke.toList == (X.K b).ke.toList) = false then Op.bytesLess (X.K a).ke.toList (X.K b).ke.toList
  else decide (a < b)
/-- The first of some. -/
def leastN (lt : Nat → Nat → Bool) : List Nat → Option Nat
  | [] => none
  | a :: l => some (l.foldl (fun x y => if lt y x = true then y else x) a)
def Xd.isBk (X : Xd) (j : Nat) : Bool := (X.K j).kn && (!(X.K j).dn && decide ((X.K j).bk = X.no))
def Xd.isAr (X : Xd) (j : Nat) : Bool := !(X.K j).cm && decide ((X.K j).ar = X.no)
def Xd.nextB (X : Xd) : Option Nat := leastN (akLt X) ((List.range X.ak.length).filter X.isBk)
def Xd.nextA (X : Xd) : Option Nat := leastN (akLt X) ((List.range X.ak.length).filter X.isAr)
/-- All times at which something happens. -/
def Xd.times (X : Xd) : List Int :=
  (if X.nx < L.length then [(L.getD X.nx default).ti] else []) ++ ((if X.pg < P.length then [(P.getD X.pg default).ti] else []) ++
    X.ak.flatMap fun k => (if k.cm = false then [k.ar] else []) ++ (if k.kn = true ∧ k.dn = false then [k.bk] else []))
def minT : List Int → Option Int
  | [] => none
  | a :: l => some (l.foldl (fun x y => if y < x then y else x) a)
/-- One step. -/
def Xd.next (m : Mod) (X : Xd) : Option (Mod × Xd) :=
  match m with
  | .out => match minT (X.times P L) with
    | none => none
    | some t => if lim < t then none else some (.pur, { X with no := t })
  | .pur => if X.pg < P.length ∧ (P.getD X.pg default).ti = X.no then some (.pur, X.purX (P.getD X.pg default).ke) else some (.bak, X)
  | .bak => match X.nextB with
    | some j => some (.bak, X.backX C R P j)
    | none => some (.get, X)
  | .get => if X.nx < L.length ∧ (L.getD X.nx default).ti = X.no then some (.get, ({ X with nx := X.nx + 1 } : Xd).comeX C R P (cNum C (L.getD X.nx default).ca).toNat (L.getD X.nx default).ke X.nx none) else some (.arr, X)
  | .arr => match X.nextA with
    | some j => some (.arr, X.arrX C R E P j)
    | none => some (.out, X)
/-- Behind some steps. -/
inductive XReach : Mod → Xd → Mod → Xd → Prop where
  | refl (m : Mod) (X : Xd) : XReach m X m X
  | step {m m' m'' : Mod} {X X' X'' : Xd} : XReach m X m' X' → X'.next C R E P L lim m' = some (m'', X'') → XReach m X m'' X''
end
theorem leastN_some {lt : Nat → Nat → Bool} {l : List Nat} (h : l ≠ []) : ∃ x, leastN lt l = some x := by
  cases l with
  | nil => exact absurd rfl h
  | cons a l => exact ⟨_, rfl⟩
theorem foldl_least {α : Type} {lt : α → α → Bool} (irr : ∀ a, lt a a = false) (asy : ∀ a b, lt a b = true → lt b a = false) (tr : ∀ a b c, lt b a = false → lt c b = false → lt c a = false) : ∀ (l : List α) (x : α),
    (l.foldl (fun x y => if lt y x = true then y else x) x = x ∨ l.foldl (fun x y => if lt y x = true then y else x) x ∈ l) ∧ lt x (l.foldl (fun x y => if lt y x = true then y else x) x) = false ∧ ∀ y, y ∈ l → lt y (l.foldl (fun x y => if lt y x = true then y else x) x) = false
  | [], x => ⟨.inl rfl, irr x, fun y h => by cases h⟩
  | k :: l, x => by
    simp only [List.foldl_cons]
    cases hb : lt k x
    · rw [if_neg (by simp)]
      obtain ⟨h1, h2, h3⟩ := foldl_least irr asy tr l x
      refine ⟨h1.imp id (List.mem_cons_of_mem _), h2, fun y hy => ?_⟩
      rcases List.mem_cons.1 hy with rfl | hy
      · exact tr _ _ _ h2 hb
      · exact h3 y hy
    · rw [if_pos rfl]
      obtain ⟨h1, h2, h3⟩ := foldl_least irr asy tr l k
      refine ⟨.inr ?_, ?_, fun y hy => ?_⟩
      · rcases h1 with e | h1
        · rw [e]; exact List.mem_cons_self ..
        · exact List.mem_cons_of_mem _ h1
      · exact tr _ _ _ h2 (asy _ _ hb)
      · rcases List.mem_cons.1 hy with rfl | hy
        · exact h2
        · exact h3 y hy
theorem leastN_spec {lt : Nat → Nat → Bool} (irr : ∀ a, lt a a = false) (asy : ∀ a b, lt a b = true → lt b a = false) (tr : ∀ a b c, lt b a = false → lt c b = false → lt c a = false) {l : List Nat} {x : Nat} (h : leastN lt l = some x) : x ∈ l ∧ ∀ y, y ∈ l → lt y x = false := by
  cases l with
  | nil => cases h
  | cons a l =>
    unfold leastN at h
    cases h
    obtain ⟨h1, h2, h3⟩ := foldl_least irr asy tr l a
    refine ⟨?_, fun y hy => ?_⟩
    · rcases h1 with e | h1
      · rw [e]; exact List.mem_cons_self ..
      · exact List.mem_cons_of_mem _ h1
    · rcases List.mem_cons.1 hy with rfl | hy
      · exact h2
      · exact h3 y hy
theorem minT_none {l : List Int} (h : minT l = none) : l = [] := by
  cases l with
  | nil => rfl
  | cons a l => cases h
theorem minT_spec {l : List Int} {t : Int} (h : minT l = some t) : t ∈ l ∧ ∀ y, y ∈ l → t ≤ y := by
  cases l with
  | nil => cases h
  | cons a l =>
    unfold minT at h
    cases h
    have e : l.foldl (fun x y => if y < x then y else x) a = l.foldl (fun x y => if (decide (y < x) : Bool) = true then y else x) a := by simp
    rw [e]
    obtain ⟨h1, h2, h3⟩ := foldl_least (lt := fun x y : Int => decide (x < y)) (fun a => by simp) (fun a b h => by simp at *; omega) (fun a b c h g => by simp at *; omega) l a
    refine ⟨?_, fun y hy => ?_⟩
    · rcases h1 with e | h1
      · rw [e]; exact List.mem_cons_self ..
      · exact List.mem_cons_of_mem _ h1
    · rcases List.mem_cons.1 hy with rfl | hy
      · simpa using h2
      · simpa using h3 y hy
/-- The order of asks is the order of their events. -/
theorem akLt_bfr {X : Xd} {K : Nat → Akn} (h : ∀ j, (K j).ca = (X.K j).ca ∧ (K j).ke = (X.K j).ke) {e o : Evn} (ht : e.ti = o.ti) (hb : e.bk = o.bk) : bfr K e o = akLt X e.ak o.ak := by
  unfold bfr akLt
  rw [if_neg (by simp [ht]), if_neg (by simp [hb]), (h e.ak).1, (h o.ak).1, (h e.ak).2, (h o.ak).2]
def akK (X : Xd) (j : Nat) : Akn := ⟨(X.K j).ca, (X.K j).ma, (X.K j).ke, !(X.K j).al⟩
theorem akLt_ord (X : Xd) : (∀ a, akLt X a a = false) ∧ (∀ a b, akLt X a b = true → akLt X b a = false) ∧ (∀ a b c, akLt X b a = false → akLt X c b = false → akLt X c a = false) ∧ ∀ a b, akLt X a b = false → akLt X b a = false → a = b := by
  have o := bfr_ord (akK X)
  have hK : ∀ j, (akK X j).ca = (X.K j).ca ∧ (akK X j).ke = (X.K j).ke := fun j => ⟨rfl, rfl⟩
  have e : ∀ a b, akLt X a b = bfr (akK X) ⟨0, false, a, default⟩ ⟨0, false, b, default⟩ := fun a b => (akLt_bfr (e := ⟨0, false, a, default⟩) (o := ⟨0, false, b, default⟩) hK rfl rfl).symm
  refine ⟨fun a => ?_, fun a b h => ?_, fun a b c h g => ?_, fun a b h g => ?_⟩
  · rw [e]
    cases hb : bfr (akK X) ⟨0, false, a, default⟩ ⟨0, false, a, default⟩
    · rfl
    · exact (o.asy _ _ hb).symm.trans hb ▸ rfl
  · rw [e] at h ⊢; exact o.asy _ _ h
  · rw [e] at h g ⊢; exact o.tr _ _ _ h g
  · rw [e] at h g; exact (bfr_tot h g).2.2
end Go.Proofs.YtehbmnkbmgnkfaaGreatDoor

/- The day as the document tells it: what holds while all happens. -/
namespace Go.Proofs.YtehbmnkbmgnkfaaGreatDoor
open Go.RowKit

/-- An answer is a right one. -/
structure AnsOk (x : Ans) : Prop where
  ve : x.no = true ↔ x.ve < 0
  s0 : x.no = true → x.si = 0
  s1 : x.no = false → 1 ≤ x.si ∧ x.si ≤ 1000000000
  bo : 0 ≤ x.bo ∧ x.bo ≤ 10000000000000
theorem AnsOk.fit {x : Ans} (h : AnsOk x) : AFit x := ⟨h.bo, by
  cases hn : x.no
  · have := h.s1 hn; omega
  · have := h.s0 hn; omega⟩
theorem AnsOk.from {x : Ans} (h : AnsOk x) (f : ByteArray) : AnsOk { x with fr := f } := ⟨h.ve, h.s0, h.s1, h.bo⟩
/-- A delivery and gets are right. -/
structure Val (C : List Cch) (R : List Crl) (E : List Rel) (P : List Pur) (L : List Gt) : Prop where
  c : C.length ≤ 30
  cd : ∀ (i : Nat) (x : Cch), C[i]? = some x → (1 ≤ x.de ∧ x.de ≤ 100000) ∧ (0 ≤ x.ro ∧ x.ro ≤ 1000000000000)
  cp : ∀ (i : Nat) (x : Cch), C[i]? = some x → cNum C x.pa < (i : Int) ∧ -1 ≤ cNum C x.pa
  rb : ∀ x, x ∈ R → (0 ≤ x.li ∧ x.li ≤ 1000000000) ∧ (0 ≤ x.st ∧ x.st ≤ 1000000000) ∧ (0 ≤ x.go ∧ x.go ≤ 1000000000)
  e : ∀ x, x ∈ E → (x.go = true → x.si = 0) ∧ (x.go = false → 1 ≤ x.si ∧ x.si ≤ 1000000000) ∧ 0 ≤ x.ti
  p : P.length ≤ 200
  ps : ∀ (i j : Nat) (x y : Pur), i ≤ j → P[i]? = some x → P[j]? = some y → x.ti ≤ y.ti
  pt : ∀ x, x ∈ P → (0 ≤ x.ti ∧ x.ti ≤ 1000000000000) ∧ x.ke.size ≤ 300
  l : L.length ≤ 1000
  ls : ∀ (i j : Nat) (x y : Gt), i ≤ j → L[i]? = some x → L[j]? = some y → x.ti ≤ y.ti
  lt : ∀ x, x ∈ L → (0 ≤ x.ti ∧ x.ti ≤ 1000000000000) ∧ x.ke.size ≤ 300 ∧ ∃ i : Nat, cNum C x.ca = (i : Int) ∧ i < C.length
def Dif (a b : Xw) : Prop := a.ak ≠ b.ak ∨ (a.ak = none ∧ a.ge ≠ b.ge)
theorem Dif.symm {a b : Xw} (h : Dif a b) : Dif b a := by
  unfold Dif at *
  by_cases e : a.ak = b.ak
  · rcases h with h | h
    · exact absurd e h
    · exact .inr ⟨by rw [← e]; exact h.1, Ne.symm h.2⟩
  · exact .inl (Ne.symm e)
def wsOf (k : Xk) : List Xw := if k.dn = true then [] else k.ws
/-- All who wait. -/
def waitsX (X : Xd) : List Xw := X.ak.flatMap wsOf
theorem fm_set_perm {α β : Type} (f : α → List β) : ∀ (l : List α) (j : Nat) (k k' : α), l[j]? = some k → (f k ++ (l.set j k').flatMap f).Perm (f k' ++ l.flatMap f)
  | [], _, _, _, h => by cases h
  | a :: l, 0, k, k', h => by
    have e : a = k := by simpa using h
    subst e
    rw [List.set_cons_zero, List.flatMap_cons, List.flatMap_cons]
    exact List.perm_append_comm_assoc _ _ _
  | a :: l, j + 1, k, k', h => by
    have h' : l[j]? = some k := by simpa using h
    rw [List.set_cons_succ, List.flatMap_cons, List.flatMap_cons]
    have ih := fm_set_perm f l j k k' h'
    exact ((List.perm_append_comm_assoc _ _ _).trans ((List.Perm.append_left (f a) ih))).trans (List.perm_append_comm_assoc _ _ _)
section
variable {C : List Cch} {P : List Pur} {L : List Gt} {X : Xd} {pd : List Xw}
theorem Xd.K_eq {j : Nat} {k : Xk} (h : X.ak[j]? = some k) : X.K j = k := by unfold Xd.K; rw [List.getD_eq_getElem?_getD, h]; rfl
theorem Xd.at_ {j : Nat} (h : j < X.ak.length) : X.ak[j]? = some (X.K j) := by unfold Xd.K; rw [List.getD_eq_getElem?_getD, List.getElem?_eq_getElem h]; rfl
theorem Xd.H_eq {i : Nat} {l : List Xh} (h : X.he[i]? = some l) : X.H i = l := by unfold Xd.H; rw [List.getD_eq_getElem?_getD, h]; rfl
theorem Xd.H_at {i : Nat} (h : i < X.he.length) : X.he[i]? = some (X.H i) := by unfold Xd.H; rw [List.getD_eq_getElem?_getD, List.getElem?_eq_getElem h]; rfl
theorem Xd.setA_K {j a : Nat} {k : Xk} (h : j < X.ak.length) : (X.setA j k).K a = if a = j then k else X.K a := by
  unfold Xd.K Xd.setA
  rw [List.getD_eq_getElem?_getD, List.getD_eq_getElem?_getD]
  by_cases e : a = j
  · subst e
    rw [List.getElem?_set_self h, if_pos rfl]
    rfl
  · rw [List.getElem?_set_ne (Ne.symm e), if_neg e]
theorem waits_set {j : Nat} {k k' : Xk} (h : X.ak[j]? = some k) : (wsOf k ++ waitsX (X.setA j k')).Perm (wsOf k' ++ waitsX X) := fm_set_perm wsOf X.ak j k k' h
theorem waits_same {j : Nat} {k k' : Xk} (h : X.ak[j]? = some k) (e : wsOf k' = wsOf k) : (waitsX (X.setA j k')).Perm (waitsX X) := by
  have h1 := waits_set (k' := k') h
  rw [e] at h1
  exact (List.perm_append_left_iff _).1 h1
/-- What holds while all happens; pd: who waits beside the asks. -/
structure XInv (C : List Cch) (P : List Pur) (L : List Gt) (pd : List Xw) (X : Xd) : Prop where
  le : X.he.length = C.length ∧ X.ld.length = C.length ∧ X.go.length = L.length ∧ X.nx ≤ L.length ∧ X.pg ≤ P.length
  kk : ∀ (j : Nat) (k : Xk), X.ak[j]? = some k → k.ca < C.length ∧ k.ke.size ≤ 300 ∧ (k.kn = true → k.cm = true) ∧ (k.dn = true → k.kn = true)
  tm : ∀ (j : Nat) (k : Xk), X.ak[j]? = some k → (0 ≤ k.ma ∧ k.ma ≤ X.no) ∧ (k.cm = false → X.no ≤ k.ar ∧ k.ar ≤ 1000000000000 + 100000 * (30 - (k.ca : Int))) ∧ (k.kn = true → k.dn = false → X.no ≤ k.bk ∧ k.bk ≤ 1000000000000 + 100000 * (31 + (k.ca : Int)))
  an : ∀ (j : Nat) (k : Xk), X.ak[j]? = some k → k.kn = true → AnsOk k.go
  wu : (pd ++ waitsX X).Pairwise Dif
  wg : ∀ w, w ∈ pd ++ waitsX X → w.ak = none → w.ge < X.nx
  wk : ∀ w, w ∈ pd ++ waitsX X → ∀ a, w.ak = some a → a < X.ak.length ∧ (X.K a).cm = true ∧ (X.K a).kn = false
  wp : ∀ (j : Nat) (k : Xk), X.ak[j]? = some k → k.dn = false → ∀ w, w ∈ k.ws → ∀ a, w.ak = some a → k.ca < (X.K a).ca
  lv : ∀ (a : Nat) (k : Xk), X.ak[a]? = some k → k.cm = true → k.kn = false → ∃ w, w ∈ pd ++ waitsX X ∧ w.ak = some a
  he : ∀ (i : Nat) (l : List Xh), X.he[i]? = some l → (l.map Xh.ke).Nodup ∧ ∀ h, h ∈ l → h.ke.size ≤ 300 ∧ AnsOk h.an
  no : 0 ≤ X.no ∧ X.no ≤ 1000006100000
  gn : ∀ x, L[X.nx]? = some x → X.no ≤ x.ti
  pn : ∀ x, P[X.pg]? = some x → X.no ≤ x.ti
theorem XInv.perm {pd' : List Xw} (h : XInv C P L pd X) (hp : pd'.Perm pd) : XInv C P L pd' X :=
  { h with
    wu := (List.Perm.pairwise_iff (fun h => Dif.symm h) (hp.append_right _)).2 h.wu
    wg := fun w hw => h.wg w ((hp.append_right _).subset hw)
    wk := fun w hw => h.wk w ((hp.append_right _).subset hw)
    lv := fun a k h1 h2 h3 => by
      obtain ⟨w, hw, e⟩ := h.lv a k h1 h2 h3
      exact ⟨w, (hp.append_right _).symm.subset hw, e⟩ }
theorem XInv.ld (h : XInv C P L pd X) (i : Nat) (f : Ldd → Ldd) : XInv C P L pd (X.setL i f) :=
  { le := ⟨h.le.1, by show (X.ld.set i _).length = _; rw [List.length_set]; exact h.le.2.1, h.le.2.2⟩, kk := h.kk, tm := h.tm, an := h.an, wu := h.wu, wg := h.wg, wk := h.wk, wp := h.wp, lv := h.lv, he := h.he, no := h.no, gn := h.gn, pn := h.pn }
theorem XInv.heS (h : XInv C P L pd X) (i : Nat) (l : List Xh) (hl : (l.map Xh.ke).Nodup ∧ ∀ h, h ∈ l → h.ke.size ≤ 300 ∧ AnsOk h.an) : XInv C P L pd (X.setH i l) :=
  { le := ⟨by show (X.he.set i _).length = _; rw [List.length_set]; exact h.le.1, h.le.2⟩, kk := h.kk, tm := h.tm, an := h.an, wu := h.wu, wg := h.wg, wk := h.wk, wp := h.wp, lv := h.lv, no := h.no, gn := h.gn, pn := h.pn,
    he := fun j m hm => by
      rcases set_at hm with ⟨_, rfl⟩ | ⟨_, hm⟩
      · exact hl
      · exact h.he j m hm }
theorem setA_at {X : Xd} {j b : Nat} {k' k2 : Xk} (h : (X.setA j k').ak[b]? = some k2) : (b = j ∧ k2 = k') ∨ (b ≠ j ∧ X.ak[b]? = some k2) := set_at h
theorem setA_len {X : Xd} {j : Nat} {k' : Xk} : (X.setA j k').ak.length = X.ak.length := List.length_set
theorem setA_ca {X : Xd} {j a : Nat} {k' : Xk} (h : j < X.ak.length) (e : k'.ca = (X.K j).ca) : ((X.setA j k').K a).ca = (X.K a).ca := by
  rw [Xd.setA_K h]
  split
  · rename_i h2; rw [e, h2]
  · rfl
theorem XInv.give {w : Xw} {a : Ans} (h : XInv C P L (w :: pd) X) (hV : ∀ (i : Nat) (x : Cch), C[i]? = some x → 1 ≤ x.de ∧ x.de ≤ 100000) (ha : AnsOk a) (hno : ∀ j, w.ak = some j → X.no ≤ 1000000000000 + 100000 * (30 + ((X.K j).ca : Int))) : XInv C P L pd (X.giveX C w a) := by
  unfold Xd.giveX
  have hsub : ∀ {v}, v ∈ pd ++ waitsX X → v ∈ (w :: pd) ++ waitsX X := fun hv => List.mem_cons_of_mem _ hv
  have hwu : (pd ++ waitsX X).Pairwise Dif := (List.pairwise_cons.1 h.wu).2
  cases hw : w.ak with
  | none =>
    exact { le := ⟨h.le.1, h.le.2.1, by show (X.go.set _ _).length = _; rw [List.length_set]; exact h.le.2.2.1, h.le.2.2.2⟩, kk := h.kk, tm := h.tm, an := h.an, wu := hwu, wg := fun v hv => h.wg v (hsub hv), wk := fun v hv => h.wk v (hsub hv), wp := h.wp, he := h.he, no := h.no, gn := h.gn, pn := h.pn
            lv := fun b k h1 h2 h3 => by
              obtain ⟨v, hv, e⟩ := h.lv b k h1 h2 h3
              rcases List.mem_cons.1 hv with rfl | hv
              · rw [hw] at e; cases e
              · exact ⟨v, hv, e⟩ }
  | some j =>
    obtain ⟨hj, hcm, hkn⟩ := h.wk w (List.mem_cons_self ..) j hw
    have hk := Xd.at_ hj
    have hkk := h.kk j _ hk
    have hde : 1 ≤ deO C (X.K j).ca ∧ deO C (X.K j).ca ≤ 100000 := by
      have := hV (X.K j).ca (C.getD (X.K j).ca default) (by rw [List.getD_eq_getElem?_getD, List.getElem?_eq_getElem hkk.1]; rfl)
      exact this
    have hn := hno j hw
    have hpm := waits_same (k' := { X.K j with kn := true, go := a, bk := X.no + deO C (X.K j).ca }) hk rfl
    have hne : ∀ v, v ∈ pd ++ waitsX X → ∀ b, v.ak = some b → b ≠ j := fun v hv b hb e => by
      have hd := (List.pairwise_cons.1 h.wu).1 v hv
      unfold Dif at hd
      rw [hw, hb, e] at hd
      rcases hd with hd | hd
      · exact hd rfl
      · cases hd.1
    show XInv C P L pd (X.setA j { X.K j with kn := true, go := a, bk := X.no + deO C (X.K j).ca })
    exact {
      le := h.le
      kk := fun b k hb => by
        rcases setA_at hb with ⟨rfl, rfl⟩ | ⟨_, hb⟩
        · exact ⟨hkk.1, hkk.2.1, fun _ => hcm, fun _ => rfl⟩
        · exact h.kk b k hb
      tm := fun b k hb => by
        rcases setA_at hb with ⟨rfl, rfl⟩ | ⟨_, hb⟩
        · exact ⟨(h.tm b _ hk).1, (h.tm b _ hk).2.1, fun _ _ => ⟨by show X.no ≤ X.no + deO C (X.K b).ca; omega, by show X.no + deO C (X.K b).ca ≤ 1000000000000 + 100000 * (31 + ((X.K b).ca : Int)); omega⟩⟩
        · exact h.tm b k hb
      an := fun b k hb hkn => by
        rcases setA_at hb with ⟨rfl, rfl⟩ | ⟨_, hb⟩
        · exact ha
        · exact h.an b k hb hkn
      wu := (List.Perm.pairwise_iff (fun h => Dif.symm h) (hpm.append_left pd)).2 hwu
      wg := fun v hv => h.wg v (hsub ((hpm.append_left pd).subset hv))
      wk := fun v hv b hb => by
        have hv' := (hpm.append_left pd).subset hv
        obtain ⟨g1, g2, g3⟩ := h.wk v (hsub hv') b hb
        rw [setA_len, Xd.setA_K hj, if_neg (hne v hv' b hb)]
        exact ⟨g1, g2, g3⟩
      wp := fun b k hb hd v hv c hc => by
        rw [setA_ca (k' := { X.K j with kn := true, go := a, bk := X.no + deO C (X.K j).ca }) hj rfl]
        rcases setA_at hb with ⟨rfl, rfl⟩ | ⟨_, hb⟩
        · exact h.wp b _ hk hd v hv c hc
        · exact h.wp b k hb hd v hv c hc
      lv := fun b k hb h2 h3 => by
        rcases setA_at hb with ⟨rfl, rfl⟩ | ⟨hne2, hb⟩
        · cases h3
        · obtain ⟨v, hv, e⟩ := h.lv b k hb h2 h3
          rcases List.mem_cons.1 hv with rfl | hv
          · rw [hw] at e; cases e; exact absurd rfl hne2
          · exact ⟨v, (hpm.append_left pd).symm.subset hv, e⟩
      he := h.he
      no := h.no
      gn := h.gn
      pn := h.pn }
theorem XInv.start {i : Nat} {key : ByteArray} {al : Bool} {ws : List Xw} (h : XInv C P L (ws ++ pd) X) (hi : i < C.length) (hV : ∀ (i : Nat) (x : Cch), C[i]? = some x → 1 ≤ x.de ∧ x.de ≤ 100000) (hk : key.size ≤ 300) (hno : X.no ≤ 1000000000000 + 100000 * (29 - (i : Int))) (hw : ∀ w, w ∈ ws → ∀ a, w.ak = some a → i < (X.K a).ca) : XInv C P L pd (X.startX C i key al ws) := by
  have h0 := h.ld i ldAk
  have hde : 1 ≤ deO C i ∧ deO C i ≤ 100000 := hV i (C.getD i default) (by rw [List.getD_eq_getElem?_getD, List.getElem?_eq_getElem hi]; rfl)
  have hpm : (pd ++ waitsX (X.startX C i key al ws)).Perm ((ws ++ pd) ++ waitsX X) := by
    have e : waitsX (X.startX C i key al ws) = waitsX X ++ ws := by
      show (X.ak ++ [_]).flatMap wsOf = _
      rw [List.flatMap_append]
      simp [waitsX, wsOf]
    rw [e]
    refine (List.perm_append_comm_assoc pd (waitsX X) ws).trans ?_
    refine List.perm_append_comm.trans ?_
    exact (List.Perm.append_right _ List.perm_append_comm)
  have hK : ∀ b, b < X.ak.length → (X.startX C i key al ws).K b = X.K b := fun b hb => by
    show (X.ak ++ [_]).getD b default = _
    rw [List.getD_eq_getElem?_getD, List.getElem?_append_left hb, ← List.getD_eq_getElem?_getD]
    rfl
  have hcl : (X.startX C i key al ws).ak.length = X.ak.length + 1 := by show (X.ak ++ [_]).length = _; simp
  exact {
    le := h0.le
    kk := fun b k hb => by
      rcases push_at hb with ⟨_, rfl⟩ | ⟨_, hb⟩
      · exact ⟨hi, hk, fun e => (by cases e), fun e => (by cases e)⟩
      · exact h.kk b k hb
    tm := fun b k hb => by
      rcases push_at hb with ⟨_, rfl⟩ | ⟨_, hb⟩
      · exact ⟨⟨h.no.1, Int.le_refl _⟩, fun _ => ⟨by show X.no ≤ X.no + deO C i; omega, by show X.no + deO C i ≤ 1000000000000 + 100000 * (30 - (i : Int)); omega⟩, fun e => (by cases e)⟩
      · exact h.tm b k hb
    an := fun b k hb hkn => by
      rcases push_at hb with ⟨_, rfl⟩ | ⟨_, hb⟩
      · cases hkn
      · exact h.an b k hb hkn
    wu := (List.Perm.pairwise_iff (fun h => Dif.symm h) hpm).2 h.wu
    wg := fun v hv => h.wg v (hpm.subset hv)
    wk := fun v hv b hb => by
      obtain ⟨g1, g2, g3⟩ := h.wk v (hpm.subset hv) b hb
      rw [hcl, hK b g1]
      exact ⟨Nat.lt_succ_of_lt g1, g2, g3⟩
    wp := fun b k hb hd v hv c hc => by
      have hcn : c < X.ak.length := by
        rcases push_at hb with ⟨_, rfl⟩ | ⟨_, hb2⟩
        · exact (h.wk v (List.mem_append_left _ (List.mem_append_left _ hv)) c hc).1
        · refine (h.wk v (List.mem_append_right _ ?_) c hc).1
          exact List.mem_flatMap.2 ⟨k, List.mem_of_getElem? hb2, by unfold wsOf; rw [if_neg (by simp [hd])]; exact hv⟩
      rw [hK c hcn]
      rcases push_at hb with ⟨_, rfl⟩ | ⟨_, hb⟩
      · exact hw v hv c hc
      · exact h.wp b k hb hd v hv c hc
    lv := fun b k hb h2 h3 => by
      rcases push_at hb with ⟨_, rfl⟩ | ⟨_, hb⟩
      · cases h2
      · obtain ⟨v, hv, e⟩ := h.lv b k hb h2 h3
        exact ⟨v, hpm.symm.subset hv, e⟩
    he := h.he
    no := h.no
    gn := h.gn
    pn := h.pn }
theorem XInv.join {j : Nat} {w : Xw} (h : XInv C P L (w :: pd) X) (hj : j < X.ak.length) (hd : (X.K j).dn = false) (hw : ∀ a, w.ak = some a → (X.K j).ca < (X.K a).ca) : XInv C P L pd (X.joinX j w) := by
  have hk := Xd.at_ hj
  have hpm : (pd ++ waitsX (X.joinX j w)).Perm ((w :: pd) ++ waitsX X) := by
    have h1 := waits_set (k' := { X.K j with ws := (X.K j).ws ++ [w] }) hk
    have e1 : wsOf (X.K j) = (X.K j).ws := if_neg (by simp [hd])
    have e2 : wsOf { X.K j with ws := (X.K j).ws ++ [w] } = (X.K j).ws ++ [w] := if_neg (by simp [hd])
    rw [e1, e2, List.append_assoc] at h1
    have h2 := (List.perm_append_left_iff _).1 h1
    exact (List.Perm.append_left pd h2).trans List.perm_middle
  have hsub : ∀ {v}, v ∈ pd ++ waitsX (X.joinX j w) → v ∈ (w :: pd) ++ waitsX X := fun hv => hpm.subset hv
  show XInv C P L pd (X.setA j { X.K j with ws := (X.K j).ws ++ [w] })
  exact {
    le := h.le
    kk := fun b k hb => by
      rcases setA_at hb with ⟨rfl, rfl⟩ | ⟨_, hb⟩
      · have g := h.kk b _ hk; exact g
      · exact h.kk b k hb
    tm := fun b k hb => by
      rcases setA_at hb with ⟨rfl, rfl⟩ | ⟨_, hb⟩
      · have g := h.tm b _ hk; exact g
      · exact h.tm b k hb
    an := fun b k hb hkn => by
      rcases setA_at hb with ⟨rfl, rfl⟩ | ⟨_, hb⟩
      · have g := h.an b _ hk hkn; exact g
      · exact h.an b k hb hkn
    wu := (List.Perm.pairwise_iff (fun h => Dif.symm h) hpm).2 h.wu
    wg := fun v hv => h.wg v (hsub hv)
    wk := fun v hv b hb => by
      obtain ⟨g1, g2, g3⟩ := h.wk v (hsub hv) b hb
      rw [setA_len, Xd.setA_K hj]
      refine ⟨g1, ?_, ?_⟩ <;> split <;> (try (rename_i e; rw [e] at g2 g3)) <;> assumption
    wp := fun b k hb hdn v hv c hc => by
      rw [setA_ca (k' := { X.K j with ws := (X.K j).ws ++ [w] }) hj rfl]
      rcases setA_at hb with ⟨rfl, rfl⟩ | ⟨_, hb⟩
      · rcases List.mem_append.1 hv with hv | hv
        · exact h.wp b _ hk hd v hv c hc
        · simp only [List.mem_singleton] at hv
          subst hv
          exact hw c hc
      · exact h.wp b k hb hdn v hv c hc
    lv := fun b k hb h2 h3 => by
      have : ∃ v, v ∈ (w :: pd) ++ waitsX X ∧ v.ak = some b := by
        rcases setA_at hb with ⟨rfl, rfl⟩ | ⟨_, hb⟩
        · exact h.lv b _ hk h2 h3
        · exact h.lv b k hb h2 h3
      obtain ⟨v, hv, e⟩ := this
      exact ⟨v, hpm.symm.subset hv, e⟩
    he := h.he
    no := h.no
    gn := h.gn
    pn := h.pn }
theorem XInv.done {j : Nat} (h : XInv C P L pd X) (hj : j < X.ak.length) (hkn : (X.K j).kn = true) (hd : (X.K j).dn = false) : XInv C P L ((X.K j).ws ++ pd) (X.doneX j) := by
  have hk := Xd.at_ hj
  have hpm : (((X.K j).ws ++ pd) ++ waitsX (X.setA j { X.K j with dn := true })).Perm (pd ++ waitsX X) := by
    have h1 := waits_set (k' := { X.K j with dn := true }) hk
    have e1 : wsOf (X.K j) = (X.K j).ws := if_neg (by simp [hd])
    have e2 : wsOf { X.K j with dn := true } = [] := if_pos rfl
    rw [e1, e2, List.nil_append] at h1
    refine (List.Perm.append_right _ List.perm_append_comm).trans ?_
    rw [List.append_assoc]
    exact List.Perm.append_left pd h1
  refine XInv.ld ?_ _ _
  exact {
    le := h.le
    kk := fun b k hb => by
      rcases setA_at hb with ⟨rfl, rfl⟩ | ⟨_, hb⟩
      · obtain ⟨g1, g2, g3, g4⟩ := h.kk b _ hk
        exact ⟨g1, g2, g3, fun _ => hkn⟩
      · exact h.kk b k hb
    tm := fun b k hb => by
      rcases setA_at hb with ⟨rfl, rfl⟩ | ⟨_, hb⟩
      · obtain ⟨g1, g2, g3⟩ := h.tm b _ hk
        exact ⟨g1, g2, fun _ e => (by cases e)⟩
      · exact h.tm b k hb
    an := fun b k hb hkn => by
      rcases setA_at hb with ⟨rfl, rfl⟩ | ⟨_, hb⟩
      · have g := h.an b _ hk hkn; exact g
      · exact h.an b k hb hkn
    wu := (List.Perm.pairwise_iff (fun h => Dif.symm h) hpm).2 h.wu
    wg := fun v hv => h.wg v (hpm.subset hv)
    wk := fun v hv b hb => by
      obtain ⟨g1, g2, g3⟩ := h.wk v (hpm.subset hv) b hb
      rw [setA_len, Xd.setA_K hj]
      refine ⟨g1, ?_, ?_⟩ <;> split <;> (try (rename_i e; rw [e] at g2 g3)) <;> assumption
    wp := fun b k hb hdn v hv c hc => by
      rw [setA_ca (k' := { X.K j with dn := true }) hj rfl]
      rcases setA_at hb with ⟨rfl, rfl⟩ | ⟨_, hb⟩
      · cases hdn
      · exact h.wp b k hb hdn v hv c hc
    lv := fun b k hb h2 h3 => by
      have : ∃ v, v ∈ pd ++ waitsX X ∧ v.ak = some b := by
        rcases setA_at hb with ⟨rfl, rfl⟩ | ⟨_, hb⟩
        · exact h.lv b _ hk h2 h3
        · exact h.lv b k hb h2 h3
      obtain ⟨v, hv, e⟩ := this
      exact ⟨v, hpm.symm.subset hv, e⟩
    he := h.he
    no := h.no
    gn := h.gn
    pn := h.pn }
theorem XInv.came {j : Nat} (h : XInv C P L pd X) (hj : j < X.ak.length) (hcm : (X.K j).cm = false) (ho : Int) : XInv C P L (⟨0, some j, ho⟩ :: pd) (X.cameX j) := by
  have hk := Xd.at_ hj
  have hkn : (X.K j).kn = false := by
    cases e : (X.K j).kn
    · rfl
    · have := (h.kk j _ hk).2.2.1 e; rw [hcm] at this; cases this
  have hpm := waits_same (k' := { X.K j with cm := true }) hk rfl
  have hpp := hpm.append_left pd
  have hne : ∀ v, v ∈ pd ++ waitsX X → ∀ b, v.ak = some b → b ≠ j := fun v hv b hb e => by
    have := (h.wk v hv b hb).2.1
    rw [e, hcm] at this; cases this
  show XInv C P L (⟨0, some j, ho⟩ :: pd) (X.setA j { X.K j with cm := true })
  exact {
    le := h.le
    kk := fun b k hb => by
      rcases setA_at hb with ⟨rfl, rfl⟩ | ⟨_, hb⟩
      · obtain ⟨g1, g2, g3, g4⟩ := h.kk b _ hk
        exact ⟨g1, g2, fun _ => rfl, g4⟩
      · exact h.kk b k hb
    tm := fun b k hb => by
      rcases setA_at hb with ⟨rfl, rfl⟩ | ⟨_, hb⟩
      · obtain ⟨g1, g2, g3⟩ := h.tm b _ hk
        exact ⟨g1, fun e => (by cases e), g3⟩
      · exact h.tm b k hb
    an := fun b k hb hkn => by
      rcases setA_at hb with ⟨rfl, rfl⟩ | ⟨_, hb⟩
      · have g := h.an b _ hk hkn; exact g
      · exact h.an b k hb hkn
    wu := List.pairwise_cons.2 ⟨fun v hv => by
      unfold Dif
      left
      intro e
      exact hne v (hpp.subset hv) j e.symm rfl, (List.Perm.pairwise_iff (fun h => Dif.symm h) hpp).2 h.wu⟩
    wg := fun v hv hn => by
      rcases List.mem_cons.1 hv with rfl | hv
      · cases hn
      · exact h.wg v (hpp.subset hv) hn
    wk := fun v hv b hb => by
      rw [setA_len, Xd.setA_K hj]
      rcases List.mem_cons.1 hv with rfl | hv
      · cases hb
        rw [if_pos rfl]
        exact ⟨hj, rfl, hkn⟩
      · obtain ⟨g1, g2, g3⟩ := h.wk v (hpp.subset hv) b hb
        rw [if_neg (hne v (hpp.subset hv) b hb)]
        exact ⟨g1, g2, g3⟩
    wp := fun b k hb hdn v hv c hc => by
      rw [setA_ca (k' := { X.K j with cm := true }) hj rfl]
      rcases setA_at hb with ⟨rfl, rfl⟩ | ⟨_, hb⟩
      · exact h.wp b _ hk hdn v hv c hc
      · exact h.wp b k hb hdn v hv c hc
    lv := fun b k hb h2 h3 => by
      rcases setA_at hb with ⟨rfl, rfl⟩ | ⟨_, hb⟩
      · exact ⟨_, List.mem_cons_self .., rfl⟩
      · obtain ⟨v, hv, e⟩ := h.lv b k hb h2 h3
        exact ⟨v, List.mem_cons_of_mem _ (hpp.symm.subset hv), e⟩
    he := h.he
    no := h.no
    gn := h.gn
    pn := h.pn }
theorem XInv.get (h : XInv C P L pd X) (hn : X.nx < L.length) (hg : ∀ x, L[X.nx + 1]? = some x → X.no ≤ x.ti) (ho : Int) : XInv C P L (⟨X.nx, none, ho⟩ :: pd) { X with nx := X.nx + 1 } :=
  { le := ⟨h.le.1, h.le.2.1, h.le.2.2.1, hn, h.le.2.2.2.2⟩, kk := h.kk, tm := h.tm, an := h.an, wp := h.wp, he := h.he, no := h.no, gn := hg, pn := h.pn
    wu := List.pairwise_cons.2 ⟨fun v hv => by
      unfold Dif
      by_cases e : v.ak = none
      · right
        have := h.wg v hv e
        exact ⟨rfl, by show X.nx ≠ v.ge; omega⟩
      · exact .inl (Ne.symm e), h.wu⟩
    wg := fun v hv hn => by
      rcases List.mem_cons.1 hv with rfl | hv
      · exact Nat.lt_succ_self _
      · exact Nat.lt_succ_of_lt (h.wg v hv hn)
    wk := fun v hv b hb => by
      rcases List.mem_cons.1 hv with rfl | hv
      · cases hb
      · exact h.wk v hv b hb
    lv := fun b k hb h2 h3 => by
      obtain ⟨v, hv, e⟩ := h.lv b k hb h2 h3
      exact ⟨v, List.mem_cons_of_mem _ hv, e⟩ }
/-- How a waiting one is answered is not looked at. -/
theorem XInv.ho {w : Xw} (h : XInv C P L (w :: pd) X) (ho : Int) : XInv C P L (⟨w.ge, w.ak, ho⟩ :: pd) X :=
  { h with
    wu := List.pairwise_cons.2 ⟨fun v hv => (List.pairwise_cons.1 h.wu).1 v hv, (List.pairwise_cons.1 h.wu).2⟩
    wg := fun v hv hn => by
      rcases List.mem_cons.1 hv with rfl | hv
      · exact h.wg w (List.mem_cons_self ..) hn
      · exact h.wg v (List.mem_cons_of_mem _ hv) hn
    wk := fun v hv b hb => by
      rcases List.mem_cons.1 hv with rfl | hv
      · exact h.wk w (List.mem_cons_self ..) b hb
      · exact h.wk v (List.mem_cons_of_mem _ hv) b hb
    lv := fun b k hb h2 h3 => by
      obtain ⟨v, hv, e⟩ := h.lv b k hb h2 h3
      rcases List.mem_cons.1 hv with rfl | hv
      · exact ⟨_, List.mem_cons_self .., e⟩
      · exact ⟨v, List.mem_cons_of_mem _ hv, e⟩ }
end
end Go.Proofs.YtehbmnkbmgnkfaaGreatDoor

/- The day as the document tells it: each step keeps what holds. -/
namespace Go.Proofs.YtehbmnkbmgnkfaaGreatDoor
open Go.RowKit

theorem hmOf_in {l : List Xh} (hn : (l.map Xh.ke).Nodup) {h : Xh} (hm : h ∈ l) : hmOf l h.ke = ⟨h.an, h.us⟩ := by
  unfold hmOf
  induction l with
  | nil => cases hm
  | cons a l ih =>
    rw [List.map_cons, List.nodup_cons] at hn
    rw [List.find?_cons]
    rcases List.mem_cons.1 hm with rfl | hm
    · simp
    · have : ¬ a.ke = h.ke := fun e => hn.1 (by rw [e]; exact List.mem_map_of_mem hm)
      rw [decide_eq_false this]
      exact ih hn.2 hm
theorem onH_iff {l : List Xh} {k : ByteArray} : onH l k = true ↔ ∃ h, h ∈ l ∧ h.ke = k := by
  unfold onH
  rw [List.any_eq_true]
  constructor
  · rintro ⟨h, h1, h2⟩; exact ⟨h, h1, of_decide_eq_true h2⟩
  · rintro ⟨h, h1, h2⟩; exact ⟨h, h1, decide_eq_true h2⟩
theorem delH_keys {l : List Xh} {k : ByteArray} : (delH l k).map Xh.ke = rmv k (l.map Xh.ke) := by
  unfold delH rmv
  rw [List.filter_map]
  rfl
theorem useH_keys {l : List Xh} {k : ByteArray} {no : Int} : (useH l k no).map Xh.ke = l.map Xh.ke := by
  unfold useH
  rw [List.map_map]
  refine List.map_congr_left fun h _ => ?_
  show (if h.ke = k then _ else h : Xh).ke = h.ke
  split <;> rfl
theorem useH_mem {l : List Xh} {k : ByteArray} {no : Int} {h : Xh} (hm : h ∈ useH l k no) : ∃ h0, h0 ∈ l ∧ h.ke = h0.ke ∧ h.an = h0.an ∧ h.us = if h0.ke = k then no else h0.us := by
  unfold useH at hm
  obtain ⟨h0, h1, rfl⟩ := List.mem_map.1 hm
  refine ⟨h0, h1, ?_⟩
  split <;> exact ⟨rfl, rfl, rfl⟩
section
variable {C : List Cch} {R : List Crl} {E : List Rel} {P : List Pur} {L : List Gt} {X : Xd} {pd : List Xw}
theorem XInv.held (h : XInv C P L pd X) (i : Nat) : ((X.H i).map Xh.ke).Nodup ∧ ∀ h, h ∈ X.H i → h.ke.size ≤ 300 ∧ AnsOk h.an := by
  by_cases hi : i < X.he.length
  · exact h.he i _ (Xd.H_at hi)
  · have e : X.H i = [] := by unfold Xd.H; rw [List.getD_eq_getElem?_getD, List.getElem?_eq_none (by omega)]; rfl
    rw [e]; exact ⟨List.nodup_nil, fun h hh => by cases hh⟩
theorem XInv.hmOf (h : XInv C P L pd X) {i : Nat} {key : ByteArray} (ho : onH (X.H i) key = true) : AnsOk (hmOf (X.H i) key).an := by
  obtain ⟨x, h1, h2⟩ := onH_iff.1 ho
  rw [← h2, hmOf_in (h.held i).1 h1]
  exact ((h.held i).2 x h1).2
theorem delH_ok {l : List Xh} (h : (l.map Xh.ke).Nodup ∧ ∀ h, h ∈ l → h.ke.size ≤ 300 ∧ AnsOk h.an) (k : ByteArray) : ((delH l k).map Xh.ke).Nodup ∧ ∀ h, h ∈ delH l k → h.ke.size ≤ 300 ∧ AnsOk h.an :=
  ⟨by rw [delH_keys]; exact rmv_nodup h.1, fun x hx => h.2 x (List.mem_filter.1 hx).1⟩
theorem evX_sub {l : List Xh} {ro nd : Int} {h : Xh} (hm : h ∈ evX l ro nd) : h ∈ l := (List.mem_filter.1 hm).1
theorem put_ok {l : List Xh} {ro nd : Int} {key : ByteArray} {a : Ans} {no : Int} (h : (l.map Xh.ke).Nodup ∧ ∀ h, h ∈ l → h.ke.size ≤ 300 ∧ AnsOk h.an) (hk : key.size ≤ 300) (ha : AnsOk a) : ((evX (delH l key) ro nd ++ [(⟨key, a, no⟩ : Xh)]).map Xh.ke).Nodup ∧ ∀ h, h ∈ evX (delH l key) ro nd ++ [(⟨key, a, no⟩ : Xh)] → h.ke.size ≤ 300 ∧ AnsOk h.an := by
  have h1 := delH_ok h key
  refine ⟨?_, fun x hx => ?_⟩
  · rw [List.map_append, List.nodup_append]
    refine ⟨h1.1.sublist (List.Sublist.map _ List.filter_sublist), by simp, fun x hx y hy e => ?_⟩
    simp at hy
    subst hy
    subst e
    obtain ⟨z, hz, e⟩ := List.mem_map.1 hx
    have := List.mem_map_of_mem (f := Xh.ke) (evX_sub hz)
    rw [delH_keys, mem_rmv, e] at this
    exact this.2 rfl
  · rcases List.mem_append.1 hx with hx | hx
    · exact h1.2 x (evX_sub hx)
    · simp only [List.mem_singleton] at hx
      subst hx
      exact ⟨hk, ha⟩
theorem XInv.keep {i : Nat} {key : ByteArray} {a : Ans} (h : XInv C P L pd X) (hk : key.size ≤ 300) (ha : AnsOk a) : XInv C P L pd (X.keepX C R P i key a) := by
  unfold Xd.keepX
  split
  · exact h
  · split
    · exact h.heS i _ (delH_ok (h.held i) key)
    · exact h.heS i _ (put_ok (h.held i) hk ha)
theorem giveX_no {w : Xw} {a : Ans} : (X.giveX C w a).no = X.no := by
  unfold Xd.giveX
  cases w.ak <;> rfl
theorem giveX_ca {w : Xw} {a : Ans} (hj : ∀ j, w.ak = some j → j < X.ak.length) (b : Nat) : ((X.giveX C w a).K b).ca = (X.K b).ca := by
  unfold Xd.giveX
  cases hw : w.ak with
  | none => rfl
  | some j => exact setA_ca (k' := { X.K j with kn := true, go := a, bk := X.no + deO C (X.K j).ca }) (hj j hw) rfl
theorem XInv.gives {a : Ans} (hV : ∀ (i : Nat) (x : Cch), C[i]? = some x → 1 ≤ x.de ∧ x.de ≤ 100000) (ha : AnsOk a) : ∀ (ws : List Xw) (X : Xd), XInv C P L (ws ++ pd) X → (∀ w, w ∈ ws → ∀ j, w.ak = some j → X.no ≤ 1000000000000 + 100000 * (30 + ((X.K j).ca : Int))) → XInv C P L pd (X.givesX C ws a)
  | [], X, h, _ => h
  | w :: ws, X, h, hn => by
    have h1 := XInv.give (w := w) (a := a) h hV ha (hn w (List.mem_cons_self ..))
    refine XInv.gives hV ha ws _ h1 fun v hv j hj => ?_
    rw [giveX_no, giveX_ca fun b hb => (h.wk w (List.mem_cons_self ..) b hb).1]
    exact hn v (List.mem_cons_of_mem _ hv) j hj
theorem wayX_some {i : Nat} {key : ByteArray} {last : Int} {j : Nat} (h : X.wayX i key last = some j) : j < X.ak.length ∧ (X.K j).ca = i ∧ (X.K j).dn = false ∧ (X.K j).ke = key ∧ (X.K j).al = false ∧ last ≤ (X.K j).ma := by
  have h1 := List.mem_of_find?_eq_some h
  have h2 := List.find?_some h
  simp only [Bool.and_eq_true, Bool.not_eq_true', decide_eq_true_eq, beq_iff_eq] at h2
  exact ⟨List.mem_range.1 h1, h2.1.1, h2.1.2, ba_list h2.2.1, h2.2.2.1, h2.2.2.2⟩
theorem XInv.come {i : Nat} {key : ByteArray} {ge : Nat} {ak : Option Nat} {ho : Int} (h : XInv C P L (⟨ge, ak, ho⟩ :: pd) X) (hi : i < C.length) (hV : ∀ (i : Nat) (x : Cch), C[i]? = some x → 1 ≤ x.de ∧ x.de ≤ 100000) (hk : key.size ≤ 300) (hno : X.no ≤ 1000000000000 + 100000 * (29 - (i : Int))) (hw : ∀ a, ak = some a → i < (X.K a).ca) : XInv C P L pd (X.comeX C R P i key ge ak) := by
  have hgb : ∀ j, ak = some j → X.no ≤ 1000000000000 + 100000 * (30 + ((X.K j).ca : Int)) := fun j _ => by omega
  have new : ∀ (Y : Xd) (al : Bool), XInv C P L (⟨ge, ak, ho⟩ :: pd) Y → Y.no = X.no → (∀ a, (Y.K a).ca = (X.K a).ca) → XInv C P L pd (Y.startX C i key al [⟨ge, ak, 3⟩]) := fun Y al hY e1 e2 =>
    XInv.start (ws := [⟨ge, ak, 3⟩]) (XInv.ho hY 3) hi hV hk (by rw [e1]; exact hno) (fun w hw2 a ha => by
      simp only [List.mem_singleton] at hw2
      subst hw2
      rw [e2]
      exact hw a ha)
  unfold Xd.comeX
  split
  · exact new _ true (h.ld i ldCa) rfl (fun _ => rfl)
  · split
    · rename_i hu
      have hA := (h.hmOf hu.1).from (C.getD i default).na
      have hU : ∀ (f : Ldd → Ldd) (o : Int), XInv C P L (⟨ge, ak, o⟩ :: pd) (((X.setL i ldCa).setL i f).setH i (useH (X.H i) key X.no)) := fun f o =>
        XInv.heS (XInv.ho (w := ⟨ge, ak, ho⟩) ((h.ld i ldCa).ld i f) o) i _ ⟨by rw [useH_keys]; exact (h.held i).1, fun x hx => by
          obtain ⟨x0, g1, g2, g3, _⟩ := useH_mem hx
          rw [g2, g3]
          exact (h.held i).2 x0 g1⟩
      split
      · exact XInv.give (w := ⟨ge, ak, 1⟩) (hU ldFr 1) hV hA hgb
      · split
        · exact XInv.give (w := ⟨ge, ak, 2⟩) (hU ldSl 2) hV hA hgb
        · have hs := XInv.start (ws := []) (i := i) (key := key) (al := false) (pd := ⟨ge, ak, 2⟩ :: pd) (hU ldSl 2) hi hV hk hno (fun w hw2 => by cases hw2)
          refine XInv.give (w := ⟨ge, ak, 2⟩) hs hV hA fun j hj => ?_
          have hjl : j < X.ak.length := (h.wk _ (List.mem_cons_self ..) j hj).1
          have e : ((((((X.setL i ldCa).setL i ldSl).setH i (useH (X.H i) key X.no)).startX C i key false []).K j).ca : Int) = ((X.K j).ca : Int) := by
            show (((X.ak ++ [_]).getD j default).ca : Int) = _
            rw [List.getD_eq_getElem?_getD, List.getElem?_append_left hjl, ← List.getD_eq_getElem?_getD]
            rfl
          rw [e]
          exact hgb j hj
    · split
      · rename_i j hj
        obtain ⟨g1, g2, g3, g4, g5, g6⟩ := wayX_some hj
        exact XInv.join (w := ⟨ge, ak, 4⟩) (XInv.ho (w := ⟨ge, ak, ho⟩) ((h.ld i ldCa).ld i ldWt) 4) g1 g3 (fun a ha => by
          show (X.K j).ca < (X.K a).ca
          rw [g2]; exact hw a ha)
      · exact new _ false (h.ld i ldCa) rfl (fun _ => rfl)
theorem XInv.back {j : Nat} (h : XInv C P L pd X) (hV : ∀ (i : Nat) (x : Cch), C[i]? = some x → 1 ≤ x.de ∧ x.de ≤ 100000) (hj : j < X.ak.length) (hkn : (X.K j).kn = true) (hd : (X.K j).dn = false) (hbk : (X.K j).bk = X.no) : XInv C P L pd (X.backX C R P j) := by
  have hk := Xd.at_ hj
  have ha := h.an j _ hk hkn
  have h1 := h.done hj hkn hd
  have h2 := XInv.gives (pd := pd) hV ha (X.K j).ws (X.doneX j) h1 (fun w hw a haw => by
    have e : ((X.doneX j).K a).ca = (X.K a).ca := setA_ca (k' := { X.K j with dn := true }) hj rfl
    rw [e]
    have g1 := h.wp j _ hk hd w hw a haw
    have g2 := ((h.tm j _ hk).2.2 hkn hd).2
    show X.no ≤ _
    omega)
  unfold Xd.backX
  split
  · exact h2.keep (h.kk j _ hk).2.1 ha
  · exact h2
theorem veO_mem {E : List Rel} {key : ByteArray} {no : Int} {o : Nat} (h : veO E key no = some o) : ∃ x, E[o]? = some x ∧ outL E (veO E key no) = x ∧ x.go = false := by
  have h0 := h
  unfold veO at h
  split at h
  · cases h
  · rename_i hg
    have hl := veI_lt h
    refine ⟨E[o], List.getElem?_eq_getElem hl, ?_, ?_⟩
    · rw [h0]
      show E.getD o default = _
      rw [List.getD_eq_getElem?_getD, List.getElem?_eq_getElem hl]
      rfl
    · rw [h] at hg
      have e : outL E (some o) = E[o] := by
        show E.getD o default = _
        rw [List.getD_eq_getElem?_getD, List.getElem?_eq_getElem hl]
        rfl
      rw [e] at hg
      simpa using hg
theorem oriM_ok (hE : ∀ x, x ∈ E → (x.go = true → x.si = 0) ∧ (x.go = false → 1 ≤ x.si ∧ x.si ≤ 1000000000) ∧ 0 ≤ x.ti) (key : ByteArray) {no : Int} (hno : 0 ≤ no ∧ no ≤ 10000000000000) : AnsOk (oriM E key no) := by
  unfold oriM
  split
  · rename_i h
    obtain ⟨o, ho⟩ := Option.isSome_iff_exists.1 h
    have hm : ∃ x, E[o]? = some x ∧ outL E (veO E key no) = x ∧ x.go = false := veO_mem ho
    obtain ⟨x, h1, h2, h3⟩ := hm
    have h4 := hE x (List.mem_of_getElem? h1)
    rw [h2]
    exact ⟨⟨fun h => (by cases h), fun h => (by have := h4.2.2; exact absurd h (by show ¬ x.ti < 0; omega))⟩, fun h => (by cases h), fun _ => h4.2.1 h3, hno⟩
  · exact ⟨⟨fun _ => (by show (-1 : Int) < 0; decide), fun _ => rfl⟩, fun _ => rfl, fun h => (by cases h), hno⟩
theorem XInv.arr {j : Nat} (h : XInv C P L pd X) (hv : Val C R E P L) (hj : j < X.ak.length) (hcm : (X.K j).cm = false) (har : (X.K j).ar = X.no) : XInv C P L pd (X.arrX C R E P j) := by
  have hk := Xd.at_ hj
  have hkk := h.kk j _ hk
  have hV : ∀ (i : Nat) (x : Cch), C[i]? = some x → 1 ≤ x.de ∧ x.de ≤ 100000 := fun i x hx => (hv.cd i x hx).1
  have h1 := h.came hj hcm 0
  have ht := ((h.tm j _ hk).2.1 hcm).2
  have hca : ∀ a, ((X.cameX j).K a).ca = (X.K a).ca := fun a => setA_ca (k' := { X.K j with cm := true }) hj rfl
  have hpar : parO C (X.K j).ca < ((X.K j).ca : Int) := (hv.cp (X.K j).ca (C.getD (X.K j).ca default) (by rw [List.getD_eq_getElem?_getD, List.getElem?_eq_getElem hkk.1]; rfl)).1
  have hc30 := hv.c
  unfold Xd.arrX
  split
  · rename_i hp
    refine XInv.come (ho := 0) h1 (by omega) hV hkk.2.1 (by show X.no ≤ _; omega) (fun a ha => ?_)
    cases ha
    rw [hca]
    omega
  · refine XInv.give h1 hV (oriM_ok hv.e _ ⟨h.no.1, by have := h.no.2; omega⟩) (fun b hb => ?_)
    cases hb
    rw [hca]
    show X.no ≤ _
    omega
theorem nextB_some {j : Nat} (h : X.nextB = some j) : (j < X.ak.length ∧ (X.K j).kn = true ∧ (X.K j).dn = false ∧ (X.K j).bk = X.no) ∧ ∀ a, a < X.ak.length → (X.K a).kn = true → (X.K a).dn = false → (X.K a).bk = X.no → akLt X a j = false := by
  obtain ⟨o1, o2, o3, _⟩ := akLt_ord X
  obtain ⟨h1, h2⟩ := leastN_spec o1 o2 o3 h
  rw [List.mem_filter, List.mem_range] at h1
  unfold Xd.isBk at h1
  simp only [Bool.and_eq_true, Bool.not_eq_true', decide_eq_true_eq] at h1
  refine ⟨⟨h1.1, h1.2.1, h1.2.2.1, h1.2.2.2⟩, fun a ha g1 g2 g3 => h2 a ?_⟩
  rw [List.mem_filter, List.mem_range]
  unfold Xd.isBk
  simp [ha, g1, g2, g3]
theorem nextB_none (h : X.nextB = none) : ∀ a, a < X.ak.length → (X.K a).kn = true → (X.K a).dn = false → (X.K a).bk ≠ X.no := fun a ha g1 g2 g3 => by
  have : ((List.range X.ak.length).filter X.isBk) ≠ [] := fun e => by
    have hm : a ∈ (List.range X.ak.length).filter X.isBk := by
      rw [List.mem_filter, List.mem_range]
      unfold Xd.isBk
      simp [ha, g1, g2, g3]
    rw [e] at hm
    cases hm
  obtain ⟨x, hx⟩ := leastN_some (lt := akLt X) this
  unfold Xd.nextB at h
  rw [h] at hx
  cases hx
theorem nextA_some {j : Nat} (h : X.nextA = some j) : (j < X.ak.length ∧ (X.K j).cm = false ∧ (X.K j).ar = X.no) ∧ ∀ a, a < X.ak.length → (X.K a).cm = false → (X.K a).ar = X.no → akLt X a j = false := by
  obtain ⟨o1, o2, o3, _⟩ := akLt_ord X
  obtain ⟨h1, h2⟩ := leastN_spec o1 o2 o3 h
  rw [List.mem_filter, List.mem_range] at h1
  unfold Xd.isAr at h1
  simp only [Bool.and_eq_true, Bool.not_eq_true', decide_eq_true_eq] at h1
  refine ⟨⟨h1.1, h1.2.1, h1.2.2⟩, fun a ha g1 g2 => h2 a ?_⟩
  rw [List.mem_filter, List.mem_range]
  unfold Xd.isAr
  simp [ha, g1, g2]
theorem nextA_none (h : X.nextA = none) : ∀ a, a < X.ak.length → (X.K a).cm = false → (X.K a).ar ≠ X.no := fun a ha g1 g2 => by
  have : ((List.range X.ak.length).filter X.isAr) ≠ [] := fun e => by
    have hm : a ∈ (List.range X.ak.length).filter X.isAr := by
      rw [List.mem_filter, List.mem_range]
      unfold Xd.isAr
      simp [ha, g1, g2]
    rw [e] at hm
    cases hm
  obtain ⟨x, hx⟩ := leastN_some (lt := akLt X) this
  unfold Xd.nextA at h
  rw [h] at hx
  cases hx
theorem times_mem {t : Int} : t ∈ X.times P L ↔ (∃ x, L[X.nx]? = some x ∧ t = x.ti) ∨ (∃ x, P[X.pg]? = some x ∧ t = x.ti) ∨ ∃ (j : Nat) (k : Xk), X.ak[j]? = some k ∧ ((k.cm = false ∧ t = k.ar) ∨ (k.kn = true ∧ k.dn = false ∧ t = k.bk)) := by
  unfold Xd.times
  have e1 : ∀ {α : Type} [Inhabited α] (l : List α) (n : Nat) (f : α → Int), (t ∈ (if n < l.length then [f (l.getD n default)] else [])) ↔ ∃ x, l[n]? = some x ∧ t = f x := fun l n f => by
    by_cases hn : n < l.length
    · rw [if_pos hn]
      simp [List.getD_eq_getElem?_getD, List.getElem?_eq_getElem hn]
    · rw [if_neg hn]
      simp [List.getElem?_eq_none (Nat.not_lt.1 hn)]
  rw [List.mem_append, List.mem_append, e1 L X.nx Gt.ti, e1 P X.pg Pur.ti, List.mem_flatMap]
  refine or_congr Iff.rfl (or_congr Iff.rfl ?_)
  constructor
  · rintro ⟨k, hk, h⟩
    obtain ⟨j, hj⟩ := List.mem_iff_getElem?.1 hk
    refine ⟨j, k, hj, ?_⟩
    rcases List.mem_append.1 h with h | h
    · split at h
      · rename_i hc; exact .inl ⟨hc, by simpa using h⟩
      · cases h
    · split at h
      · rename_i hc; exact .inr ⟨hc.1, hc.2, by simpa using h⟩
      · cases h
  · rintro ⟨j, k, hj, h⟩
    refine ⟨k, List.mem_of_getElem? hj, List.mem_append.2 ?_⟩
    rcases h with ⟨h1, h2⟩ | ⟨h1, h2, h3⟩
    · left; rw [if_pos h1, h2]; exact List.mem_singleton_self _
    · right; rw [if_pos ⟨h1, h2⟩, h3]; exact List.mem_singleton_self _
theorem XInv.now (h : XInv C P L pd X) (hv : Val C R E P L) {t : Int} (ht : minT (X.times P L) = some t) : XInv C P L pd { X with no := t } := by
  obtain ⟨hm, hl⟩ := minT_spec ht
  have hnt : X.no ≤ t ∧ t ≤ 1000006100000 := by
    rcases times_mem.1 hm with ⟨x, hx, rfl⟩ | ⟨x, hx, rfl⟩ | ⟨j, k, hk, hh⟩
    · exact ⟨h.gn x hx, by have := (hv.lt x (List.mem_of_getElem? hx)).1; omega⟩
    · exact ⟨h.pn x hx, by have := (hv.pt x (List.mem_of_getElem? hx)).1; omega⟩
    · have g := h.tm j k hk
      have g0 := (h.kk j k hk).1
      have g30 := hv.c
      rcases hh with ⟨h1, rfl⟩ | ⟨h1, h2, rfl⟩
      · have := g.2.1 h1; omega
      · have := g.2.2 h1 h2; omega
  exact { h with
    tm := fun j k hk => by
      have g := h.tm j k hk
      refine ⟨⟨g.1.1, Int.le_trans g.1.2 hnt.1⟩, fun h1 => ⟨hl _ (times_mem.2 (.inr (.inr ⟨j, k, hk, .inl ⟨h1, rfl⟩⟩))), (g.2.1 h1).2⟩, fun h1 h2 => ⟨hl _ (times_mem.2 (.inr (.inr ⟨j, k, hk, .inr ⟨h1, h2, rfl⟩⟩))), (g.2.2 h1 h2).2⟩⟩
    no := ⟨Int.le_trans h.no.1 hnt.1, hnt.2⟩
    gn := fun x hx => hl _ (times_mem.2 (.inl ⟨x, hx, rfl⟩))
    pn := fun x hx => hl _ (times_mem.2 (.inr (.inl ⟨x, hx, rfl⟩))) }
theorem XInv.pur (h : XInv C P L pd X) (hv : Val C R E P L) (hp : X.pg < P.length) (ht : (P.getD X.pg default).ti = X.no) : XInv C P L pd (X.purX (P.getD X.pg default).ke) := by
  exact { h with
    le := ⟨by show (X.he.map _).length = _; rw [List.length_map]; exact h.le.1, h.le.2.1, h.le.2.2.1, h.le.2.2.2.1, hp⟩
    he := fun i l hl => by
      have hl' : (X.he.map fun l => delH l (P.getD X.pg default).ke)[i]? = some l := hl
      rw [List.getElem?_map] at hl'
      cases hx : X.he[i]? with
      | none => rw [hx] at hl'; cases hl'
      | some l0 => rw [hx] at hl'; cases hl'; exact delH_ok (h.he i l0 hx) _
    pn := fun x hx => by
      show X.no ≤ x.ti
      rw [← ht]
      refine hv.ps X.pg (X.pg + 1) _ x (Nat.le_succ _) ?_ hx
      rw [List.getD_eq_getElem?_getD, List.getElem?_eq_getElem hp]
      rfl }
/-- Each step keeps it. -/
theorem XInv.next {lim : Int} {m m' : Mod} {X' : Xd} (h : XInv C P L [] X) (hv : Val C R E P L) (hn : X.next C R E P L lim m = some (m', X')) : XInv C P L [] X' := by
  have hV : ∀ (i : Nat) (x : Cch), C[i]? = some x → 1 ≤ x.de ∧ x.de ≤ 100000 := fun i x hx => (hv.cd i x hx).1
  unfold Xd.next at hn
  cases m with
  | out =>
    dsimp only at hn
    split at hn
    · cases hn
    · rename_i t ht
      split at hn
      · cases hn
      · cases hn; exact h.now hv ht
  | pur =>
    dsimp only at hn
    split at hn
    · rename_i hp
      cases hn
      exact h.pur hv hp.1 hp.2
    · cases hn; exact h
  | bak =>
    dsimp only at hn
    split at hn
    · rename_i j hj
      cases hn
      obtain ⟨⟨g1, g2, g3, g4⟩, _⟩ := nextB_some hj
      exact h.back hV g1 g2 g3 g4
    · cases hn; exact h
  | get =>
    dsimp only at hn
    split at hn
    · rename_i hp
      cases hn
      have hx : L[X.nx]? = some (L.getD X.nx default) := by rw [List.getD_eq_getElem?_getD, List.getElem?_eq_getElem hp.1]; rfl
      obtain ⟨g1, g2, i, g3, g4⟩ := hv.lt _ (List.mem_of_getElem? hx)
      have hg := h.get hp.1 (fun x hx2 => by rw [← hp.2]; exact hv.ls X.nx (X.nx + 1) _ x (Nat.le_succ _) hx hx2) 0
      rw [g3, Int.toNat_natCast]
      have h30 := hv.c
      exact XInv.come (ho := 0) hg g4 hV g2 (by show X.no ≤ _; rw [← hp.2]; omega) (fun a ha => by cases ha)
    · cases hn; exact h
  | arr =>
    dsimp only at hn
    split at hn
    · rename_i j hj
      cases hn
      obtain ⟨⟨g1, g2, g3⟩, _⟩ := nextA_some hj
      exact h.arr hv g1 g2 g3
    · cases hn; exact h
end
end Go.Proofs.YtehbmnkbmgnkfaaGreatDoor

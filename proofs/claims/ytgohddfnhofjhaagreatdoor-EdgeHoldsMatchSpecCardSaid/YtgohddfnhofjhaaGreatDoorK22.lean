/- The reference's day: what only reads it (purged, place, underway, total). -/
import Derived.Test.YtgohddfnhofjhaaGreatDoorK09
import Derived.Test.YtgohddfnhofjhaaGreatDoorK12
import Derived.Test.YtgohddfnhofjhaaGreatDoorK21
import Derived.Test.YtgohddfnhofjhaaGreatDoorK01
set_option maxRecDepth 100000
set_option maxHeartbeats 4000000
namespace Go.Proofs.YtgohddfnhofjhaaGreatDoor
open Go.RowKit
def numO : Option Nat → Int
 | none => -1
 | some j => j
theorem mY (w : World) (l : List Crl) (v : Value) (k : ByteArray) (hl : Sl w 4 xU v l) :
 Calls Tryz.prog 61 #[v, .string k] w fun e w' => e = .returned (.int .i64 (numO (ruI l k l.length))) ∧ Below w.heap.size w w' := by
 obtain ⟨ao, cap, rfl, hcap, hmax, hnil, hel⟩ := hl; unfold maxLen at hmax; have HEL := Lr hel; clear hel; obtain ⟨Y, hY⟩ : ∃ Y, Y = numO (ruI l k l.length) := ⟨_, rfl⟩
 rw [← hY]; have HY := Lr hY; clear hY
 go_enter Tryz.func61, Tryz.ntmps61
 go_wp2
 go_loopg [5, 6, 7, 10] l.length (fun gg s5 _ _ s10 wr => ∃ kk : Nat, kk ≤ l.length ∧ l.length - kk ≤ gg ∧ s10 = .int .i64 kk ∧ s5 = .int .i64 (numO (ruI l k kk)) ∧ Aside (Below w.heap.size w wr))
 case atStart => exact ⟨0, Nat.zero_le _, by omega, by go_num, rfl, LD _ _⟩
 case round =>
  obtain ⟨kk, hkk, hg, rfl, rfl, BW⟩ := hrel; have BW := Lr BW.out; by_cases hlt : kk < l.length
  ·have hltz : (kk : Int) < (l.length : Int) := by omega
   obtain ⟨x, hx⟩ : ∃ x, l[kk]? = some x := ⟨l[kk], by simp [hlt]⟩
   obtain ⟨b, off, rfl, hc⟩ := HEL.out kk x hx; have hlt0 := LC w ⟨b, off + kk * 4 + 0, none⟩ (hc 0 _ rfl); have BL := BW.out; have hszw := BL.size; have hbw : b < wr.heap.size := Nat.lt_of_lt_of_le hlt0 hszw; have c0 : wr.cell? ⟨b, off + kk * 4, none⟩ = some (.string x.pr) := (BL.cell (p := ⟨b, off + kk * 4 + 0, none⟩) hlt0).trans (hc 0 _ rfl); have c1 : wr.cell? ⟨b, off + kk * 4 + 1, none⟩ = some (.int .i64 x.li) := (BL.cell (p := ⟨b, off + kk * 4 + 1, none⟩) hlt0).trans (hc 1 _ rfl); have c2 : wr.cell? ⟨b, off + kk * 4 + 2, none⟩ = some (.int .i64 x.st) := (BL.cell (p := ⟨b, off + kk * 4 + 2, none⟩) hlt0).trans (hc 2 _ rfl); have c3 : wr.cell? ⟨b, off + kk * 4 + 3, none⟩ = some (.int .i64 x.go) := (BL.cell (p := ⟨b, off + kk * 4 + 3, none⟩) hlt0).trans (hc 3 _ rfl); have HNI := Lr (wC (k := k) hx); have HT1 := Lr (fun h => @FO l k kk x h); have HT2 := Lr (fun h ho => @wB l k kk x h ho); have HT3 := Lr (fun j h ho => @ww l k kk j x h ho); have HLT := Lr (fun j ho => @AY l k j kk ho); have HHP := Lr (fun (W : World) => Tryz.strings_HasPrefix k x.pr W); obtain ⟨h, hh⟩ : ∃ h, h = hpB k x.pr := ⟨_, rfl⟩
   have HH := Lr hh; obtain ⟨o, ho⟩ : ∃ o, o = ruI l k kk := ⟨_, rfl⟩
   rw [← ho] at HNI HT2 HT3 HLT ⊢; have HOI := Lr ho; have HB0 := Lr (BL.alloc hszw (.cells #[.string x.pr, .int .i64 x.li, .int .i64 x.st, .int .i64 x.go] 126)); clear hx hc BL hh ho; have HHP2 : Hid (∀ W : World, Calls Tryz.prog 93 #[.string k, .string x.pr] W fun e w' => e = .returned (.bool h) ∧ w' = W) := Lr (fun W => by rw [HH.out]; exact HHP.out W); cases h
   case false =>
    have HN : Hid (ruI l k (kk + 1) = o) := Lr (by rw [HNI.out, HT1.out HH.out.symm]; rfl)
    go_upto_region 5 with (fail)
    go_quiet ((go_at_call 93; exact Calls.quiet_of_same (HHP2.out _)))
    go_wp2
    go_roundg (l.length - (kk + 1))
    case measure => omega
    case rel => exact ⟨kk + 1, by omega, by omega, by go_num, by rw [HN.out], below_drewN HB0.out _⟩
   case true =>
    cases o
    case none =>
     have HN : Hid (ruI l k (kk + 1) = some kk) := Lr (by rw [HNI.out, HT2.out HH.out.symm rfl]; rfl); have hno : numO none = -1 := rfl; rw [hno]
     go_upto_region 5 with (fail)
     go_quiet ((go_at_call 93; exact Calls.quiet_of_same (HHP2.out _)))
     go_wp2
     go_roundg (l.length - (kk + 1))
     case measure => omega
     case rel => exact ⟨kk + 1, by omega, by omega, by go_num, by rw [HN.out]; rfl, below_drewN HB0.out _⟩
    case some j =>
     have hj := HLT.out j rfl; obtain ⟨y, hy⟩ : ∃ y, l[j]? = some y := ⟨l[j]'(by omega), by simp [show j < l.length by omega]⟩
     obtain ⟨b', off', hao', hc'⟩ := HEL.out j y hy; simp only [Option.some.injEq, Addr.mk.injEq, and_true] at hao'
     obtain ⟨rfl, rfl⟩ := hao'; have p0 : wr.cell? ⟨b, off + j * 4, none⟩ = some (.string y.pr) := (BW.out.cell (p := ⟨b, off + j * 4 + 0, none⟩) hlt0).trans (hc' 0 _ rfl); have HT4 := Lr (HT3.out j HH.out.symm rfl); have e4 : lV l (some j) = y := by show l.getD j default = y; exact bi hy
     rw [e4] at HT4; have hno : numO (some j) = j := rfl; rw [hno]; have hjl : j < l.length := by omega
     clear hy hc' e4 hno; by_cases hs : y.pr.size < x.pr.size
     ·have HN : Hid (ruI l k (kk + 1) = some kk) := Lr (by rw [HNI.out, HT4.out, decide_eq_true hs]; rfl); have hsz : (y.pr.size : Int) < (x.pr.size : Int) := by omega
      go_upto_region 5 with (fail)
      go_quiet ((go_at_call 93; exact Calls.quiet_of_same (HHP2.out _)))
      go_wp2
      go_roundg (l.length - (kk + 1))
      case measure => omega
      case rel => exact ⟨kk + 1, by omega, by omega, by go_num, by rw [HN.out]; rfl, below_drewN HB0.out _⟩
     ·have HN : Hid (ruI l k (kk + 1) = some j) := Lr (by rw [HNI.out, HT4.out, decide_eq_false hs]; rfl); have hsz : ¬ (y.pr.size : Int) < (x.pr.size : Int) := by omega
      go_upto_region 5 with (fail)
      go_quiet ((go_at_call 93; exact Calls.quiet_of_same (HHP2.out _)))
      go_wp2
      go_roundg (l.length - (kk + 1))
      case measure => omega
      case rel => exact ⟨kk + 1, by omega, by omega, by go_num, by rw [HN.out]; rfl, below_drewN HB0.out _⟩
  ·obtain rfl : kk = l.length := by omega
   have hltz : ¬ (l.length : Int) < (l.length : Int) := by omega
   rw [← HY.out]
   go_wp2
   go_ret
   exact ⟨rfl, BW.out⟩
theorem oQ (w : World) (l : List Rel) (v : Value) (k : ByteArray) (t : Int) (hl : Sl w 4 zn v l) :
 Calls Tryz.prog 33 #[v, .string k, .int .i64 t] w fun e w' => e = .returned (.int .i64 (numO (veO l k t))) ∧ Below w.heap.size w w' := by
 obtain ⟨ao, cap, rfl, hcap, hmax, hnil, hel⟩ := hl; unfold maxLen at hmax; have HEL := Lr hel; clear hel; have HVO : Hid (veO l k t = if (qM l (veI l k t l.length)).go = true then none else veI l k t l.length) := Lr rfl; obtain ⟨V, hV⟩ : ∃ V, V = veO l k t := ⟨_, rfl⟩
 rw [← hV] at HVO ⊢; clear hV; obtain ⟨Y, hY⟩ : ∃ Y, Y = numO V := ⟨_, rfl⟩
 rw [← hY]; have HY := Lr hY; clear hY
 go_enter Tryz.func33, Tryz.ntmps33
 go_wp2
 go_loopg [7, 8, 9, 12] l.length (fun gg s7 _ _ s12 wr => ∃ kk : Nat, kk ≤ l.length ∧ l.length - kk ≤ gg ∧ s12 = .int .i64 kk ∧ s7 = .int .i64 (numO (veI l k t kk)) ∧ Aside (Below w.heap.size w wr))
 case atStart => exact ⟨0, Nat.zero_le _, by omega, by go_num, rfl, LD _ _⟩
 case round =>
  obtain ⟨kk, hkk, hg, rfl, rfl, BW⟩ := hrel; have BW := Lr BW.out; by_cases hlt : kk < l.length
  ·have hltz : (kk : Int) < (l.length : Int) := by omega
   obtain ⟨x, hx⟩ : ∃ x, l[kk]? = some x := ⟨l[kk], by simp [hlt]⟩
   obtain ⟨b, off, rfl, hc⟩ := HEL.out kk x hx; have hlt0 := LC w ⟨b, off + kk * 4 + 0, none⟩ (hc 0 _ rfl); have BL := BW.out; have hszw := BL.size; have hbw : b < wr.heap.size := Nat.lt_of_lt_of_le hlt0 hszw; have c0 : wr.cell? ⟨b, off + kk * 4, none⟩ = some (.string x.ke) := (BL.cell (p := ⟨b, off + kk * 4 + 0, none⟩) hlt0).trans (hc 0 _ rfl); have c1 : wr.cell? ⟨b, off + kk * 4 + 1, none⟩ = some (.int .i64 x.ti) := (BL.cell (p := ⟨b, off + kk * 4 + 1, none⟩) hlt0).trans (hc 1 _ rfl); have c2 : wr.cell? ⟨b, off + kk * 4 + 2, none⟩ = some (.int .i64 x.si) := (BL.cell (p := ⟨b, off + kk * 4 + 2, none⟩) hlt0).trans (hc 2 _ rfl); have c3 : wr.cell? ⟨b, off + kk * 4 + 3, none⟩ = some (.bool x.go) := (BL.cell (p := ⟨b, off + kk * 4 + 3, none⟩) hlt0).trans (hc 3 _ rfl); have HNI := Lr (vV (k := k) (t := t) hx); obtain ⟨o, ho⟩ : ∃ o, o = veI l k t kk := ⟨_, rfl⟩
   rw [← ho] at HNI ⊢; obtain ⟨no, hno⟩ : ∃ no, no = numO o := ⟨_, rfl⟩
   rw [← hno]; have HNO := Lr hno; have HB0 := Lr (BL.alloc hszw (.cells #[.string x.ke, .int .i64 x.ti, .int .i64 x.si, .bool x.go] 77)); clear hx hc BL ho hno; cases hq : (x.ke.toList == k.toList)
   case false =>
    have HN : Hid (veI l k t (kk + 1) = o) := Lr (by rw [HNI.out, hq]; rfl)
    go_wp2
    go_roundg (l.length - (kk + 1))
    case measure => omega
    case rel => exact ⟨kk + 1, by omega, by omega, by go_num, by rw [HN.out, HNO.out], HB0.out⟩
   case true =>
    by_cases hs : x.ti ≤ t
    ·have HN : Hid (veI l k t (kk + 1) = some kk) := Lr (by rw [HNI.out, hq, decide_eq_true hs]; rfl)
     go_wp2
     go_roundg (l.length - (kk + 1))
     case measure => omega
     case rel => exact ⟨kk + 1, by omega, by omega, by go_num, by rw [HN.out]; rfl, HB0.out⟩
    ·have HN : Hid (veI l k t (kk + 1) = o) := Lr (by rw [HNI.out, hq, decide_eq_false hs]; rfl)
     go_wp2
     go_roundg (l.length - (kk + 1))
     case measure => omega
     case rel => exact ⟨kk + 1, by omega, by omega, by go_num, by rw [HN.out, HNO.out], HB0.out⟩
  ·obtain rfl : kk = l.length := by omega
   have hltz : ¬ (l.length : Int) < (l.length : Int) := by omega
   have HLT := Lr (fun j ho => @Ak l k t j l.length ho); obtain ⟨o, ho⟩ : ∃ o, o = veI l k t l.length := ⟨_, rfl⟩
   rw [← ho] at HVO HLT ⊢; clear ho; cases o
   case none =>
    have hV : Hid (-1 = Y) := Lr (by rw [HY.out, HVO.out]; split <;> rfl); have hno : numO none = -1 := rfl; rw [hno]; clear hno
    go_wp2
    go_ret
    exact ⟨ah hV.out, BW.out⟩
   case some j =>
    have hj := HLT.out j rfl; obtain ⟨y, hy⟩ : ∃ y, l[j]? = some y := ⟨l[j]'(by omega), by simp [show j < l.length by omega]⟩
    obtain ⟨b, off, rfl, hc'⟩ := HEL.out j y hy; have hlt0 := LC w ⟨b, off + j * 4 + 0, none⟩ (hc' 0 _ rfl); have p3 : wr.cell? ⟨b, off + j * 4 + 3, none⟩ = some (.bool y.go) := (BW.out.cell (p := ⟨b, off + j * 4 + 3, none⟩) hlt0).trans (hc' 3 _ rfl); have e4 : qM l (some j) = y := by show l.getD j default = y; exact bi hy
    rw [e4] at HVO; have hno : numO (some j) = j := rfl; rw [hno]; clear hy hc' e4 hno; cases hgo : y.go
    case true =>
     have hV : Hid (-1 = Y) := Lr (by rw [HY.out, HVO.out, hgo]; rfl); rw [hgo] at p3
     go_wp2
     go_ret
     exact ⟨ah hV.out, BW.out⟩
    case false =>
     have hV : Hid ((j : Int) = Y) := Lr (by rw [HY.out, HVO.out, hgo]; rfl); rw [hgo] at p3
     go_wp2
     go_ret
     exact ⟨ah hV.out, BW.out⟩
def pbI (P : List Pur) (k : ByteArray) (t : Int) : Nat → Int
 | 0 => -1
 | n + 1 => if (((P.getD n default).ke.toList == k.toList) && decide ((P.getD n default).ti ≤ t)) = true then (P.getD n default).ti else pbI P k t n
theorem wJ {P : List Pur} {k : ByteArray} {t : Int} {n : Nat} {x : Pur} (hx : P[n]? = some x) : pbI P k t (n + 1) = if ((x.ke.toList == k.toList) && decide (x.ti ≤ t)) = true then x.ti else pbI P k t n := by
 rw [pbI, getD_at hx]
theorem Bj {P : List Pur} (hs : ∀ (i j : Nat) (x y : Pur), i ≤ j → P[i]? = some x → P[j]? = some y → x.ti ≤ y.ti) (h0 : ∀ x, x ∈ P → 0 ≤ x.ti) (k : ByteArray) (t : Int) : ∀ {n : Nat}, n ≤ P.length → pbI P k t n = uJ P k t n
 | 0, _ => rfl
 | n + 1, hn => by
  have hx := Lu (by omega : n < P.length); rw [wJ hx, ny hx, Bj hs h0 k t (n := n) (by omega)]; split
  ·have h1 : uJ P k t n ≤ P[n].ti := by
    refine purI_lt (by have := h0 _ (List.getElem_mem (by omega : n < P.length)); omega) (fun q y hq hy _ _ => hs q n y _ (by omega) hy hx) (by omega)
   omega
  ·rfl
where
 purI_lt {P : List Pur} {k : ByteArray} {t v : Int} {m : Nat} (hv : -1 ≤ v) (h : ∀ (q : Nat) (x : Pur), q < m → P[q]? = some x → x.ke = k → x.ti ≤ t → x.ti ≤ v) (hm : m ≤ P.length) : uJ P k t m ≤ v := by
  induction m with
  | zero => exact hv
  | succ m ih =>
   have h1 := ih (fun q x hq => h q x (by omega)) (by omega); have hx := Lu (by omega : m < P.length); rw [ny hx]; split
   ·rename_i hc; simp only [Bool.and_eq_true, beq_iff_eq, decide_eq_true_eq] at hc
    have := h m _ (by omega) hx (lh hc.1) hc.2; omega
   ·exact h1
def mr {α : Type} (p : α → Bool) : List α → Option Nat
 | [] => none
 | a :: l => if p a = true then some 0 else (mr p l).map (· + 1)
theorem ry {α : Type} {p : α → Bool} : ∀ {l : List α} {n : Nat} {x : α}, l[n]? = some x → p x = true → (∀ (j : Nat) (y : α), j < n → l[j]? = some y → p y = false) → mr p l = some n
 | [], _, _, h, _, _ => by cases h
 | a :: l, 0, x, h, hp, _ => by
  have e : a = x := by simpa using h
  rw [mr, e, if_pos hp]
 | a :: l, n + 1, x, h, hp, hn => by
  have h0 := hn 0 a (Nat.succ_pos _) rfl; rw [mr, h0, if_neg (by simp), ry (l := l) (n := n) (by simpa using h) hp (fun j y hj hy => hn (j + 1) y (by omega) (by simpa using hy))]
  rfl
theorem nZ {α : Type} {p : α → Bool} : ∀ {l : List α}, (∀ (j : Nat) (y : α), l[j]? = some y → p y = false) → mr p l = none
 | [], _ => rfl
 | a :: l, h => by
  rw [mr, h 0 a rfl, if_neg (by simp), nZ (l := l) (fun j y hy => h (j + 1) y (by simpa using hy))]
  rfl
theorem nY {α : Type} {p : α → Bool} : ∀ {l : List α} {n : Nat}, mr p l = some n → ∃ x, l[n]? = some x ∧ p x = true
 | [], _, h => by cases h
 | a :: l, n, h => by
  unfold mr at h; split at h
  ·cases h; exact ⟨a, rfl, by assumption⟩
  ·cases hf : mr p l with
   | none => rw [hf] at h; cases h
   | some m =>
    rw [hf] at h; cases h
    obtain ⟨x, h1, h2⟩ := nY hf; exact ⟨x, by simpa using h1, h2⟩
theorem jD {α : Type} {p : α → Bool} : ∀ {l : List α}, mr p l = none → ∀ x, x ∈ l → p x = false
 | [], _, _, h => by cases h
 | a :: l, h, x, hx => by
  unfold mr at h; split at h
  ·cases h
  ·rename_i ha; cases hf : mr p l with
   | some m => rw [hf] at h; cases h
   | none =>
    rcases List.mem_cons.1 hx with rfl | hx
    ·simpa using ha
    ·exact jD hf x hx
theorem zg {α : Type} [Inhabited α] (p : α → Bool) (l : List α) : (List.range l.length).find? (fun j => p (l.getD j default)) = mr p l := by
 cases h : mr p l with
 | some n =>
  obtain ⟨x, h1, h2⟩ := nY h; have hn := (List.getElem?_eq_some_iff.1 h1).1; rw [List.find?_range_eq_some]; refine ⟨by rw [getD_at h1]; exact h2, List.mem_range.2 hn, fun j hj => ?_⟩; cases hp : p (l.getD j default)
  ·rfl
  ·exfalso
   have hj2 : l[j]? = some (l.getD j default) := by rw [Lt, Lu (by omega)]; rfl
   have : ∀ (m : List α) (a b : Nat) (y : α), mr p m = some b → a < b → m[a]? = some y → p y = false := by
    intro m
    induction m with
    | nil => intro a b y h; cases h
    | cons c m ih =>
     intro a b y h hab hy; unfold mr at h; split at h
     ·cases h; omega
     ·rename_i hc; cases hf : mr p m with
      | none => rw [hf] at h; cases h
      | some d =>
       rw [hf] at h; cases h
       cases a with
       | zero =>
        have e : c = y := by simpa using hy
        rw [← e]; simpa using hc
       | succ a => exact ih a d y hf (by show a < d; have : a + 1 < d + 1 := hab; omega) (by simpa using hy)
   rw [this l j n _ h hj hj2] at hp; cases hp
 | none =>
  rw [List.find?_eq_none]; intro j hj; have hj := List.mem_range.1 hj; have := jD h (l.getD j default) (by rw [getD_at (Lu hj)]; exact List.getElem_mem hj); rw [this]; simp
def plI (l : List Xh) (k : ByteArray) : Option Nat := mr (fun h => h.ke.toList == k.toList) l
def wyT (i : Nat) (key : ByteArray) (last : Int) (k : Xk) : Bool := (((decide (k.ca = i) && (k.ke.toList == key.toList)) && !k.dn) && !k.al) && decide (last ≤ k.ma)
theorem Gp (X : Xd) (i : Nat) (key : ByteArray) (last : Int) : X.kD i key last = mr (wyT i key last) X.ak := by
 rw [← zg]; unfold Xd.kD
 congr 1
 funext j
 unfold wyT; show _ = _
 have e : X.ak.getD j default = X.K j := rfl; rw [e]; cases decide ((X.K j).ca = i) <;> cases (X.K j).dn <;> cases ((X.K j).ke.toList == key.toList) <;> cases (X.K j).al <;> cases decide (last ≤ (X.K j).ma) <;> rfl
theorem ni (w : World) (B : Nat) (A : Rdr) (X : Xd) (h : RD w B A X) (P : List Pur) (k : ByteArray) (hp : Sl w 2 xW A.d3 P) :
 Calls Tryz.prog 146 #[.pointer (some ⟨A.q, 0, none⟩), .string k] w fun e w' => e = .returned (.int .i64 (pbI P k X.no P.length)) ∧ Below w.heap.size w w' := by
 have hqb := h.qb.2; obtain ⟨ao, cap, e3, hcap, hmax, -, hel⟩ := hp; have q3 : w.cell? ⟨A.q, 3, none⟩ = some (.slice ao P.length cap) := by rw [af hqb 3 rfl, ← e3]; rfl
 have q11 : w.cell? ⟨A.q, 11, none⟩ = some (.int .i64 X.no) := af hqb 11 rfl; have hql := LC w _ q11; unfold maxLen at hmax; have HEL := Lr hel; generalize X.no = t at q11 ⊢; clear hel h hqb e3
 go_enter Tryz.func146, Tryz.ntmps146
 go_wp2_with fail
 go_loopg [5, 7, 14] P.length (fun gg s5 s7 s14 wr => ∃ kk : Nat, kk ≤ P.length ∧ P.length - kk ≤ gg ∧ s14 = .int .i64 kk ∧ s5 = .int .i64 (pbI P k t kk) ∧ Aside (Below w.heap.size w wr))
 case atStart => exact ⟨0, Nat.zero_le _, by omega, rfl, rfl, LD _ _⟩
 case round =>
  obtain ⟨kk, hkk, hg, rfl, rfl, BW⟩ := hrel; by_cases hlt : kk < P.length
  ·have hltz : (kk : Int) < (P.length : Int) := by omega
   obtain ⟨x, hx⟩ : ∃ x, P[kk]? = some x := ⟨_, Lu hlt⟩
   obtain ⟨b, off, rfl, hc⟩ := HEL.out kk x hx; have hl2 := LC w _ (hc 0 _ rfl); have c0 : wr.cell? ⟨b, off + kk * 2, none⟩ = some (.int .i64 x.ti) := by have h := (BW.out.cell (p := ⟨b, off + kk * 2 + 0, none⟩) hl2).trans (hc 0 _ rfl); simpa using h
   have c1 : wr.cell? ⟨b, off + kk * 2 + 1, none⟩ = some (.string x.ke) := (BW.out.cell (p := ⟨b, off + kk * 2 + 1, none⟩) hl2).trans (hc 1 _ rfl); have HNX := Lr (wJ (k := k) (t := t) hx); obtain ⟨m1, hm1⟩ : ∃ m1, m1 = pbI P k t (kk + 1) := ⟨_, rfl⟩
   rw [← hm1] at HNX; have HM1 := Lr hm1; generalize pbI P k t kk = m0 at HNX ⊢; have hsz := BW.out.size; obtain ⟨wq, hwq⟩ : ∃ wq, wq = wr.alloc (.cells #[.int .i64 x.ti, .string x.ke] 74) := ⟨_, rfl⟩
   have HB : Hid (Below w.heap.size w wq) := Lr (by rw [hwq]; exact BW.out.alloc hsz _); obtain ⟨N, hN⟩ : ∃ N, N = wr.heap.size := ⟨_, rfl⟩
   have hnb : wq.heap[N]? = some (.cells #[.int .i64 x.ti, .string x.ke] 74 (0, 0)) := by rw [hN, hwq]; exact ag wr _
   have n0 : wq.cell? ⟨N, 0, none⟩ = some (.int .i64 x.ti) := af hnb 0 rfl; have n1 : wq.cell? ⟨N, 1, none⟩ = some (.string x.ke) := af hnb 1 rfl; have r11 := (HB.out.cell (p := ⟨A.q, 11, none⟩) hql).trans q11; have HWQ := Lr hwq; have HN := Lr hN; clear hc hx hm1 hwq hN hnb q11 q3
   go_upto_region 5 with (fail)
   rw [← HWQ.out, ← HN.out]; cases h1 : (x.ke.toList == k.toList)
   ·have hv : Hid (m1 = m0) := Lr (by rw [HNX.out, h1]; rfl)
    go_quiet (fail)
    go_wp2_with fail
    go_roundg (P.length - (kk + 1))
    case measure => omega
    case rel => exact ⟨kk + 1, by omega, by omega, by go_num, by rw [← HM1.out, hv.out], below_drewN HB.out _⟩
   ·by_cases h2 : x.ti ≤ t
    ·have hv : Hid (m1 = x.ti) := Lr (by rw [HNX.out, h1, decide_eq_true h2]; rfl)
     go_quiet (fail)
     go_wp2_with fail
     go_roundg (P.length - (kk + 1))
     case measure => omega
     case rel => exact ⟨kk + 1, by omega, by omega, by go_num, by rw [← HM1.out, hv.out], below_drewN HB.out _⟩
    ·have hv : Hid (m1 = m0) := Lr (by rw [HNX.out, h1, decide_eq_false h2]; rfl)
     go_quiet (fail)
     go_wp2_with fail
     go_roundg (P.length - (kk + 1))
     case measure => omega
     case rel => exact ⟨kk + 1, by omega, by omega, by go_num, by rw [← HM1.out, hv.out], below_drewN HB.out _⟩
  ·obtain rfl : kk = P.length := by omega
   have hltz : ¬ (P.length : Int) < (P.length : Int) := by omega
   go_wp2_with fail
   go_ret
   exact ⟨rfl, BW.out⟩
theorem kL (w : World) (B : Nat) (A : Rdr) (X : Xd) (h : RD w B A X) (i : Nat) (key : ByteArray) (hi : i < X.he.length) :
 Calls Tryz.prog 98 #[.pointer (some ⟨A.q, 0, none⟩), .int .i64 (i : Nat), .string key] w fun e w' => e = .returned (.int .i64 (numO (plI (X.H i) key))) ∧ Below w.heap.size w w' := by
 have hqb := h.qb.2; obtain ⟨v, hv⟩ : ∃ v, A.hs[i]? = some v := ⟨_, Lu (by rw [h.hl]; exact hi)⟩
 obtain ⟨so, sc, e8, -, -, -, hel8⟩ := h.rows.sl dV; have q8 : w.cell? ⟨A.q, 8, none⟩ = some (.slice so A.hs.length sc) := by rw [af hqb 8 rfl, ← e8]; rfl
 obtain ⟨sb, soff, rfl, hc8⟩ := hel8 i v hv; have s0 : w.cell? ⟨sb, soff + i, none⟩ = some v := by have h := hc8 0 _ rfl; simpa using h
 obtain ⟨ao, cap, rfl, hcap, hmax, -, hel⟩ := (h.held hv).sl aJ; unfold maxLen at hmax; have hiz : (i : Int) < (A.hs.length : Int) := by rw [h.hl]; omega
 have HEL := Lr hel; have HH := Lr (fun n x h1 h2 h3 => @ry _ (fun h : Xh => h.ke.toList == key.toList) (X.H i) n x h1 h2 h3); have HN := Lr (@nZ _ (fun h : Xh => h.ke.toList == key.toList) (X.H i)); obtain ⟨F, hF⟩ : ∃ F, F = plI (X.H i) key := ⟨_, rfl⟩
 have hF' : F = mr (fun h : Xh => h.ke.toList == key.toList) (X.H i) := hF; rw [← hF'] at HH HN; rw [← hF]; clear hF hF' hel hel8 hc8 hv h hqb e8; generalize X.H i = l at HEL HH HN hcap q8 s0 ⊢
 go_enter Tryz.func98, Tryz.ntmps98
 go_wp2_with fail
 go_loopg [7, 8, 17] l.length (fun gg s7 s8 s17 wr => ∃ kk : Nat, kk ≤ l.length ∧ l.length - kk ≤ gg ∧ s17 = .int .i64 kk ∧ Aside (Below w.heap.size w wr) ∧ Aside (∀ (j : Nat) (y : Xh), j < kk → l[j]? = some y → (y.ke.toList == key.toList) = false))
 case atStart => exact ⟨0, Nat.zero_le _, by omega, rfl, LD _ _, fun j y hj => absurd hj (Nat.not_lt_zero _)⟩
 case round =>
  obtain ⟨kk, hkk, hg, rfl, BW, AL⟩ := hrel; by_cases hlt : kk < l.length
  ·have hltz : (kk : Int) < (l.length : Int) := by omega
   obtain ⟨x, hx⟩ : ∃ x, l[kk]? = some x := ⟨_, Lu hlt⟩
   obtain ⟨b, off, rfl, hc⟩ := HEL.out kk x hx; have hl2 := LC w _ (hc 0 _ rfl); have c0 : wr.cell? ⟨b, off + kk * 6, none⟩ = some (.string x.ke) := by have h := (BW.out.cell (p := ⟨b, off + kk * 6 + 0, none⟩) hl2).trans (hc 0 _ rfl); simpa using h
   have c1 : wr.cell? ⟨b, off + kk * 6 + 1, none⟩ = some (.int .i64 x.an.ve) := (BW.out.cell (p := ⟨b, off + kk * 6 + 1, none⟩) hl2).trans (hc 1 _ rfl); have c2 : wr.cell? ⟨b, off + kk * 6 + 2, none⟩ = some (.int .i64 x.an.bo) := (BW.out.cell (p := ⟨b, off + kk * 6 + 2, none⟩) hl2).trans (hc 2 _ rfl); have c3 : wr.cell? ⟨b, off + kk * 6 + 3, none⟩ = some (.int .i64 x.an.si) := (BW.out.cell (p := ⟨b, off + kk * 6 + 3, none⟩) hl2).trans (hc 3 _ rfl); have c4 : wr.cell? ⟨b, off + kk * 6 + 4, none⟩ = some (.string x.an.fr) := (BW.out.cell (p := ⟨b, off + kk * 6 + 4, none⟩) hl2).trans (hc 4 _ rfl); have c5 : wr.cell? ⟨b, off + kk * 6 + 5, none⟩ = some (.int .i64 x.us) := (BW.out.cell (p := ⟨b, off + kk * 6 + 5, none⟩) hl2).trans (hc 5 _ rfl); have hsz := BW.out.size; have HB := Lr (BW.out.alloc hsz (.cells #[.string x.ke, .int .i64 x.an.ve, .int .i64 x.an.bo, .int .i64 x.an.si, .string x.an.fr, .int .i64 x.us] 107)); have HX := Lr hx; clear hc hx; cases h1 : (x.ke.toList == key.toList)
   ·have HAL : Hid (∀ (j : Nat) (y : Xh), j < kk + 1 → l[j]? = some y → (y.ke.toList == key.toList) = false) := Lr fun j y hj hy => by
     by_cases e : j = kk
     ·subst e; rw [HX.out] at hy; cases hy; exact h1
     ·exact AL.out j y (by omega) hy
    go_wp2_with fail
    go_roundg (l.length - (kk + 1))
    case measure => omega
    case rel => exact ⟨kk + 1, by omega, by omega, by go_num, HB.out, HAL.out⟩
   ·have hv : Hid (numO F = (kk : Int)) := Lr (by rw [HH.out kk x HX.out h1 AL.out]; rfl); clear AL HX HH HN
    go_wp2_with fail
    go_ret
    exact ⟨by rw [hv.out]; rfl, HB.out⟩
  ·obtain rfl : kk = l.length := by omega
   have hltz : ¬ (l.length : Int) < (l.length : Int) := by omega
   have hv : Hid (numO F = -1) := Lr (by rw [HN.out fun j y hy => AL.out j y (List.getElem?_eq_some_iff.1 hy).1 hy]; rfl); have HB := Lr BW.out; clear AL HH HN
   go_wp2_with fail
   go_ret
   exact ⟨by rw [hv.out]; rfl, HB.out⟩
theorem yA (w : World) (v : Value) (l : List Xh) (hl : Sl w 6 jG v l) (hb : ∀ x, x ∈ l → (0 ≤ x.an.si ∧ x.an.si ≤ 1000000000)) (hn : ∀ x, x ∈ l → aT x.an = max x.an.si 1) (hlen : l.length ≤ 1000000) :
 Calls Tryz.prog 147 #[v] w fun e w' => e = .returned (.int .i64 (lS l)) ∧ Below w.heap.size w w' := by
 obtain ⟨ao, cap, rfl, hcap, hmax, -, hel⟩ := hl; unfold maxLen at hmax; have HEL := Lr hel; have HBB := Lr hb; have HTS : Hid (∀ k x, l[k]? = some x → lS (l.take (k + 1)) = lS (l.take k) + max x.an.si 1) := Lr fun k x hx => by
  rw [List.take_add_one, hx, Eb, ← hn x (List.mem_of_getElem? hx)]; show lS (l.take k) + (aT x.an + 0) = _
  omega
 have HTB : Hid (∀ k, k ≤ l.length → 0 ≤ lS (l.take k) ∧ lS (l.take k) ≤ k * 1000000000) := Lr fun k => by
  induction k with
  | zero => intro _; exact ⟨Int.le_refl _, Int.le_refl _⟩
  | succ k ih =>
   intro hk; have h1 := ih (by omega); have hx := Lu (by omega : k < l.length); have h2 := hb _ (List.getElem_mem (by omega : k < l.length)); rw [HTS.out k _ hx]; omega
 have HT1 : Hid (lS (l.take l.length) = lS l) := Lr (by rw [List.take_length]); clear hel hb hn
 go_enter Tryz.func147, Tryz.ntmps147
 go_wp2_with fail
 go_loopg [3, 5, 8] l.length (fun gg s3 s5 s8 wr => ∃ kk : Nat, kk ≤ l.length ∧ l.length - kk ≤ gg ∧ s8 = .int .i64 kk ∧ s3 = .int .i64 (lS (l.take kk)) ∧ Aside (Below w.heap.size w wr))
 case atStart => exact ⟨0, Nat.zero_le _, by omega, rfl, rfl, LD _ _⟩
 case round =>
  obtain ⟨kk, hkk, hg, rfl, rfl, BW⟩ := hrel; by_cases hlt : kk < l.length
  ·have hltz : (kk : Int) < (l.length : Int) := by omega
   obtain ⟨x, hx⟩ : ∃ x, l[kk]? = some x := ⟨_, Lu hlt⟩
   obtain ⟨b, off, rfl, hc⟩ := HEL.out kk x hx; have hl2 := LC w _ (hc 0 _ rfl); have c0 : wr.cell? ⟨b, off + kk * 6, none⟩ = some (.string x.ke) := by have h := (BW.out.cell (p := ⟨b, off + kk * 6 + 0, none⟩) hl2).trans (hc 0 _ rfl); simpa using h
   have c1 : wr.cell? ⟨b, off + kk * 6 + 1, none⟩ = some (.int .i64 x.an.ve) := (BW.out.cell (p := ⟨b, off + kk * 6 + 1, none⟩) hl2).trans (hc 1 _ rfl); have c2 : wr.cell? ⟨b, off + kk * 6 + 2, none⟩ = some (.int .i64 x.an.bo) := (BW.out.cell (p := ⟨b, off + kk * 6 + 2, none⟩) hl2).trans (hc 2 _ rfl); have c3 : wr.cell? ⟨b, off + kk * 6 + 3, none⟩ = some (.int .i64 x.an.si) := (BW.out.cell (p := ⟨b, off + kk * 6 + 3, none⟩) hl2).trans (hc 3 _ rfl); have c4 : wr.cell? ⟨b, off + kk * 6 + 4, none⟩ = some (.string x.an.fr) := (BW.out.cell (p := ⟨b, off + kk * 6 + 4, none⟩) hl2).trans (hc 4 _ rfl); have c5 : wr.cell? ⟨b, off + kk * 6 + 5, none⟩ = some (.int .i64 x.us) := (BW.out.cell (p := ⟨b, off + kk * 6 + 5, none⟩) hl2).trans (hc 5 _ rfl); have hsz := BW.out.size; have HB := Lr (BW.out.alloc hsz (.cells #[.string x.ke, .int .i64 x.an.ve, .int .i64 x.an.bo, .int .i64 x.an.si, .string x.an.fr, .int .i64 x.us] 107)); have HNX := Lr (HTS.out kk x hx); obtain ⟨b1, b2⟩ := HTB.out kk hkk; obtain ⟨b3, b4⟩ := HBB.out x (List.mem_of_getElem? hx); generalize lS (l.take kk) = m at HNX b1 b2 ⊢; have hww : IntKind.i64.wrap (m + max x.an.si 1) = m + max x.an.si 1 := IntWalk.i64_in _ (by omega); clear hc hx
   go_wp2_with fail
   go_roundg (l.length - (kk + 1))
   case measure => omega
   case rel => exact ⟨kk + 1, by omega, by omega, by go_num, by rw [HNX.out], HB.out⟩
  ·obtain rfl : kk = l.length := by omega
   have hltz : ¬ (l.length : Int) < (l.length : Int) := by omega
   rw [HT1.out]
   go_wp2_with fail
   go_ret
   exact ⟨rfl, BW.out⟩
end Go.Proofs.YtgohddfnhofjhaaGreatDoor

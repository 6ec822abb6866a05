/- Which of two choices is better, of the program and of the reference. -/
import Derived.Test.YtpdeodoidlcdoaaG09
import Derived.Test.YtpdeodoidlcdoaaG05
namespace Go.Proofs.Ytpdeodoidlcdoaa
open Go.RowKit

def betK (a1 a2 : Int) (A : List Int) (b1 b2 : Int) (B : List Int) : Bool :=
  if a1 ≠ b1 then decide (b1 < a1) else if a2 ≠ b2 then decide (b2 < a2) else if A.length ≠ B.length then decide (A.length < B.length) else decide (A < B)

set_option maxHeartbeats 1000000 in
theorem better_any (w : World) (a1 a2 b1 b2 : Int) (A B : List Int) (v u : Value) (hA : Sl w 1 encI v A) (hB : Sl w 1 encI u B) :
    Calls Try.prog 43 #[.agg #[.int .i64 a1, .int .i64 a2, v], .agg #[.int .i64 b1, .int .i64 b2, u]] w fun e w' => e = .returned (.bool (betK a1 a2 A b1 b2 B)) ∧ Below w.heap.size w w' := by
  have HK : Hid (betK a1 a2 A b1 b2 B = if a1 ≠ b1 then decide (b1 < a1) else if a2 ≠ b2 then decide (b2 < a2) else if A.length ≠ B.length then decide (A.length < B.length) else decide (A < B)) := Lib.hid rfl
  generalize betK a1 a2 A b1 b2 B = K at HK ⊢
  have HCM := Lib.hid (fun (W : World) (hb : Below w.heap.size w W) (h : A.length = B.length) => compare_any W A B v u (hA.below hb (Nat.le_refl _)) (hB.below hb (Nat.le_refl _)) h)
  have B2 := Lib.hid (((Below.refl w.heap.size w).alloc (Nat.le_refl _) (.cells #[.int .i64 a1, .int .i64 a2, v] 84)).alloc (by simp) (.cells #[.int .i64 b1, .int .i64 b2, u] 84))
  obtain ⟨ao, cap, rfl, hcap, hmax, hnil, hel⟩ := hA
  obtain ⟨bo, bap, rfl, hbap, hbax, hbil, hem⟩ := hB
  unfold maxLen at hmax hbax
  clear hel hem hnil hbil
  cases e1 : (a1 != b1)
  case true =>
    have hv : Hid (decide (b1 < a1) = K) := Lib.hid (by rw [HK.out, if_pos (by simpa using e1)])
    go_enter Try.func43, Try.ntmps43
    go_wp2
    go_ret
    exact ⟨ret_bool hv.out, B2.out⟩
  have HK2 := Lib.hid (HK.out.trans (if_neg (by simpa using e1)))
  clear HK
  cases e2 : (a2 != b2)
  case true =>
    have hv : Hid (decide (b2 < a2) = K) := Lib.hid (by rw [HK2.out, if_pos (by simpa using e2)])
    go_enter Try.func43, Try.ntmps43
    go_wp2
    go_ret
    exact ⟨ret_bool hv.out, B2.out⟩
  have HK3 := Lib.hid (HK2.out.trans (if_neg (by simpa using e2)))
  clear HK2
  by_cases e3 : A.length = B.length
  · have e3' : ((A.length : Int) != (B.length : Int)) = false := by rw [e3]; simp
    have HK4 := Lib.hid (HK3.out.trans (if_neg (by simpa using e3)))
    have HC2 := Lib.hid (HCM.out _ B2.out e3)
    clear e3
    go_enter Try.func43, Try.ntmps43
    go_wp2_with (go_at_call 54; refine HC2.out.mono ?_; rintro e w2 ⟨c, rfl, hc, rfl⟩; have HCC := Lib.hid hc; clear hc)
    go_ret
    exact ⟨ret_bool (by rw [HK4.out]; exact HCC.out), B2.out⟩
  · have e3' : ((A.length : Int) != (B.length : Int)) = true := by simpa using fun h => e3 (by omega)
    have hv : Hid (decide (A.length < B.length) = K) := Lib.hid (by rw [HK3.out, if_pos e3])
    clear e3
    go_enter Try.func43, Try.ntmps43
    go_wp2
    go_ret
    exact ⟨ret_bool (by rw [← hv.out]), B2.out⟩
end Go.Proofs.Ytpdeodoidlcdoaa

/- Advertisements: their fault; plain. -/
namespace Go.Proofs.Ytpdeodoidlcdoaa
open Go.RowKit

def sameA (a b : Adv) : Bool := a.na.toList == b.na.toList
/-- Are the names of an advertisement names? -/
def nmA (x : Adv) : Bool := nameB x.na && (x.ri.toList.isEmpty || nameB x.ri)
def outA (x : Adv) : Bool := outB x.ln 1 1000000000000000 || outB x.va 0 1000000000
def afOf (x : Adv) (tw : Bool) : Int := if nmA x = false then 5 else if tw = true then 7 else if outA x = true then 1 else 0
def afAt (l : List Adv) (i : Nat) : Int := afOf (l.getD i default) ((l.take i).any fun o => sameA o (l.getD i default))
/-- The fault of advertisements. -/
def adsG (l : List Adv) : Int := if 16 < l.length then 2 else FF (afAt l) l.length

theorem afOf_zero {x : Adv} {tw : Bool} (h : afOf x tw = 0) : nmA x = true ∧ tw = false ∧ (1 ≤ x.ln ∧ x.ln ≤ 1000000000000000) ∧ (0 ≤ x.va ∧ x.va ≤ 1000000000) := by
  unfold afOf at h
  split at h
  · simp at h
  rename_i h1
  split at h
  · simp at h
  rename_i h2
  split at h
  · simp at h
  rename_i h3
  simp only [outA, Bool.or_eq_true, not_or] at h3
  exact ⟨by simpa using h1, by simpa using h2, outB_no' h3.1, outB_no' h3.2⟩
theorem adsG_zero {l : List Adv} (h : adsG l = 0) : l.length ≤ 16 ∧ ∀ x, x ∈ l → nmA x = true ∧ (1 ≤ x.ln ∧ x.ln ≤ 1000000000000000) ∧ (0 ≤ x.va ∧ x.va ≤ 1000000000) := by
  unfold adsG at h
  split at h
  · simp at h
  rename_i h0
  have hz := FF_eq_zero h
  refine ⟨by omega, fun x hx => ?_⟩
  obtain ⟨i, hi, rfl⟩ := List.mem_iff_getElem.1 hx
  have h1 := afOf_zero (hz i hi)
  rw [getD_of (List.getElem?_eq_getElem hi)] at h1
  exact ⟨h1.1, h1.2.2.1, h1.2.2.2⟩
end Go.Proofs.Ytpdeodoidlcdoaa

/- slices.IndexFunc and its like, at one type. -/
namespace Go.Proofs.Ytpdeodoidlcdoaa
open Go.RowKit

/-- The first place at which p holds, or -1. -/
def fidxN (p : Int → Bool) (l : List Int) : Int := if l.findIdx p = l.length then -1 else (l.findIdx p : Nat)
theorem fidxN_hit {p : Int → Bool} {l : List Int} {k : Nat} {x : Int} (hx : l[k]? = some x) (h : p x = true) (hn : ∀ (j : Nat) y, l[j]? = some y → j < k → p y = false) : fidxN p l = k ∧ l.findIdx p = k := by
  obtain ⟨hk, rfl⟩ := List.getElem?_eq_some_iff.1 hx
  have e : l.findIdx p = k := by
    rw [List.findIdx_eq hk]
    exact ⟨h, fun j hj => hn j _ (List.getElem?_eq_getElem (by omega)) hj⟩
  exact ⟨by rw [fidxN, e, if_neg (by omega)], e⟩
theorem fidxN_none {p : Int → Bool} {l : List Int} (hn : ∀ (j : Nat) y, l[j]? = some y → p y = false) : fidxN p l = -1 ∧ l.findIdx p = l.length := by
  have e : l.findIdx p = l.length := by
    rw [List.findIdx_eq_length]
    intro x hx
    obtain ⟨j, hj, rfl⟩ := List.mem_iff_getElem.1 hx
    exact hn j _ (List.getElem?_eq_getElem hj)
  exact ⟨by rw [fidxN, if_pos e], e⟩
theorem fidxN_any (p : Int → Bool) (l : List Int) : decide (0 ≤ fidxN p l) = l.any p := by
  unfold fidxN
  by_cases h : l.findIdx p = l.length
  · rw [if_pos h]
    rw [List.findIdx_eq_length] at h
    have : l.any p = false := by rw [List.any_eq_false]; intro x hx; simp [h x hx]
    simp [this]
  · rw [if_neg h]
    have hlt : l.findIdx p < l.length := by have := List.findIdx_le_length (p := p) (xs := l); omega
    have : l.any p = true := List.any_eq_true.2 ⟨_, List.getElem_mem hlt, List.findIdx_getElem⟩
    simp [this]

/-- slices.IndexFunc, of whatever predicate that leaves what was there as it was. -/
theorem idxN (g : Nat) (lb : Array Value) (p : Int → Bool) (w : World) (l : List Int) (v : Value) (hl : Sl w 1 encI v l)
    (eg : ∀ args w, (callFunc g args).run Try.prog w = .ok (.enter g args) w)
    (hp : ∀ W x, x ∈ l → Below w.heap.size w W → Calls Try.prog g (#[.int .i64 x] ++ lb) W fun e w' => e = .returned (.bool (p x)) ∧ Below W.heap.size W w') :
    Calls Try.prog 55 #[v, .func (.func g) #[] lb] w fun e w' => e = .returned (.int .i64 (fidxN p l)) ∧ Below w.heap.size w w' := by
  obtain ⟨ao, cap, rfl, hcap, hmax, hnil, hel⟩ := hl
  unfold maxLen at hmax
  go_enter Try.func55, Try.ntmps55
  go_wp2
  go_loopg [5, 8] l.length (fun gg _ s8 wr => ∃ kk : Nat, kk ≤ l.length ∧ l.length - kk ≤ gg ∧ s8 = .int .i64 kk ∧ Aside (Below w.heap.size w wr) ∧ Aside (∀ j x, l[j]? = some x → j < kk → p x = false))
  case atStart => exact ⟨0, Nat.zero_le _, by omega, rfl, Below.refl _ w, fun j x _ hj => absurd hj (Nat.not_lt_zero _)⟩
  case round =>
    obtain ⟨kk, hkk, hg, rfl, BW, A⟩ := hrel
    by_cases hlt : kk < l.length
    · have hltz : (kk : Int) < (l.length : Int) := by omega
      obtain ⟨x, hx⟩ : ∃ x, l[kk]? = some x := ⟨l[kk], by simp [hlt]⟩
      obtain ⟨b, off, rfl, hc⟩ := hel kk x hx
      have hlt0 := World.block_lt_of_cell? w _ (hc 0 _ rfl)
      have c0 : wr.cell? ⟨b, off + kk, none⟩ = some (.int .i64 x) := by have h := (BW.out.cell (p := ⟨b, off + kk * 1 + 0, none⟩) hlt0).trans (hc 0 _ rfl); simpa using h
      have hcall := hp wr x (List.mem_of_getElem? hx) BW.out
      have HX : Hid (l[kk]? = some x) := hx
      clear hx hc hel hp
      cases hq : p x with
      | true =>
        rw [hq] at hcall
        have hv := Lib.hid (fidxN_hit HX.out hq A.out).1
        go_wp2_with (go_at_fn g; refine hcall.mono ?_; rintro e w' ⟨rfl, hb'⟩)
        go_ret
        exact ⟨ret_int hv.out.symm, BW.out.thru hb'⟩
      | false =>
        rw [hq] at hcall
        go_wp2_with (go_at_fn g; refine hcall.mono ?_; rintro e w' ⟨rfl, hb'⟩)
        go_roundg (l.length - (kk + 1))
        case measure => omega
        case rel =>
          refine ⟨kk + 1, by omega, by omega, by go_num, BW.out.thru hb', (show Aside _ from fun j y hy hj => ?_)⟩
          by_cases e : j = kk
          · subst e
            have := HX.out.symm.trans hy
            simp at this; subst this; exact hq
          · exact A.out j y hy (by omega)
    · have hltz : ¬ (kk : Int) < (l.length : Int) := by omega
      have hv := Lib.hid (fidxN_none (p := p) (l := l) fun j y hy => A.out j y hy (by have := (List.getElem?_eq_some_iff.1 hy).1; omega)).1
      clear hel
      go_wp2
      go_ret
      exact ⟨ret_int hv.out.symm, BW.out⟩

theorem anyN (g : Nat) (lb : Array Value) (p : Int → Bool) (w : World) (l : List Int) (v : Value) (hl : Sl w 1 encI v l)
    (eg : ∀ args w, (callFunc g args).run Try.prog w = .ok (.enter g args) w)
    (hp : ∀ W x, x ∈ l → Below w.heap.size w W → Calls Try.prog g (#[.int .i64 x] ++ lb) W fun e w' => e = .returned (.bool (p x)) ∧ Below W.heap.size W w') :
    Calls Try.prog 45 #[v, .func (.func g) #[] lb] w fun e w' => e = .returned (.bool (l.any p)) ∧ Below w.heap.size w w' := by
  have hc := idxN g lb p w l v hl eg hp
  have ha := Lib.hid (fidxN_any p l)
  clear hp hl
  go_enter Try.func45, Try.ntmps45
  go_wp2_with (go_at_call 55; refine hc.mono ?_; rintro e w' ⟨rfl, hb'⟩)
  go_ret
  exact ⟨ret_bool ha.out, hb'⟩
end Go.Proofs.Ytpdeodoidlcdoaa

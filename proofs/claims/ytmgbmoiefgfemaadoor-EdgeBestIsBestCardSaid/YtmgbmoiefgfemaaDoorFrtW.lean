/- farthest of edge: the walk over the map. -/
import Derived.Test.YtmgbmoiefgfemaaDoorMpS
import Derived.Test.YtmgbmoiefgfemaaDoorCrvW
import Derived.Test.YtmgbmoiefgfemaaDoorNor0
namespace Go.Proofs.YtmgbmoiefgfemaaDoor
open Go.RowKit

/-- The key to which most is laid. -/
def WrsM (f : ByteArray → Int) (ks : List ByteArray) (x : ByteArray) : Prop := x ∈ ks ∧ ∀ y, y ∈ ks → f y ≤ f x
def FarP (w : World) (f : ByteArray → Int) (ks : List ByteArray) : Ending → World → Prop := fun e w' => ∃ x, e = .returned (.string x) ∧ WrsM f ks x ∧ Below w.heap.size w w'
theorem FarP.mk {w w' : World} {f : ByteArray → Int} {ks : List ByteArray} {x : ByteArray} (h : WrsM f ks x) (hb : Below w.heap.size w w') : FarP w f ks (.returned (.string x)) w' := ⟨x, rfl, h, hb⟩
/-- What is known of the greatest so far, left being still to come. -/
def FarS (f : ByteArray → Int) (ks left : List ByteArray) (x : ByteArray) (at1 : Int) : Prop := (at1 = -1 ∧ left = ks) ∨ (x ∈ ks ∧ at1 = f x ∧ ∀ y, y ∈ ks → ¬ y ∈ left → f y ≤ f x)
theorem FarS.bd {f : ByteArray → Int} {ks left : List ByteArray} {x : ByteArray} {at1 : Int} (h : FarS f ks left x at1) (hf : ∀ k, k ∈ ks → 0 ≤ f k ∧ f k ≤ 1000) : -1 ≤ at1 ∧ at1 ≤ 1000 := by
  rcases h with ⟨rfl, _⟩ | ⟨h1, rfl, _⟩
  · omega
  · have := hf x h1; omega
theorem FarS.fin {f : ByteArray → Int} {ks : List ByteArray} {x : ByteArray} {at1 : Int} (h : FarS f ks [] x at1) (hne : ks ≠ []) : WrsM f ks x := by
  rcases h with ⟨_, h2⟩ | ⟨h1, _, h2⟩
  · exact absurd h2.symm hne
  · exact ⟨h1, fun y hy => h2 y hy (by simp)⟩
/-- The one that came is taken. -/
theorem FarS.take {f : ByteArray → Int} {ks left : List ByteArray} {x k : ByteArray} {at1 : Int} (h : FarS f ks left x at1) (hk : k ∈ ks) (hx : at1 ≤ f k) : FarS f ks (rmv k left) k (f k) := by
  refine Or.inr ⟨hk, rfl, fun y hy hn => ?_⟩
  by_cases e : y = k
  · rw [e]; exact Int.le_refl _
  have hn2 : ¬ y ∈ left := fun c => hn (mem_rmv.2 ⟨c, e⟩)
  rcases h with ⟨_, h2⟩ | ⟨h1, h3, h2⟩
  · rw [h2] at hn2; exact absurd hy hn2
  · have := h2 y hy hn2; omega
/-- The one that came is left. -/
theorem FarS.leave {f : ByteArray → Int} {ks left : List ByteArray} {x k : ByteArray} {at1 : Int} (h : FarS f ks left x at1) (h0 : 0 ≤ f k) (hx : f k ≤ at1) : FarS f ks (rmv k left) x at1 := by
  rcases h with ⟨h1, h2⟩ | ⟨h1, h3, h2⟩
  · omega
  · refine Or.inr ⟨h1, h3, fun y hy hn => ?_⟩
    by_cases e : y = k
    · rw [e]; omega
    · exact h2 y hy (fun c => hn (mem_rmv.2 ⟨c, e⟩))

set_option maxRecDepth 100000 in
set_option maxHeartbeats 4000000 in
theorem farthest_any (w : World) (b n : Nat) (f : ByteArray → Int) (ks : List ByteArray) (hm : MapS w b n f ks) (hf : ∀ k, k ∈ ks → 0 ≤ f k ∧ f k ≤ 1000) (hne : ks ≠ []) :
    Calls Tryd.prog 69 #[.map (some b)] w (FarP w f ks) := by
  have HF := Lib.hid hf
  have HNE := Lib.hid hne
  have hbl := hm.lt
  obtain ⟨wi, hrg, hrv, hgi, hsi⟩ := hm.range
  have HRI : Hid (RngS wi b w.heap.size n f ks ks) := Lib.hid hrv
  have HBI : Hid (Below w.heap.size w wi) := Lib.hid ((Below.refl _ w).grown hgi (Nat.le_refl _) (fun i hi => by cases hi))
  obtain ⟨R, hR⟩ : ∃ R, R = w.heap.size := ⟨_, rfl⟩
  rw [← hR] at hrg HRI
  have HR := Lib.hid hR
  clear hf hne hm hrv hgi hsi hR
  go_enter Tryd.func69, Tryd.ntmps69
  go_wp2
  go_loopg [3, 4, 5, 6] ks.length (fun gg s3 s4 s5 s6 wr => ∃ (left : List ByteArray) (x : ByteArray) (at1 : Int), left.length ≤ gg ∧ s3 = .string x ∧ s4 = .int .i64 at1 ∧ Aside (RngS wr b R n f ks left) ∧ Aside (FarS f ks left x at1) ∧ Aside (Below w.heap.size w wr))
  case atStart => exact ⟨ks, _, -1, Nat.le_refl _, rfl, rfl, (show Aside _ from HRI.out), (show Aside (FarS _ _ _ _ _) from Or.inl ⟨rfl, rfl⟩), (show Aside _ from HBI.out)⟩
  case round =>
    obtain ⟨wq, rfl⟩ : ∃ wq : World, wq = wr := ⟨_, rfl⟩
    obtain ⟨left, x, at1, hgl, rfl, rfl, RV, FS, BU⟩ := hrel
    rcases RV.out.step 0 with ⟨hnil, hrun⟩ | ⟨v, wn, hv, hrun, hrv, hgr, hsz, hen⟩
    · have HW : Hid (WrsM f ks x) := Lib.hid (FarS.fin (by have h := FS.out; rw [hnil] at h; exact h) HNE.out)
      clear hnil
      go_wp2
      go_ret
      exact FarP.mk HW.out BU.out
    have hvk := RV.out.2.1 v hv
    have hfb := HF.out v hvk
    have hab := FS.out.bd HF.out
    have hrle := rmv_lt hv
    have HRV : Hid (RngS wn b R n f ks (rmv v left)) := Lib.hid hrv
    have HBV : Hid (Below w.heap.size w wn) := Lib.hid (BU.out.grown hgr (by have := BU.out.size; have := HR.out; omega) (fun j hj => by cases hj; have := HR.out; omega))
    have HTK := Lib.hid (fun h => FS.out.take (k := v) hvk h)
    have HLV := Lib.hid (fun h => FS.out.leave (k := v) hfb.1 h)
    obtain ⟨z, hz⟩ : ∃ z, z = f v := ⟨_, rfl⟩
    rw [← hz] at hrun hen hfb HTK HLV
    clear hrv hgr hsz RV FS BU hv hvk hz
    by_cases hgt : at1 < z
    · go_wp2
      go_roundg (rmv v left).length
      case measure => omega
      case rel => exact ⟨rmv v left, v, z, Nat.le_refl _, rfl, rfl, (show Aside _ from HRV.out), (show Aside _ from HTK.out (by omega)), (show Aside _ from HBV.out)⟩
    · by_cases heq : z = at1
      · have he2 : (z == at1) = true := by simpa using heq
        go_upto_region 5 with (fail)
        go_cut [26] (fun s26 w4 => ∃ q : Bool, s26 = .bool q ∧ w4 = wn)
        case first =>
          go_wp2
          go_meet
          exact ⟨_, rfl, rfl⟩
        obtain ⟨q, rfl, hwq⟩ := hcut
        obtain rfl := hwq
        cases q
        · go_wp2
          go_roundg (rmv v left).length
          case measure => omega
          case rel => exact ⟨rmv v left, x, at1, Nat.le_refl _, rfl, rfl, (show Aside _ from HRV.out), (show Aside _ from HLV.out (by omega)), (show Aside _ from HBV.out)⟩
        · go_wp2
          go_roundg (rmv v left).length
          case measure => omega
          case rel => exact ⟨rmv v left, v, z, Nat.le_refl _, rfl, (by rw [heq]), (show Aside _ from HRV.out), (show Aside _ from HTK.out (by omega)), (show Aside _ from HBV.out)⟩
      · have he2 : (z == at1) = false := by simpa using heq
        go_wp2
        go_roundg (rmv v left).length
        case measure => omega
        case rel => exact ⟨rmv v left, x, at1, Nat.le_refl _, rfl, rfl, (show Aside _ from HRV.out), (show Aside _ from HLV.out (by omega)), (show Aside _ from HBV.out)⟩
end Go.Proofs.YtmgbmoiefgfemaaDoor

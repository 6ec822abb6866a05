/- RuleOf of the program and of the reference. -/
import Derived.Test.YtmgbmoiefgfemaaDoorRulR
import Derived.Test.YtmgbmoiefgfemaaDoorChkU
import Derived.Test.YtmgbmoiefgfemaaDoorChkUR
namespace Go.Proofs.YtmgbmoiefgfemaaDoor
open Go.RowKit

def ruF (l : List Crl) (k : ByteArray) : Int := if checkU l = 0 then (if reqB k = true then 0 else 3) else checkU l
def ruX (l : List Crl) (k : ByteArray) : Crl := if ruF l k = 0 then outU l (ruI l k l.length) else default
def ruB (l : List Crl) (k : ByteArray) : Bool := decide (ruF l k = 0) && (ruI l k l.length).isSome
abbrev zeroU : Obj := .cells #[.string ⟨#[]⟩, .int .i64 0, .int .i64 0, .int .i64 0] 25
/-- The result's box in a world behind some calls. -/
structure BoxU (w wr : World) : Prop where
  bel : Below w.heap.size w wr
  box : BkU wr w.heap.size default
theorem BoxU.start (w : World) : BoxU w (w.alloc zeroU) := ⟨(Below.refl _ _).alloc (Nat.le_refl _) _, block_new w _⟩
theorem BoxU.next {w a b : World} (h : BoxU w a) (hb : Below a.heap.size a b) : BoxU w b := ⟨h.bel.trans (hb.mono h.bel.size), h.box.below hb h.box.lt⟩

theorem BoxU.stored {w a : World} (h : BoxU w a) (x : Crl) (o : Obj) : BkU ((set4 a w.heap.size (.string x.pr) (.int .i64 x.li) (.int .i64 x.st) (.int .i64 x.go)).alloc o) w.heap.size x ∧ Below w.heap.size w ((set4 a w.heap.size (.string x.pr) (.int .i64 x.li) (.int .i64 x.st) (.int .i64 x.go)).alloc o) := by
  have h1 := below_set4 h.bel (Nat.le_refl w.heap.size) (.string x.pr) (.int .i64 x.li) (.int .i64 x.st) (.int .i64 x.go)
  have h2 : BkU (set4 a w.heap.size (.string x.pr) (.int .i64 x.li) (.int .i64 x.st) (.int .i64 x.go)) w.heap.size x := h.box.set _ _ _ _
  exact ⟨h2.below ((Below.refl _ _).alloc (Nat.le_refl _) o) h2.lt, h1.alloc h1.size o⟩
set_option maxRecDepth 100000 in
set_option maxHeartbeats 4000000 in
theorem RuleOf_any (w : World) (l : List Crl) (v : Value) (k : ByteArray) (hl : Sl w 4 encU v l) (hw : ∀ x, x ∈ l → WfU x) (hk : k.size ≤ 9223372036854775807) :
    Calls Tryd.prog 10 #[v, .string k] w fun e w' => e = .returned (.tuple #[aggU (ruX l k), .bool (ruB l k), .int .i64 (ruF l k)]) ∧ Below w.heap.size w w' := by
  have HS0 := Lib.hid (BoxU.start w)
  have HC := Lib.hid (checkU_any (w.alloc zeroU) l v (hl.below HS0.out.bel (Nat.le_refl _)) hw)
  have HR := Lib.hid (fun W => isReq_any k W hk)
  have HU := Lib.hid (fun W (h : BoxU w W) => ruleOf_any W l v k (hl.below h.bel (Nat.le_refl _)))
  have HF : Hid (ruF l k = if checkU l = 0 then (if reqB k = true then 0 else 3) else checkU l) := Lib.hid rfl
  have HX : Hid (ruX l k = if ruF l k = 0 then outU l (ruI l k l.length) else default) := Lib.hid rfl
  have HB : Hid (ruB l k = (decide (ruF l k = 0) && (ruI l k l.length).isSome)) := Lib.hid rfl
  obtain ⟨X, hX⟩ : ∃ X, X = ruX l k := ⟨_, rfl⟩
  obtain ⟨B, hB⟩ : ∃ X, X = ruB l k := ⟨_, rfl⟩
  obtain ⟨F, hF⟩ : ∃ X, X = ruF l k := ⟨_, rfl⟩
  obtain ⟨C, hC⟩ : ∃ X, X = checkU l := ⟨_, rfl⟩
  obtain ⟨Q, hQ⟩ : ∃ X, X = reqB k := ⟨_, rfl⟩
  obtain ⟨Y, hY⟩ : ∃ X, X = outU l (ruI l k l.length) := ⟨_, rfl⟩
  obtain ⟨Z, hZ⟩ : ∃ X, X = (ruI l k l.length).isSome := ⟨_, rfl⟩
  rw [← hX, ← hB, ← hF]
  rw [← hX, ← hF, ← hY] at HX
  rw [← hB, ← hF, ← hZ] at HB
  rw [← hF, ← hC, ← hQ] at HF
  rw [← hC] at HC
  rw [← hQ] at HR
  rw [← hY, ← hZ] at HU
  clear hX hB hF hC hQ hY hZ hl hw hk
  obtain ⟨w0, hw0⟩ : ∃ w0, w0 = w.alloc zeroU := ⟨_, rfl⟩
  have HW0 : Hid (w.alloc (.cells #[.string ⟨#[]⟩, .int .i64 0, .int .i64 0, .int .i64 0] 25) = w0) := Lib.hid hw0.symm
  rw [← hw0] at HC HS0
  clear hw0
  go_enter Tryd.func10, Tryd.ntmps10
  go_upto_region 1 with (fail)
  rw [HW0.out]
  go_wp2_with fail
  refine HC.out.mono ?_
  rintro e w1 ⟨rfl, hb1⟩
  have HS1 := Lib.hid (HS0.out.next hb1)
  clear hb1 HC HW0
  by_cases hC0 : C = 0
  case neg =>
    obtain rfl : F = C := by rw [HF.out, if_neg hC0]
    obtain rfl : X = default := by rw [HX.out, if_neg hC0]
    obtain rfl : B = false := by rw [HB.out]; simp [hC0]
    obtain ⟨z0, z1, z2, z3⟩ := HS1.out.box.cells
    have zf0 := HS1.out.box.frz 0
    have zf1 := HS1.out.box.frz 1
    have zf2 := HS1.out.box.frz 2
    have zf3 := HS1.out.box.frz 3
    go_upto_region 3 with (fail)
    repeat (first | go_values | go_skip | go_guarded | go_step | go_upon)
    exact bodyPost_ret (v := .tuple #[.agg #[.string ⟨#[]⟩, .int .i64 0, .int .i64 0, .int .i64 0], .bool false, .int .i64 F]) (by simp [results, Tryd.results10, go_sem, z0, z1, z2, z3]) rfl ⟨rfl, below_set4 HS1.out.bel (Nat.le_refl _) _ _ _ _⟩
  subst hC0
  cases Q
  case false =>
    obtain rfl : F = 3 := by rw [HF.out]; rfl
    obtain rfl : X = default := by rw [HX.out]; rfl
    obtain rfl : B = false := by rw [HB.out]; rfl
    obtain ⟨z0, z1, z2, z3⟩ := HS1.out.box.cells
    have zf0 := HS1.out.box.frz 0
    have zf1 := HS1.out.box.frz 1
    have zf2 := HS1.out.box.frz 2
    have zf3 := HS1.out.box.frz 3
    go_wp2_with fail
    refine (HR.out _).mono ?_
    rintro e w2 ⟨rfl, rfl⟩
    go_upto_region 5 with (fail)
    repeat (first | go_values | go_skip | go_guarded | go_step | go_upon)
    exact bodyPost_ret (v := .tuple #[.agg #[.string ⟨#[]⟩, .int .i64 0, .int .i64 0, .int .i64 0], .bool false, .int .i64 3]) (by simp [results, Tryd.results10, go_sem, z0, z1, z2, z3]) rfl ⟨rfl, below_set4 HS1.out.bel (Nat.le_refl _) _ _ _ _⟩
  case true =>
    obtain rfl : F = 0 := by rw [HF.out]; rfl
    obtain rfl : X = Y := by rw [HX.out]; rfl
    obtain rfl : B = Z := by rw [HB.out]; rfl
    go_wp2_with fail
    refine (HR.out _).mono ?_
    rintro e w2 ⟨rfl, rfl⟩
    go_wp2_with fail
    refine (HU.out _ HS1.out).mono ?_
    rintro e w2 ⟨rfl, hb2⟩
    have HS2 := Lib.hid (HS1.out.next hb2)
    clear hb2
    have HA := Lib.hid (HS2.out.stored X (.cells #[.string X.pr, .int .i64 X.li, .int .i64 X.st, .int .i64 X.go] 25))
    obtain ⟨z0, z1, z2, z3⟩ := HS2.out.box.cells
    have zf0 := HS2.out.box.frz 0
    have zf1 := HS2.out.box.frz 1
    have zf2 := HS2.out.box.frz 2
    have zf3 := HS2.out.box.frz 3
    have hlt := HS2.out.box.lt
    go_upto_region 7 with (fail)
    repeat (first | go_values | go_skip | go_guarded | go_step | go_upon)
    obtain ⟨y0, y1, y2, y3⟩ := HA.out.1.cells
    exact bodyPost_ret (v := .tuple #[aggU X, .bool B, .int .i64 0]) (by simp [results, Tryd.results10, go_sem, y0, y1, y2, y3]) rfl ⟨rfl, HA.out.2⟩

set_option maxRecDepth 100000 in
set_option maxHeartbeats 4000000 in
theorem RuleOfR_any (w : World) (l : List Crl) (v : Value) (k : ByteArray) (hl : Sl w 4 encU v l) (hw : ∀ x, x ∈ l → WfU x) (hk : k.size ≤ 9223372036854775807) :
    Calls Tryd.prog 11 #[v, .string k] w fun e w' => e = .returned (.tuple #[aggU (ruX l k), .bool (ruB l k), .int .i64 (ruF l k)]) ∧ Below w.heap.size w w' := by
  have HS0 := Lib.hid (BoxU.start w)
  have HC := Lib.hid (checkUR_any (w.alloc zeroU) l v (hl.below HS0.out.bel (Nat.le_refl _)) hw)
  have HR := Lib.hid (fun W => isReqR_any k W hk)
  have HU := Lib.hid (fun W (h : BoxU w W) => ruleOfR_any W l v k (hl.below h.bel (Nat.le_refl _)))
  have HLT := Lib.hid (fun j ho => @ruI_lt l k j l.length ho)
  have HEL : Hid (∀ (W : World) (j : Nat) (x : Crl), BoxU w W → l[j]? = some x → ∃ b off cap, v = .slice (some ⟨b, off, none⟩) l.length cap ∧ l.length ≤ cap ∧ b < W.heap.size ∧ W.cell? ⟨b, off + j * 4, none⟩ = some (.string x.pr) ∧ W.cell? ⟨b, off + j * 4 + 1, none⟩ = some (.int .i64 x.li) ∧ W.cell? ⟨b, off + j * 4 + 2, none⟩ = some (.int .i64 x.st) ∧ W.cell? ⟨b, off + j * 4 + 3, none⟩ = some (.int .i64 x.go) ∧ b ≠ w.heap.size) := Lib.hid (fun W j x h hx => by
    obtain ⟨ao, cap, hv, hcap, _, _, hel⟩ := hl
    obtain ⟨b, off, rfl, hc⟩ := hel j x hx
    have hlt0 := World.block_lt_of_cell? w ⟨b, off + j * 4 + 0, none⟩ (hc 0 _ rfl)
    exact ⟨b, off, cap, hv, hcap, Nat.lt_of_lt_of_le hlt0 h.bel.size, (h.bel.cell (p := ⟨b, off + j * 4 + 0, none⟩) hlt0).trans (hc 0 _ rfl), (h.bel.cell (p := ⟨b, off + j * 4 + 1, none⟩) hlt0).trans (hc 1 _ rfl), (h.bel.cell (p := ⟨b, off + j * 4 + 2, none⟩) hlt0).trans (hc 2 _ rfl), (h.bel.cell (p := ⟨b, off + j * 4 + 3, none⟩) hlt0).trans (hc 3 _ rfl), Nat.ne_of_lt hlt0⟩)
  have HF : Hid (ruF l k = if checkU l = 0 then (if reqB k = true then 0 else 3) else checkU l) := Lib.hid rfl
  have HX : Hid (ruX l k = if ruF l k = 0 then outU l (ruI l k l.length) else default) := Lib.hid rfl
  have HB : Hid (ruB l k = (decide (ruF l k = 0) && (ruI l k l.length).isSome)) := Lib.hid rfl
  obtain ⟨X, hX⟩ : ∃ X, X = ruX l k := ⟨_, rfl⟩
  obtain ⟨B, hB⟩ : ∃ X, X = ruB l k := ⟨_, rfl⟩
  obtain ⟨F, hF⟩ : ∃ X, X = ruF l k := ⟨_, rfl⟩
  obtain ⟨C, hC⟩ : ∃ X, X = checkU l := ⟨_, rfl⟩
  obtain ⟨Q, hQ⟩ : ∃ X, X = reqB k := ⟨_, rfl⟩
  obtain ⟨O, hO⟩ : ∃ X, X = ruI l k l.length := ⟨_, rfl⟩
  rw [← hX, ← hB, ← hF]
  rw [← hX, ← hF, ← hO] at HX
  rw [← hB, ← hF, ← hO] at HB
  rw [← hF, ← hC, ← hQ] at HF
  rw [← hC] at HC
  rw [← hQ] at HR
  rw [← hO] at HU HLT
  clear hX hB hF hC hQ hO hl hw hk
  obtain ⟨w0, hw0⟩ : ∃ w0, w0 = w.alloc zeroU := ⟨_, rfl⟩
  have HW0 : Hid (w.alloc (.cells #[.string ⟨#[]⟩, .int .i64 0, .int .i64 0, .int .i64 0] 25) = w0) := Lib.hid hw0.symm
  rw [← hw0] at HC HS0
  clear hw0
  go_enter Tryd.func11, Tryd.ntmps11
  go_upto_region 1 with (fail)
  rw [HW0.out]
  go_wp2_with fail
  refine HC.out.mono ?_
  rintro e w1 ⟨rfl, hb1⟩
  have HS1 := Lib.hid (HS0.out.next hb1)
  clear hb1 HC HW0
  by_cases hC0 : C = 0
  case neg =>
    obtain rfl : F = C := by rw [HF.out, if_neg hC0]
    obtain rfl : X = default := by rw [HX.out, if_neg hC0]
    obtain rfl : B = false := by rw [HB.out]; simp [hC0]
    obtain ⟨z0, z1, z2, z3⟩ := HS1.out.box.cells
    have zf0 := HS1.out.box.frz 0
    have zf1 := HS1.out.box.frz 1
    have zf2 := HS1.out.box.frz 2
    have zf3 := HS1.out.box.frz 3
    go_upto_region 3 with (fail)
    repeat (first | go_values | go_skip | go_guarded | go_step | go_upon)
    exact bodyPost_ret (v := .tuple #[.agg #[.string ⟨#[]⟩, .int .i64 0, .int .i64 0, .int .i64 0], .bool false, .int .i64 F]) (by simp [results, Tryd.results11, go_sem, z0, z1, z2, z3]) rfl ⟨rfl, below_set4 HS1.out.bel (Nat.le_refl _) _ _ _ _⟩
  subst hC0
  cases Q
  case false =>
    obtain rfl : F = 3 := by rw [HF.out]; rfl
    obtain rfl : X = default := by rw [HX.out]; rfl
    obtain rfl : B = false := by rw [HB.out]; rfl
    obtain ⟨z0, z1, z2, z3⟩ := HS1.out.box.cells
    have zf0 := HS1.out.box.frz 0
    have zf1 := HS1.out.box.frz 1
    have zf2 := HS1.out.box.frz 2
    have zf3 := HS1.out.box.frz 3
    go_wp2_with fail
    refine (HR.out _).mono ?_
    rintro e w2 ⟨rfl, rfl⟩
    go_upto_region 5 with (fail)
    repeat (first | go_values | go_skip | go_guarded | go_step | go_upon)
    exact bodyPost_ret (v := .tuple #[.agg #[.string ⟨#[]⟩, .int .i64 0, .int .i64 0, .int .i64 0], .bool false, .int .i64 3]) (by simp [results, Tryd.results11, go_sem, z0, z1, z2, z3]) rfl ⟨rfl, below_set4 HS1.out.bel (Nat.le_refl _) _ _ _ _⟩
  case true =>
    obtain rfl : F = 0 := by rw [HF.out]; rfl
    have hX : X = outU l O := by rw [HX.out]; rfl
    obtain rfl : B = O.isSome := by rw [HB.out]; rfl
    go_wp2_with fail
    refine (HR.out _).mono ?_
    rintro e w2 ⟨rfl, rfl⟩
    go_wp2_with fail
    refine (HU.out _ HS1.out).mono ?_
    rintro e w2 ⟨rfl, hb2⟩
    have HS2 := Lib.hid (HS1.out.next hb2)
    clear hb2
    obtain ⟨z0, z1, z2, z3⟩ := HS2.out.box.cells
    have zf0 := HS2.out.box.frz 0
    have zf1 := HS2.out.box.frz 1
    have zf2 := HS2.out.box.frz 2
    have zf3 := HS2.out.box.frz 3
    have hlt := HS2.out.box.lt
    rcases O with _ | j
    case none =>
      obtain rfl : X = default := hX
      have hno : numO none = -1 := rfl
      rw [hno]
      clear hno
      go_upto_region 9 with (fail)
      repeat (first | go_values | go_skip | go_guarded | go_step | go_upon)
      exact bodyPost_ret (v := .tuple #[.agg #[.string ⟨#[]⟩, .int .i64 0, .int .i64 0, .int .i64 0], .bool false, .int .i64 0]) (by simp [results, Tryd.results11, go_sem, z0, z1, z2, z3]) rfl ⟨rfl, below_set4 HS2.out.bel (Nat.le_refl _) _ _ _ _⟩
    case some =>
      have hj := HLT.out j rfl
      obtain ⟨y, hy⟩ : ∃ y, l[j]? = some y := ⟨l[j]'(by omega), by simp [show j < l.length by omega]⟩
      have hXy : X = y := by rw [hX]; show l.getD j default = y; exact getD_of hy
      subst hXy
      obtain ⟨b, off, cap, rfl, hcap, hbw, c0, c1, c2, c3, hne⟩ := HEL.out w2 j X HS2.out hy
      have hno : numO (some j) = j := rfl
      rw [hno]
      have hjz : (j : Int) < (l.length : Int) := by omega
      clear hno hy hX
      go_upto_region 8 with (fail)
      repeat (first | go_values | go_skip | go_guarded | go_step | go_upon)
      exact bodyPost_ret (v := .tuple #[aggU X, .bool true, .int .i64 0]) (by simp [results, Tryd.results11, go_sem, z0, z1, z2, z3]) rfl ⟨rfl, below_set4 HS2.out.bel (Nat.le_refl _) _ _ _ _⟩
end Go.Proofs.YtmgbmoiefgfemaaDoor

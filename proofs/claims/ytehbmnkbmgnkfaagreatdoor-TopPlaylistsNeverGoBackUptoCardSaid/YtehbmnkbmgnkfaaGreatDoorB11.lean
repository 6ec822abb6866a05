/- need, until and purged: the walks. -/
import Derived.Test.YtehbmnkbmgnkfaaGreatDoorB09
import Derived.Test.YtehbmnkbmgnkfaaGreatDoorB10
import Derived.Test.YtehbmnkbmgnkfaaGreatDoorB03
import Derived.Sort.Walk0
import Derived.Test.YtehbmnkbmgnkfaaGreatDoorB08
namespace Go.Proofs.YtehbmnkbmgnkfaaGreatDoor
open Go.RowKit

/-- The room that an answer needs. -/
def needA (x : Ans) : Int := if x.no = true then 1 else x.si
abbrev aggA (x : Ans) : Value := .agg #[.int .i64 x.ve, .int .i64 x.bo, .int .i64 x.si, .bool x.no, .string x.fr]
theorem need_any (w : World) (x : Ans) : Calls Tryz.prog 105 #[aggA x] w fun r w' => r = .returned (.int .i64 (needA x)) ∧ Below w.heap.size w w' := by
  have hB : Below w.heap.size w (w.alloc (.cells #[.int .i64 x.ve, .int .i64 x.bo, .int .i64 x.si, .bool x.no, .string x.fr] 141)) := (Below.refl _ w).alloc (Nat.le_refl _) _
  have HB := Lib.hid hB
  cases hn : x.no
  · have hv : Hid (x.si = needA x) := Lib.hid (by unfold needA; rw [if_neg (by simp [hn])])
    clear hB
    rw [hn] at HB
    go_enter Tryz.func105, Tryz.ntmps105
    go_wp2
    go_ret
    exact ⟨ret_int hv.out, HB.out⟩
  · have hv : Hid (1 = needA x) := Lib.hid (by unfold needA; rw [if_pos hn])
    clear hB
    rw [hn] at HB
    go_enter Tryz.func105, Tryz.ntmps105
    go_wp2
    go_ret
    exact ⟨ret_int hv.out, HB.out⟩
/-- Up to when an answer is fresh, or usable. -/
def untM (r : Crl) (x : Ans) (stale : Bool) : Int := if x.no = true then x.bo + r.go else if stale = true then x.bo + r.li + r.st else x.bo + r.li
theorem until_any (w : World) (r : Crl) (x : Ans) (stale : Bool) (h1 : 0 ≤ x.bo ∧ x.bo ≤ 1000000000000000) (h2 : 0 ≤ r.li ∧ r.li ≤ 1000000000) (h3 : 0 ≤ r.st ∧ r.st ≤ 1000000000) (h4 : 0 ≤ r.go ∧ r.go ≤ 1000000000) :
    Calls Tryz.prog 92 #[aggU r, aggA x, .bool stale] w fun e w' => e = .returned (.int .i64 (untM r x stale)) ∧ Below w.heap.size w w' := by
  obtain ⟨a1, a2⟩ := h1
  obtain ⟨b1, b2⟩ := h2
  obtain ⟨c1, c2⟩ := h3
  obtain ⟨d1, d2⟩ := h4
  have hB : Below w.heap.size w ((w.alloc (.cells #[.string r.pr, .int .i64 r.li, .int .i64 r.st, .int .i64 r.go] 27)).alloc (.cells #[.int .i64 x.ve, .int .i64 x.bo, .int .i64 x.si, .bool x.no, .string x.fr] 141)) := ((Below.refl _ w).alloc (Nat.le_refl _) _).alloc (by simp) _
  have HB := Lib.hid hB
  clear hB
  cases hn : x.no
  case true =>
    have hv : Hid (x.bo + r.go = untM r x stale) := Lib.hid (by unfold untM; rw [if_pos hn])
    rw [hn] at HB
    go_enter Tryz.func92, Tryz.ntmps92
    go_wp2
    go_ret
    exact ⟨ret_int hv.out, HB.out⟩
  case false =>
    rw [hn] at HB
    cases stale
    case true =>
      have hv : Hid (x.bo + r.li + r.st = untM r x true) := Lib.hid (by unfold untM; rw [if_neg (by simp [hn]), if_pos rfl])
      go_enter Tryz.func92, Tryz.ntmps92
      go_wp2
      go_ret
      exact ⟨ret_int hv.out, HB.out⟩
    case false =>
      have hv : Hid (x.bo + r.li = untM r x false) := Lib.hid (by unfold untM; rw [if_neg (by simp [hn]), if_neg (by simp)])
      go_enter Tryz.func92, Tryz.ntmps92
      go_wp2
      go_ret
      exact ⟨ret_int hv.out, HB.out⟩
/-- The last purge of a key, among the first n. -/
def purI (l : List Pur) (k : ByteArray) (t : Int) : Nat → Int
  | 0 => -1
  | n + 1 => if (((l.getD n ⟨0, ⟨#[]⟩⟩).ke.toList == k.toList) && decide ((l.getD n ⟨0, ⟨#[]⟩⟩).ti ≤ t)) = true then max (purI l k t n) (l.getD n ⟨0, ⟨#[]⟩⟩).ti else purI l k t n
def purM (l : List Pur) (k : ByteArray) (t : Int) : Int := purI l k t l.length
theorem purI_next {l : List Pur} {k : ByteArray} {t : Int} {n : Nat} {x : Pur} (hx : l[n]? = some x) : purI l k t (n + 1) = if ((x.ke.toList == k.toList) && decide (x.ti ≤ t)) = true then max (purI l k t n) x.ti else purI l k t n := by
  rw [purI, List.getD_eq_getElem?_getD, hx, Option.getD_some]
set_option maxRecDepth 100000 in
set_option maxHeartbeats 2000000 in
theorem purged_any (w : World) (Q : Nat) (l : List Pur) (v : Value) (k : ByteArray) (t : Int) (hl : Sl w 2 encG v l) (h3 : w.cell? ⟨Q, 3, none⟩ = some v) (h8 : w.cell? ⟨Q, 8, none⟩ = some (.int .i64 t)) :
    Calls Tryz.prog 104 #[.pointer (some ⟨Q, 0, none⟩), .string k] w fun e w' => e = .returned (.int .i64 (purM l k t)) ∧ Below w.heap.size w w' := by
  obtain ⟨ao, cap, rfl, hcap, hmax, hnil, hel⟩ := hl
  unfold maxLen at hmax
  have HEL := Lib.hid hel
  have hQ := World.block_lt_of_cell? w _ h8
  have H8 := Lib.hid h8
  clear hel h8
  go_enter Tryz.func104, Tryz.ntmps104
  go_wp2_with fail
  go_loopg [5, 7, 14] l.length (fun gg s5 s7 s14 wr => ∃ i : Nat, i ≤ l.length ∧ l.length - i ≤ gg ∧ s14 = .int .i64 i ∧ s5 = .int .i64 (purI l k t i) ∧ Aside (Below w.heap.size w wr))
  case atStart => exact ⟨0, by omega, by omega, rfl, rfl, (show Aside _ from Below.refl _ _)⟩
  case round =>
    obtain ⟨wq, rfl⟩ : ∃ wq : World, wq = wr := ⟨_, rfl⟩
    obtain ⟨i, hi, hgi, rfl, rfl, BW⟩ := hrel
    have HB := Lib.hid BW.out
    clear BW
    by_cases hil : i < l.length
    · have hiz : (i : Int) < (l.length : Int) := by omega
      obtain ⟨x, hx⟩ : ∃ x, l[i]? = some x := ⟨l[i], by simp [hil]⟩
      obtain ⟨b, off, rfl, hc⟩ := HEL.out i x hx
      have p0 : w.cell? ⟨b, off + i * 2, none⟩ = some (.int .i64 x.ti) := hc 0 _ rfl
      have p1 : w.cell? ⟨b, off + i * 2 + 1, none⟩ = some (.string x.ke) := hc 1 _ rfl
      have c0 := (HB.out.cell (p := ⟨b, off + i * 2, none⟩) (World.block_lt_of_cell? w _ p0)).trans p0
      have c1 := (HB.out.cell (p := ⟨b, off + i * 2 + 1, none⟩) (World.block_lt_of_cell? w _ p1)).trans p1
      have HNX := Lib.hid (purI_next (k := k) (t := t) hx)
      obtain ⟨w2, hw2⟩ : ∃ w2, w2 = wq.alloc (.cells #[.int .i64 x.ti, .string x.ke] 130) := ⟨_, rfl⟩
      have HB2 : Hid (Below w.heap.size w w2) := Lib.hid (by rw [hw2]; exact HB.out.alloc HB.out.size _)
      have hbk : w2.heap[wq.heap.size]? = some (.cells #[.int .i64 x.ti, .string x.ke] 130 (0, 0)) := by rw [hw2]; exact block_new wq _
      have d0 : w2.cell? ⟨wq.heap.size, 0, none⟩ = some (.int .i64 x.ti) := (cell_of_block (i := 0) hbk).trans rfl
      have d1 : w2.cell? ⟨wq.heap.size, 1, none⟩ = some (.string x.ke) := (cell_of_block (i := 1) hbk).trans rfl
      have q8 : w2.cell? ⟨Q, 8, none⟩ = some (.int .i64 t) := (HB2.out.cell (p := ⟨Q, 8, none⟩) hQ).trans H8.out
      have HW2 := Lib.hid hw2
      obtain ⟨V, hV⟩ : ∃ V, V = purI l k t i := ⟨_, rfl⟩
      rw [← hV] at HNX ⊢
      clear hx hc p0 p1 hbk hw2 hV
      go_upto_region 5 with (fail)
      rw [← HW2.out]
      obtain ⟨N, hN⟩ : ∃ N, N = wq.heap.size := ⟨_, rfl⟩
      rw [← hN] at d0 d1 ⊢
      clear hN
      cases e1 : (x.ke.toList == k.toList)
      case false =>
        have HN2 : Hid (purI l k t (i + 1) = V) := Lib.hid (by rw [HNX.out, e1]; rfl)
        go_quiet (fail)
        go_wp2
        go_roundg (l.length - (i + 1))
        case measure => omega
        case rel => exact ⟨i + 1, by omega, by omega, by go_num, by rw [HN2.out], below_drewN HB2.out _⟩
      case true =>
        by_cases h5 : x.ti ≤ t
        · have HN2 : Hid (purI l k t (i + 1) = max V x.ti) := Lib.hid (by rw [HNX.out, e1]; simp [h5])
          go_quiet (fail)
          obtain ⟨w3, hw3⟩ : ∃ w3, w3 = w2.drewN nq := ⟨_, rfl⟩
          have HB3 : Hid (Below w.heap.size w w3) := Lib.hid (by rw [hw3]; exact below_drewN HB2.out nq)
          replace d0 : w3.cell? ⟨N, 0, none⟩ = some (.int .i64 x.ti) := by rw [hw3]; exact d0
          rw [← hw3]
          clear hw3
          go_wp2
          go_roundg (l.length - (i + 1))
          case measure => omega
          case rel => exact ⟨i + 1, by omega, by omega, by go_num, by rw [HN2.out], HB3.out⟩
        · have HN2 : Hid (purI l k t (i + 1) = V) := Lib.hid (by rw [HNX.out, e1]; simp [h5])
          go_quiet (fail)
          go_wp2
          go_roundg (l.length - (i + 1))
          case measure => omega
          case rel => exact ⟨i + 1, by omega, by omega, by go_num, by rw [HN2.out], below_drewN HB2.out _⟩
    · obtain rfl : i = l.length := by omega
      go_wp2
      go_ret
      exact ⟨rfl, HB.out⟩
end Go.Proofs.YtehbmnkbmgnkfaaGreatDoor

/- longestAgo: the walk. -/
namespace Go.Proofs.YtehbmnkbmgnkfaaGreatDoor
open Go.RowKit

theorem MapH.look1 {w : World} {b n : Nat} {f : ByteArray → Hld} {ks : List ByteArray} (h : MapH w b n f ks) (k : ByteArray) (hm : k ∈ ks) :
    (Instr.lookup 133 (.map (some b)) (.string k) false).run Tryz.prog w = .ok (heldV (f k)) w := by
  obtain ⟨g1, g2, D, h1, h2, h3, h4, h5⟩ := h
  obtain ⟨v, ps, hr, hv⟩ := h1.lookup keyedS Tryz.underlying133 (zeroH w) (heldR_mk default) (keyOf_S (g2 k hm))
  obtain ⟨c, rfl, hc⟩ := heldR_inv hv
  rw [h3 k hm] at hc
  rw [datH_inj hc]
  exact hr
/-- Key y goes before key x: it was used longer ago, or as long ago and is less. -/
def lgB (f : ByteArray → Hld) (y x : ByteArray) : Bool := decide ((f y).us < (f x).us) || ((f y).us == (f x).us && Op.bytesLess y.toList x.toList)
theorem lgB_tr {f : ByteArray → Hld} {x y z : ByteArray} (h : lgB f x y = true) (g : lgB f y z = true) : lgB f x z = true := by
  unfold lgB at *
  rw [bytesLess_eq] at *
  simp only [Bool.or_eq_true, Bool.and_eq_true, decide_eq_true_eq, beq_iff_eq] at *
  rcases h with h | ⟨h, h'⟩ <;> rcases g with g | ⟨g, g'⟩
  · exact .inl (by omega)
  · exact .inl (by omega)
  · exact .inl (by omega)
  · exact .inr ⟨by omega, List.lt_trans h' g'⟩
/-- The key that was used longest ago. -/
def LonM (f : ByteArray → Hld) (ks : List ByteArray) (x : ByteArray) : Prop := x ∈ ks ∧ ∀ y, y ∈ ks → lgB f y x = false
def LonS (f : ByteArray → Hld) (ks left : List ByteArray) (x : ByteArray) (first : Bool) : Prop := (first = true ∧ left = ks) ∨ (first = false ∧ x ∈ ks ∧ ∀ y, y ∈ ks → ¬ y ∈ left → lgB f y x = false)
theorem LonS.fin {f : ByteArray → Hld} {ks : List ByteArray} {x : ByteArray} {first : Bool} (h : LonS f ks [] x first) (hne : ks ≠ []) : LonM f ks x := by
  rcases h with ⟨_, h⟩ | ⟨_, h1, h2⟩
  · exact absurd h.symm hne
  · exact ⟨h1, fun y hy => h2 y hy (by simp)⟩
theorem lgB_self (f : ByteArray → Hld) (x : ByteArray) : lgB f x x = false := by
  unfold lgB
  rw [bytesLess_eq]
  simp
theorem LonS.take {f : ByteArray → Hld} {ks left : List ByteArray} {x k : ByteArray} {first : Bool} (h : LonS f ks left x first) (hk : k ∈ ks) (hx : first = true ∨ lgB f k x = true) : LonS f ks (rmv k left) k false := by
  refine .inr ⟨rfl, hk, fun y hy hn => ?_⟩
  rw [mem_rmv] at hn
  by_cases e : y = k
  · rw [e]; exact lgB_self f k
  · have hyl : ¬ y ∈ left := fun hl => hn ⟨hl, e⟩
    rcases h with ⟨_, h⟩ | ⟨hf, h1, h2⟩
    · rw [h] at hyl; exact absurd hy hyl
    · rcases hx with hx | hx
      · rw [hf] at hx; cases hx
      · cases hb : lgB f y k
        · rfl
        · have := lgB_tr hb hx
          rw [h2 y hy hyl] at this
          cases this
theorem LonS.leave {f : ByteArray → Hld} {ks left : List ByteArray} {x k : ByteArray} (h : LonS f ks left x false) (hx : lgB f k x = false) : LonS f ks (rmv k left) x false := by
  rcases h with ⟨h, _⟩ | ⟨hf, h1, h2⟩
  · cases h
  · refine .inr ⟨rfl, h1, fun y hy hn => ?_⟩
    by_cases e : y = k
    · rw [e]; exact hx
    · exact h2 y hy (fun hl => hn (mem_rmv.2 ⟨hl, e⟩))
theorem fieldUs (w : World) (a1 a2 a3 a6 : Int) (a4 : Bool) (a5 : ByteArray) : (Instr.field 180 (.agg #[.int .i64 a1, .int .i64 a2, .int .i64 a3, .bool a4, .string a5, .int .i64 a6]) 1).run Tryz.prog w = .ok (.int .i64 a6) w := by kernel_rfl
theorem fieldAn (w : World) (a1 a2 a3 a6 : Int) (a4 : Bool) (a5 : ByteArray) : (Instr.field 180 (.agg #[.int .i64 a1, .int .i64 a2, .int .i64 a3, .bool a4, .string a5, .int .i64 a6]) 0).run Tryz.prog w = .ok (.agg #[.int .i64 a1, .int .i64 a2, .int .i64 a3, .bool a4, .string a5]) w := by kernel_rfl
def LonP (w : World) (f : ByteArray → Hld) (ks : List ByteArray) : Ending → World → Prop := fun e w' => ∃ x, e = .returned (.string x) ∧ LonM f ks x ∧ Below w.heap.size w w'
set_option maxRecDepth 100000 in
set_option maxHeartbeats 4000000 in
theorem longestAgo_any (w : World) (b n : Nat) (f : ByteArray → Hld) (ks : List ByteArray) (hm : MapH w b n f ks) (hne : ks ≠ []) :
    Calls Tryz.prog 106 #[.map (some b)] w (LonP w f ks) := by
  have HNE := Lib.hid hne
  have hbl := hm.lt
  have HMH := Lib.hid hm
  obtain ⟨wi, hrg, hrv, hgi, hsi⟩ := hm.range
  have HRI : Hid (RngH wi b w.heap.size n f ks ks) := Lib.hid hrv
  have HBI : Hid (Below w.heap.size w wi) := Lib.hid ((Below.refl _ w).grown hgi (Nat.le_refl _) (fun i hi => by cases hi))
  obtain ⟨R, hR⟩ : ∃ R, R = w.heap.size := ⟨_, rfl⟩
  rw [← hR] at hrg HRI
  have HR := Lib.hid hR
  have HBL := Lib.hid hbl
  clear hne hm hrv hgi hsi hR hbl
  unfold LonP
  go_enter Tryz.func106, Tryz.ntmps106
  go_wp2
  go_loopg [3, 4, 5, 6] ks.length (fun gg s3 s4 s5 s6 wr => ∃ (left : List ByteArray) (x : ByteArray) (first : Bool), left.length ≤ gg ∧ s3 = .string x ∧ s4 = .bool first ∧ Aside (RngH wr b R n f ks left) ∧ Aside (LonS f ks left x first) ∧ Aside (Below w.heap.size w wr))
  case atStart => exact ⟨ks, _, true, Nat.le_refl _, rfl, rfl, (show Aside _ from HRI.out), (show Aside (LonS _ _ _ _ _) from Or.inl ⟨rfl, rfl⟩), (show Aside _ from HBI.out)⟩
  case round =>
    obtain ⟨wq, rfl⟩ : ∃ wq : World, wq = wr := ⟨_, rfl⟩
    obtain ⟨left, x, first, hgl, rfl, rfl, RV, FS, BU⟩ := hrel
    rcases RV.out.step 0 with ⟨hnil, hrun⟩ | ⟨v, wn, hv, hrun, hrv, hgr, hsz, hen⟩
    · have HW : Hid (LonM f ks x) := Lib.hid (LonS.fin (by have h := FS.out; rw [hnil] at h; exact h) HNE.out)
      have HB := Lib.hid BU.out
      clear hnil BU FS RV
      go_wp2
      go_ret
      exact ⟨x, rfl, HW.out, HB.out⟩
    have hvk := RV.out.2.1 v hv
    have hrle := rmv_lt hv
    have HBV : Hid (Below w.heap.size w wn) := Lib.hid (BU.out.grown hgr (by have := BU.out.size; have := HR.out; omega) (fun j hj => by cases hj; have := HR.out; omega))
    obtain ⟨w2, hw2⟩ : ∃ w2, w2 = wn.alloc (.cells #[.int .i64 (f v).an.ve, .int .i64 (f v).an.bo, .int .i64 (f v).an.si, .bool (f v).an.no, .string (f v).an.fr, .int .i64 (f v).us] 180) := ⟨_, rfl⟩
    have HB2 : Hid (Below w.heap.size w w2) := Lib.hid (by rw [hw2]; exact HBV.out.alloc HBV.out.size _)
    have HM2 : Hid (MapH w2 b n f ks) := Lib.hid (HMH.out.same (HB2.out.block b HBL.out))
    have HR2 : Hid (RngH w2 b R n f ks (rmv v left)) := Lib.hid (by rw [hw2]; exact hrv.kept (World.grownBy_alloc wn _ none) (by simp) (by simp))
    have hbk : w2.heap[wn.heap.size]? = some (.cells #[.int .i64 (f v).an.ve, .int .i64 (f v).an.bo, .int .i64 (f v).an.si, .bool (f v).an.no, .string (f v).an.fr, .int .i64 (f v).us] 180 (0, 0)) := by rw [hw2]; exact block_new wn _
    have d5 : w2.cell? ⟨wn.heap.size, 5, none⟩ = some (.int .i64 (f v).us) := (cell_of_block (i := 5) hbk).trans rfl
    have HW2 := Lib.hid hw2
    have HTK := Lib.hid (fun h => FS.out.take (k := v) hvk h)
    have HLV := Lib.hid (fun (h : first = false) => (show LonS f ks left x false by rw [← h]; exact FS.out).leave (k := v))
    have HXK : Hid (first = false → x ∈ ks) := Lib.hid (fun h => by
      rcases FS.out with ⟨h1, _⟩ | ⟨_, h1, _⟩
      · rw [h] at h1; cases h1
      · exact h1)
    have HLG : Hid (lgB f v x = (decide ((f v).us < (f x).us) || ((f v).us == (f x).us && Op.bytesLess v.toList x.toList))) := Lib.hid rfl
    have hen2 : (Instr.entry (.pointer (some ⟨R, 0, none⟩))).run Tryz.prog wn = .ok (.tuple #[.string v, .agg #[.int .i64 (f v).an.ve, .int .i64 (f v).an.bo, .int .i64 (f v).an.si, .bool (f v).an.no, .string (f v).an.fr, .int .i64 (f v).us]]) wn := hen
    have hrun2 : (Instr.next (.pointer (some ⟨R, 0, none⟩)) false 0).run Tryz.prog wq = .ok (.tuple #[.bool true, .string v, .agg #[.int .i64 (f v).an.ve, .int .i64 (f v).an.bo, .int .i64 (f v).an.si, .bool (f v).an.no, .string (f v).an.fr, .int .i64 (f v).us]]) wn := hrun
    have hle : (rmv v left).length + 1 ≤ left.length := hrle
    clear hrv hgr hsz RV FS BU hv hvk hbk hw2 hen hrun hrle HRI
    go_upto_region 5 with (fail)
    rw [← HW2.out]
    obtain ⟨NN, hNN⟩ : ∃ NN, NN = wn.heap.size := ⟨_, rfl⟩
    rw [← hNN] at d5 ⊢
    clear hNN
    cases first
    case true =>
      go_wp2
      go_roundg (rmv v left).length
      case measure => omega
      case rel => exact ⟨rmv v left, v, false, Nat.le_refl _, rfl, rfl, (show Aside _ from HR2.out), (show Aside _ from HTK.out (Or.inl (by trivial))), (show Aside _ from HB2.out)⟩
    case false =>
      have hfd := fieldUs
      have hlk : (Instr.lookup 133 (.map (some b)) (.string x) false).run Tryz.prog w2 = .ok (.agg #[.int .i64 (f x).an.ve, .int .i64 (f x).an.bo, .int .i64 (f x).an.si, .bool (f x).an.no, .string (f x).an.fr, .int .i64 (f x).us]) w2 := HM2.out.look1 x (HXK.out rfl)
      generalize (f x).an.ve = x1 at hlk
      generalize (f x).an.bo = x2 at hlk
      generalize (f x).an.si = x3 at hlk
      generalize (f x).an.no = x4 at hlk
      generalize (f x).an.fr = x5 at hlk
      obtain ⟨ux, hux⟩ : ∃ u, u = (f x).us := ⟨_, rfl⟩
      obtain ⟨uv, huv⟩ : ∃ u, u = (f v).us := ⟨_, rfl⟩
      rw [← hux, ← huv] at HLG
      rw [← hux] at hlk
      rw [← huv] at d5 ⊢
      clear hux huv hrun2 hen2
      by_cases h1 : uv < ux
      · have hb : Hid (lgB f v x = true) := Lib.hid (by rw [HLG.out]; simp [h1])
        go_wp2
        go_roundg (rmv v left).length
        case measure => omega
        case rel => exact ⟨rmv v left, v, false, Nat.le_refl _, rfl, rfl, (show Aside _ from HR2.out), (show Aside _ from HTK.out (.inr hb.out)), (show Aside _ from HB2.out)⟩
      · by_cases h2 : uv = ux
        · have h2b : (uv == ux) = true := by simpa using h2
          cases h3 : Op.bytesLess v.toList x.toList
          · have hb : Hid (lgB f v x = false) := Lib.hid (by rw [HLG.out]; simp [h1, h3])
            clear h2
            go_wp2
            go_roundg (rmv v left).length
            case measure => omega
            case rel => exact ⟨rmv v left, x, false, Nat.le_refl _, rfl, rfl, (show Aside _ from HR2.out), (show Aside _ from HLV.out (by trivial) hb.out), (show Aside _ from HB2.out)⟩
          · have hb : Hid (lgB f v x = true) := Lib.hid (by rw [HLG.out]; simp [h2b, h3])
            clear h2
            go_wp2
            go_roundg (rmv v left).length
            case measure => omega
            case rel => exact ⟨rmv v left, v, false, Nat.le_refl _, rfl, rfl, (show Aside _ from HR2.out), (show Aside _ from HTK.out (.inr hb.out)), (show Aside _ from HB2.out)⟩
        · have h2b : (uv == ux) = false := by simpa using h2
          have hb : Hid (lgB f v x = false) := Lib.hid (by rw [HLG.out]; simp [h1, h2b])
          clear h2
          go_wp2
          go_roundg (rmv v left).length
          case measure => omega
          case rel => exact ⟨rmv v left, x, false, Nat.le_refl _, rfl, rfl, (show Aside _ from HR2.out), (show Aside _ from HLV.out (by trivial) hb.out), (show Aside _ from HB2.out)⟩
end Go.Proofs.YtehbmnkbmgnkfaaGreatDoor

/- The blocks in which the caches lie: each has a part of its own; what one step changes, and what stays. -/
namespace Go.Proofs.YtehbmnkbmgnkfaaGreatDoor
open Go.RowKit

/-- Parts by number: 0 the world, 1 the row of caches, 2 the answers to gets, 3 the queue; of cache i: itself, its map, its row of asks; of ask j: itself, its row of waiters. -/
abbrev rWl : Nat := 0
abbrev rSs : Nat := 1
abbrev rGo : Nat := 2
abbrev rQu : Nat := 3
abbrev rSt (i : Nat) : Nat := 4 + 5 * i
abbrev rMp (i : Nat) : Nat := 5 + 5 * i
abbrev rSa (i : Nat) : Nat := 6 + 5 * i
abbrev rAk (j : Nat) : Nat := 7 + 5 * j
abbrev rWa (j : Nat) : Nat := 8 + 5 * j
abbrev Mem := Nat → Option (Nat × Obj)
def upM (M : Mem) (r : Nat) (x : Option (Nat × Obj)) : Mem := fun q => if q = r then x else M q
theorem upM_same (M : Mem) (r : Nat) (x : Option (Nat × Obj)) : upM M r x r = x := if_pos rfl
theorem upM_other (M : Mem) {r q : Nat} (x : Option (Nat × Obj)) (h : q ≠ r) : upM M r x q = M q := if_neg h
/-- The parts lie in blocks of their own. -/
structure Mm (W : World) (B : Nat) (M : Mem) : Prop where
  at_ : ∀ r b o, M r = some (b, o) → B ≤ b ∧ W.heap[b]? = some o
  inj : ∀ r q b o o', M r = some (b, o) → M q = some (b, o') → r = q
  base : B ≤ W.heap.size
section
variable {W W' : World} {B : Nat} {M : Mem}
theorem Mm.lt (h : Mm W B M) {r b : Nat} {o : Obj} (hr : M r = some (b, o)) : b < W.heap.size := (Array.getElem?_eq_some_iff.1 (h.at_ r b o hr).2).1
theorem Mm.keep (h : Mm W B M) (hs : W.heap.size ≤ W'.heap.size) (hk : ∀ r b o, M r = some (b, o) → W'.heap[b]? = W.heap[b]?) : Mm W' B M :=
  ⟨fun r b o hr => ⟨(h.at_ r b o hr).1, (hk r b o hr).trans (h.at_ r b o hr).2⟩, h.inj, Nat.le_trans h.base hs⟩
theorem Mm.below (h : Mm W B M) (hb : Below W.heap.size W W') : Mm W' B M := h.keep hb.size fun _ b _ hr => hb.block b (h.lt hr)
theorem Mm.put (h : Mm W B M) (hs : W.heap.size ≤ W'.heap.size) {r b' : Nat} {o' : Obj} (hb : B ≤ b') (ho : W'.heap[b']? = some o') (hk : ∀ q b o, q ≠ r → M q = some (b, o) → W'.heap[b]? = W.heap[b]? ∧ b ≠ b') : Mm W' B (upM M r (some (b', o'))) where
  at_ q b o hq := by
    by_cases e : q = r
    · subst e
      rw [upM_same] at hq
      cases hq
      exact ⟨hb, ho⟩
    · rw [upM_other _ _ e] at hq
      exact ⟨(h.at_ q b o hq).1, (hk q b o e hq).1.trans (h.at_ q b o hq).2⟩
  inj q p b o o' hq hp := by
    by_cases e : q = r
    · by_cases f : p = r
      · rw [e, f]
      · subst e
        rw [upM_same] at hq
        rw [upM_other _ _ f] at hp
        cases hq
        exact absurd rfl (hk p _ _ f hp).2
    · rw [upM_other _ _ e] at hq
      by_cases f : p = r
      · subst f
        rw [upM_same] at hp
        cases hp
        exact absurd rfl (hk q _ _ e hq).2
      · rw [upM_other _ _ f] at hp
        exact h.inj q p b o o' hq hp
  base := Nat.le_trans h.base hs
theorem Mm.drop (h : Mm W B M) (hs : W.heap.size ≤ W'.heap.size) {r : Nat} (hk : ∀ q b o, q ≠ r → M q = some (b, o) → W'.heap[b]? = W.heap[b]?) : Mm W' B (upM M r none) where
  at_ q b o hq := by
    by_cases e : q = r
    · subst e; rw [upM_same] at hq; cases hq
    · rw [upM_other _ _ e] at hq
      exact ⟨(h.at_ q b o hq).1, (hk q b o e hq).trans (h.at_ q b o hq).2⟩
  inj q p b o o' hq hp := by
    by_cases e : q = r
    · subst e; rw [upM_same] at hq; cases hq
    · by_cases f : p = r
      · subst f; rw [upM_same] at hp; cases hp
      · rw [upM_other _ _ e] at hq
        rw [upM_other _ _ f] at hp
        exact h.inj q p b o o' hq hp
  base := Nat.le_trans h.base hs
/-- One block is turned. -/
theorem Mm.onl (h : Mm W B M) {r b : Nat} {o o' : Obj} (hr : M r = some (b, o)) (ho : Onl b W W') (hb : W'.heap[b]? = some o') : Mm W' B (upM M r (some (b, o'))) :=
  h.put ho.size (h.at_ r b o hr).1 hb fun q c p hq hc => by
    have hne : c ≠ b := fun e => hq (by subst e; exact h.inj q r c p o hc hr)
    exact ⟨World.grownBy.block ho c (h.lt hc) (fun e => hne (by simpa using e)), hne⟩
/-- A cell is stored. -/
theorem Mm.set (h : Mm W B M) {r b : Nat} {cs : Array Value} {T : TypeId} (hr : M r = some (b, .cells cs T (0, 0))) (i : Nat) (v : Value) : Mm (W.setCell ⟨b, i, none⟩ v) B (upM M r (some (b, .cells (cs.setIfInBounds i v) T (0, 0)))) := by
  refine h.onl hr (Onl.set b W i v) ?_
  have hc := (h.at_ _ _ _ hr).2
  rw [setCell_eq_setRow W b i cs T (0, 0) v hc]
  exact setRow_heap W b cs _ T (0, 0) hc
/-- A block is laid for a part that had none, or another. -/
theorem Mm.new (h : Mm W B M) (r : Nat) (o : Obj) : Mm (W.alloc o) B (upM M r (some (W.heap.size, o))) :=
  h.put (by simp) h.base (block_new W o) fun q b p _ hq => ⟨Below.heap_alloc W o b (h.lt hq), Nat.ne_of_lt (h.lt hq)⟩
/-- A slice that lies in a part. -/
def OwnM {α : Type} (x : Option (Nat × Obj)) (E : TypeId) (k : Nat) (enc : α → List Value) (v : Value) (l : List α) : Prop :=
  (v = .slice none 0 0 ∧ l = [] ∧ x = none) ∨ ∃ g cap cur, v = .slice (some ⟨g, 0, none⟩) l.length cap ∧ x = some (g, .cells cur E (0, 0)) ∧ l.length ≤ cap ∧ cap ≤ maxLen ∧ cur.size = cap * k ∧ cur.toList.take (l.length * k) = l.flatMap enc
theorem OwnM.own {α : Type} (h : Mm W B M) {r k : Nat} {E : TypeId} {enc : α → List Value} {v : Value} {l : List α} (ho : OwnM (M r) E k enc v l) (hk : ∀ x, (enc x).length = k) : Own W B E k enc v l := by
  rcases ho with ⟨rfl, rfl, _⟩ | ⟨g, cap, cur, hv, hx, h1, h2, h3, h4⟩
  · exact Own.nil
  · obtain ⟨hb, hc⟩ := h.at_ _ _ _ hx
    exact ⟨flatMap_len hk l, .inr ⟨g, cap, cur, hv, hb, hc, h1, h2, h3, h4⟩⟩
theorem OwnM.off {α : Type} (h : Mm W B M) {r q k b : Nat} {E : TypeId} {enc : α → List Value} {v : Value} {l : List α} {o : Obj} (ho : OwnM (M r) E k enc v l) (hq : M q = some (b, o)) (hne : q ≠ r) : offB b v := by
  rcases ho with ⟨rfl, _⟩ | ⟨g, cap, cur, rfl, hx, _⟩
  · exact offB.nil b
  · exact offB.mk (fun e => hne (by subst e; exact h.inj q r g o _ hq hx))
theorem OwnM.of_own {α : Type} {k : Nat} {E : TypeId} {enc : α → List Value} {v : Value} {l : List α} (h : Own W B E k enc v l) : (v = .slice none 0 0 ∧ OwnM none E k enc v l) ∨ ∃ g o cap, v = .slice (some ⟨g, 0, none⟩) l.length cap ∧ B ≤ g ∧ W.heap[g]? = some o ∧ OwnM (some (g, o)) E k enc v l := by
  obtain ⟨h1, h2⟩ := h
  rcases h2 with ⟨rfl, h2⟩ | ⟨g, cap, cur, rfl, hg, hh, hn, hm, hs, ht⟩
  · exact .inl ⟨rfl, .inl ⟨rfl, List.length_eq_zero_iff.1 h2, rfl⟩⟩
  · exact .inr ⟨g, _, cap, rfl, hg, hh, .inr ⟨g, cap, cur, rfl, rfl, hn, hm, hs, ht⟩⟩
/-- A slice has grown (or was turned) where it alone may have been turned. -/
theorem Mm.grow {α : Type} (h : Mm W B M) {r k : Nat} {E : TypeId} {enc enc' : α → List Value} {v v' : Value} {l l' : List α} (ho : OwnM (M r) E k enc v l) (hown : Own W' B E k enc' v' l') (hs : W.heap.size ≤ W'.heap.size) (hk : KeepB W W' v v') :
    ∃ x, OwnM x E k enc' v' l' ∧ Mm W' B (upM M r x) := by
  have hoff : ∀ q b o, q ≠ r → M q = some (b, o) → W'.heap[b]? = W.heap[b]? ∧ offB b v' := fun q b o hq hb => hk b (h.lt hb) (OwnM.off h ho hb hq)
  rcases OwnM.of_own hown with ⟨rfl, h1⟩ | ⟨g, o, cap, rfl, hg, hh, h1⟩
  · exact ⟨none, h1, h.drop hs fun q b o hq hb => (hoff q b o hq hb).1⟩
  · exact ⟨_, h1, h.put hs hg hh fun q b p hq hb => ⟨(hoff q b p hq hb).1, fun e => (hoff q b p hq hb).2 _ _ _ rfl e.symm⟩⟩
/-- The queue has changed. -/
theorem Mm.queue (h : Mm W B M) {a a' : Nat → Nat} {Q : Nat} {cs : Array Value} {T : TypeId} {v v' : Value} {l l' : List Evn} (ho : OwnM (M rQu) 143 8 (encE a) v l) (hw : M rWl = some (Q, .cells cs T (0, 0))) (hq : QAt Q B a' W' v' l') (hc : QChg Q W W' v v') :
    ∃ x, OwnM x 143 8 (encE a') v' l' ∧ Mm W' B (upM (upM M rQu x) rWl (some (Q, .cells (cs.setIfInBounds 5 v') T (0, 0)))) := by
  have hQ := h.lt hw
  have hoff : ∀ q b o, q ≠ rQu → q ≠ rWl → M q = some (b, o) → W'.heap[b]? = W.heap[b]? ∧ offB b v' ∧ b ≠ Q := fun q b o hq1 hq2 hb => by
    have hbQ : b ≠ Q := fun e => hq2 (by subst e; exact h.inj q rWl b o _ hb hw)
    obtain ⟨k1, k2⟩ := hc.other b (h.lt hb) hbQ (OwnM.off h ho hb hq1)
    exact ⟨k1, k2, hbQ⟩
  have hown := hc.own cs T (0, 0) (h.at_ _ _ _ hw).2
  have hbw := (h.at_ _ _ _ hw).1
  have key : ∀ x : Option (Nat × Obj), (∀ b o, x = some (b, o) → B ≤ b ∧ W'.heap[b]? = some o ∧ b ≠ Q ∧ ∀ q c p, q ≠ rQu → q ≠ rWl → M q = some (c, p) → c ≠ b) → Mm W' B (upM (upM M rQu x) rWl (some (Q, .cells (cs.setIfInBounds 5 v') T (0, 0)))) := fun x hx =>
    ⟨fun r b o hr => by
      by_cases e : r = rWl
      · subst e
        rw [upM_same] at hr
        cases hr
        exact ⟨hbw, hown⟩
      · rw [upM_other _ _ e] at hr
        by_cases f : r = rQu
        · subst f
          rw [upM_same] at hr
          exact ⟨(hx b o hr).1, (hx b o hr).2.1⟩
        · rw [upM_other _ _ f] at hr
          exact ⟨(h.at_ r b o hr).1, (hoff r b o f e hr).1.trans (h.at_ r b o hr).2⟩,
     fun r q b o o' hr hq => by
      by_cases e : r = rWl
      · by_cases e2 : q = rWl
        · rw [e, e2]
        · exfalso
          subst e
          rw [upM_same] at hr
          cases hr
          rw [upM_other _ _ e2] at hq
          by_cases f : q = rQu
          · subst f; rw [upM_same] at hq; exact (hx Q o' hq).2.2.1 rfl
          · rw [upM_other _ _ f] at hq; exact (hoff q Q o' f e2 hq).2.2 rfl
      · rw [upM_other _ _ e] at hr
        by_cases e2 : q = rWl
        · exfalso
          subst e2
          rw [upM_same] at hq
          cases hq
          by_cases f : r = rQu
          · subst f; rw [upM_same] at hr; exact (hx Q o hr).2.2.1 rfl
          · rw [upM_other _ _ f] at hr; exact (hoff r Q o f e hr).2.2 rfl
        · rw [upM_other _ _ e2] at hq
          by_cases f : r = rQu
          · by_cases f2 : q = rQu
            · rw [f, f2]
            · exfalso
              subst f
              rw [upM_same] at hr
              rw [upM_other _ _ f2] at hq
              exact (hx b o hr).2.2.2 q b o' f2 e2 hq rfl
          · rw [upM_other _ _ f] at hr
            by_cases f2 : q = rQu
            · exfalso
              subst f2
              rw [upM_same] at hq
              exact (hx b o' hq).2.2.2 r b o f e hr rfl
            · rw [upM_other _ _ f2] at hq
              exact h.inj r q b o o' hr hq,
     Nat.le_trans h.base hc.size⟩
  rcases OwnM.of_own hq.own with ⟨rfl, h1⟩ | ⟨g, o, cap, rfl, hg, hh, h1⟩
  · exact ⟨none, h1, key none (fun b o hx => by cases hx)⟩
  · refine ⟨_, h1, key _ (fun b o' hx => ?_)⟩
    cases hx
    exact ⟨hg, hh, fun e => hq.off _ _ _ rfl e, fun q c p hq1 hq2 hc1 e => (hoff q c p hq1 hq2 hc1).2.1 _ _ _ rfl e.symm⟩
end
end Go.Proofs.YtehbmnkbmgnkfaaGreatDoor

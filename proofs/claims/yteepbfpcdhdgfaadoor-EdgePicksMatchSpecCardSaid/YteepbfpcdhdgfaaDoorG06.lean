/- The cipher of the program: the walks. -/
import Derived.Test.YteepbfpcdhdgfaaDoorG05
import Derived.BigRegion
import Derived.BigQuiet
import Derived.Deep.RegionHeld3
import Derived.Laws.Tables
namespace Go.Proofs.YteepbfpcdhdgfaaDoor
open Go.RowKit

theorem ret_u {k : IntKind} {v : Value} {b : Int} (h : v = .int k b) : Ending.returned v = .returned (.int k b) := by rw [h]
theorem mix_any (x : Nat) (w : World) (hx : x < 4294967296) : Calls Tryd.prog 90 #[.int .u32 x] w fun e w' => e = .returned (.int .u32 (mixN x : Nat)) ∧ w = w' := by
  have hv : Hid (((bits BinOp.xor IntKind.u32 ((x : Int) * 16 % 4294967296) ((x : Int) / 32)) + (x : Int)) % 4294967296 = ((mixN x : Nat) : Int)) := Lib.hid (by
    have e1 : (x : Int) * 16 % 4294967296 = ((x * 16 % 4294967296 : Nat) : Int) := by omega
    have e2 : (x : Int) / 32 = ((x / 32 : Nat) : Int) := by omega
    rw [e1, e2, bits_xor_u32 _ _ (by omega) (by omega)]
    unfold mixN
    omega)
  go_enter Tryd.func90, Tryd.ntmps90
  go_wp2
  go_ret
  exact ⟨ret_u (congrArg (Value.int .u32) hv.out), rfl⟩
theorem word_any (w : World) (b o n cap : Nat) (x0 x1 x2 x3 : UInt8) (h0 : w.cell? ⟨b, o, none⟩ = some (.int .u8 x0.toNat)) (h1 : w.cell? ⟨b, o + 1, none⟩ = some (.int .u8 x1.toNat)) (h2 : w.cell? ⟨b, o + 2, none⟩ = some (.int .u8 x2.toNat)) (h3 : w.cell? ⟨b, o + 3, none⟩ = some (.int .u8 x3.toNat)) (hn : 4 ≤ n) :
    Calls Tryd.prog 89 #[.slice (some ⟨b, o, none⟩) n cap] w fun e w' => e = .returned (.int .u32 (num4 x0 x1 x2 x3 : Nat)) ∧ ∃ k, w' = w.drewN k := by
  have k0 := x0.toNat_lt
  have k1 := x1.toNat_lt
  have k2 := x2.toNat_lt
  have k3 := x3.toNat_lt
  have hv : Hid (bits BinOp.or IntKind.u32 (bits BinOp.or IntKind.u32 (bits BinOp.or IntKind.u32 ((x0.toNat : Int) * 16777216) ((x1.toNat : Int) * 65536)) ((x2.toNat : Int) * 256)) (x3.toNat : Int) = ((num4 x0 x1 x2 x3 : Nat) : Int)) := Lib.hid (by
    have e0 : (x0.toNat : Int) * 16777216 = ((x0.toNat * 16777216 : Nat) : Int) := by omega
    have e1 : (x1.toNat : Int) * 65536 = ((x1.toNat * 65536 : Nat) : Int) := by omega
    have e2 : (x2.toNat : Int) * 256 = ((x2.toNat * 256 : Nat) : Int) := by omega
    have l1 : x0.toNat * 16777216 ||| x1.toNat * 65536 < 4294967296 := Nat.or_lt_two_pow (n := 32) (by omega) (by omega)
    have l2 : (x0.toNat * 16777216 ||| x1.toNat * 65536) ||| x2.toNat * 256 < 4294967296 := Nat.or_lt_two_pow (n := 32) l1 (by omega)
    rw [e0, e1, e2, bits_or_u32 _ _ (by omega) (by omega), bits_or_u32 _ _ l1 (by omega), bits_or_u32 _ _ l2 (by omega), or4])
  obtain ⟨y0, hy0⟩ : ∃ y, y = x0.toNat := ⟨_, rfl⟩
  obtain ⟨y1, hy1⟩ : ∃ y, y = x1.toNat := ⟨_, rfl⟩
  obtain ⟨y2, hy2⟩ : ∃ y, y = x2.toNat := ⟨_, rfl⟩
  obtain ⟨y3, hy3⟩ : ∃ y, y = x3.toNat := ⟨_, rfl⟩
  rw [← hy0] at h0 k0 hv
  rw [← hy1] at h1 k1 hv
  rw [← hy2] at h2 k2 hv
  rw [← hy3] at h3 k3 hv
  clear hy0 hy1 hy2 hy3
  go_enter Tryd.func89, Tryd.ntmps89
  go_wp2
  go_quiet (fail)
  go_wp2
  go_ret
  exact ⟨ret_u (congrArg (Value.int .u32) hv.out), nq, rfl⟩
/-- An array of bytes as a value. -/
def arr8 (l : List UInt8) : Value := .agg (l.map fun x => Value.int .u8 x.toNat).toArray
theorem arr4 (x y : Nat) : arr8 (bytes4 x ++ bytes4 y) = .agg #[.int .u8 ((x / 16777216 % 256 : Nat) : Int), .int .u8 ((x / 65536 % 256 : Nat) : Int), .int .u8 ((x / 256 % 256 : Nat) : Int), .int .u8 ((x % 256 : Nat) : Int), .int .u8 ((y / 16777216 % 256 : Nat) : Int), .int .u8 ((y / 65536 % 256 : Nat) : Int), .int .u8 ((y / 256 % 256 : Nat) : Int), .int .u8 ((y % 256 : Nat) : Int)] := by
  unfold arr8 bytes4
  simp
theorem wordBytes_any (x y : Nat) (w : World) (hx : x < 4294967296) (hy : y < 4294967296) : Calls Tryd.prog 70 #[.int .u32 x, .int .u32 y] w fun e w' => e = .returned (arr8 (bytes4 x ++ bytes4 y)) ∧ Below w.heap.size w w' := by
  rw [arr4]
  go_enter Tryd.func70, Tryd.ntmps70
  go_wp2
  refine bodyPost_ret (v := .agg #[.int .u8 ((x : Int) / 16777216), .int .u8 ((x : Int) / 65536 % 256), .int .u8 ((x : Int) / 256 % 256), .int .u8 ((x : Int) % 256), .int .u8 ((y : Int) / 16777216), .int .u8 ((y : Int) / 65536 % 256), .int .u8 ((y : Int) / 256 % 256), .int .u8 ((y : Int) % 256)]) (by simp [results, Tryd.results70, go_sem]) rfl ⟨?_, (Below.refl _ w).alloc (Nat.le_refl _) _⟩
  have e0 : (x : Int) / 16777216 = ((x / 16777216 % 256 : Nat) : Int) := by omega
  have e1 : (x : Int) / 65536 % 256 = ((x / 65536 % 256 : Nat) : Int) := by omega
  have e2 : (x : Int) / 256 % 256 = ((x / 256 % 256 : Nat) : Int) := by omega
  have e3 : (x : Int) % 256 = ((x % 256 : Nat) : Int) := by omega
  have e4 : (y : Int) / 16777216 = ((y / 16777216 % 256 : Nat) : Int) := by omega
  have e5 : (y : Int) / 65536 % 256 = ((y / 65536 % 256 : Nat) : Int) := by omega
  have e6 : (y : Int) / 256 % 256 = ((y / 256 % 256 : Nat) : Int) := by omega
  have e7 : (y : Int) % 256 = ((y % 256 : Nat) : Int) := by omega
  rw [e0, e1, e2, e3, e4, e5, e6, e7]
end Go.Proofs.YteepbfpcdhdgfaaDoor

/- The cipher of the program: words, encrypt, xor. -/
namespace Go.Proofs.YteepbfpcdhdgfaaDoor
open Go.RowKit

/-- Bytes that lie at a place. -/
def BytesAt (w : World) (b o : Nat) (l : List UInt8) : Prop := ∀ i x, l[i]? = some x → w.cell? ⟨b, o + i, none⟩ = some (.int .u8 x.toNat)
theorem BytesAt.lt {w : World} {b o : Nat} {l : List UInt8} (h : BytesAt w b o l) (hl : 0 < l.length) : b < w.heap.size :=
  World.block_lt_of_cell? w _ (h 0 _ (List.getElem?_eq_getElem hl))
theorem BytesAt.below {w W : World} {b o : Nat} {l : List UInt8} (h : BytesAt w b o l) (hb : Below w.heap.size w W) : BytesAt W b o l := fun i x hx => by
  have := h i x hx
  exact (hb.cell (p := ⟨b, o + i, none⟩) (World.block_lt_of_cell? w _ this)).trans this
theorem BytesAt.drop {w : World} {b o : Nat} {l : List UInt8} (h : BytesAt w b o l) (n : Nat) : BytesAt w b (o + n) (l.drop n) := fun i x hx => by
  rw [List.getElem?_drop] at hx
  rw [Nat.add_assoc]
  exact h _ _ hx
theorem BytesAt.take {w : World} {b o : Nat} {l : List UInt8} (h : BytesAt w b o l) (n : Nat) : BytesAt w b o (l.take n) := fun i x hx => by
  rw [List.getElem?_take] at hx
  split at hx
  · exact h _ _ hx
  · cases hx
theorem getD_some {l : List UInt8} {i : Nat} (h : i < l.length) : l[i]? = some (l.getD i 0) := by
  rw [List.getD_eq_getElem?_getD, List.getElem?_eq_getElem h]
  rfl
theorem word_at {w : World} {b o : Nat} {l : List UInt8} (h : BytesAt w b o l) (i n cap : Nat) (hi : i + 4 ≤ l.length) (hn : 4 ≤ n) :
    Calls Tryd.prog 89 #[.slice (some ⟨b, o + i, none⟩) n cap] w fun e w' => e = .returned (.int .u32 (numAt l i : Nat)) ∧ ∃ k, w' = w.drewN k := by
  refine word_any w b (o + i) n cap _ _ _ _ (h i _ (getD_some (by omega))) ?_ ?_ ?_ hn
  · have := h (i + 1) _ (getD_some (by omega)); rw [← Nat.add_assoc] at this; exact this
  · have := h (i + 2) _ (getD_some (by omega)); rw [← Nat.add_assoc] at this; exact this
  · have := h (i + 3) _ (getD_some (by omega)); rw [← Nat.add_assoc] at this; exact this

theorem frz_of {w : World} {b i : Nat} {c : Array Value} {T : TypeId} (h : w.heap[b]? = some (.cells c T (0, 0))) : w.frozen? ⟨b, i, none⟩ = false := by simp [World.frozen?, h]
theorem box4_facts {w : World} {b : Nat} {T : TypeId} {x0 x1 x2 x3 : Value} (h : w.heap[b]? = some (.cells #[x0, x1, x2, x3] T (0, 0))) :
    w.cell? ⟨b, 0, none⟩ = some x0 ∧ w.cell? ⟨b, 1, none⟩ = some x1 ∧ w.cell? ⟨b, 2, none⟩ = some x2 ∧ w.cell? ⟨b, 3, none⟩ = some x3 ∧ w.frozen? ⟨b, 0, none⟩ = false ∧ w.frozen? ⟨b, 1, none⟩ = false ∧ w.frozen? ⟨b, 2, none⟩ = false ∧ w.frozen? ⟨b, 3, none⟩ = false :=
  ⟨(cell_of_block (i := 0) h).trans rfl, (cell_of_block (i := 1) h).trans rfl, (cell_of_block (i := 2) h).trans rfl, (cell_of_block (i := 3) h).trans rfl, frz_of h, frz_of h, frz_of h, frz_of h⟩
def arrK (k : List UInt8) : Value := .agg #[.int .u32 (numAt k 0 : Nat), .int .u32 (numAt k 4 : Nat), .int .u32 (numAt k 8 : Nat), .int .u32 (numAt k 12 : Nat)]
set_option maxHeartbeats 1000000 in
theorem words_any (w : World) (b o cap : Nat) (k : List UInt8) (h : BytesAt w b o k) (hk : k.length = 16) (hc : 16 ≤ cap) :
    Calls Tryd.prog 88 #[.slice (some ⟨b, o, none⟩) 16 cap] w fun e w' => e = .returned (arrK k) ∧ Below w.heap.size w w' := by
  have H0 := Lib.hid (fun (W : World) (hb : Below w.heap.size w W) n cap (hn : 4 ≤ n) => word_at (h.below hb) 0 n cap (by omega) hn)
  have H4 := Lib.hid (fun (W : World) (hb : Below w.heap.size w W) n cap (hn : 4 ≤ n) => word_at (h.below hb) 4 n cap (by omega) hn)
  have H8 := Lib.hid (fun (W : World) (hb : Below w.heap.size w W) n cap (hn : 4 ≤ n) => word_at (h.below hb) 8 n cap (by omega) hn)
  have H12 := Lib.hid (fun (W : World) (hb : Below w.heap.size w W) n cap (hn : 4 ≤ n) => word_at (h.below hb) 12 n cap (by omega) hn)
  simp only [Nat.add_zero] at H0
  unfold arrK
  generalize numAt k 0 = K0 at H0 ⊢
  generalize numAt k 4 = K4 at H4 ⊢
  generalize numAt k 8 = K8 at H8 ⊢
  generalize numAt k 12 = K12 at H12 ⊢
  clear h hk
  have HQA : ∀ k, Below w.heap.size w ((w.alloc (.cells #[.int .u32 0, .int .u32 0, .int .u32 0, .int .u32 0] 93)).drewN k) := fun k => below_drewN ((Below.refl _ w).alloc (Nat.le_refl _) _) k
  have HQ1 : Below w.heap.size w (w.alloc (.cells #[.int .u32 0, .int .u32 0, .int .u32 0, .int .u32 0] 93)).drew := HQA 1
  go_enter Tryd.func88, Tryd.ntmps88
  go_wp2_with fail
  go_region_held3 (fun _ => True) (first | exact True.intro | fail)
    (first
           | (go_at_call 89; (with_reducible refine (H0.out _ HQ1 _ _ (by omega)).mono ?_); rintro e w' ⟨rfl, q, rfl⟩)
           | (go_at_call 89; (with_reducible refine (H0.out _ (HQA _) _ _ (by omega)).mono ?_); rintro e w' ⟨rfl, q, rfl⟩)
           | (go_at_call 89; (with_reducible refine (H4.out _ HQ1 _ _ (by omega)).mono ?_); rintro e w' ⟨rfl, q, rfl⟩)
           | (go_at_call 89; (with_reducible refine (H4.out _ (HQA _) _ _ (by omega)).mono ?_); rintro e w' ⟨rfl, q, rfl⟩)
           | (go_at_call 89; (with_reducible refine (H8.out _ HQ1 _ _ (by omega)).mono ?_); rintro e w' ⟨rfl, q, rfl⟩)
           | (go_at_call 89; (with_reducible refine (H8.out _ (HQA _) _ _ (by omega)).mono ?_); rintro e w' ⟨rfl, q, rfl⟩)
           | (go_at_call 89; (with_reducible refine (H12.out _ HQ1 _ _ (by omega)).mono ?_); rintro e w' ⟨rfl, q, rfl⟩)
           | (go_at_call 89; (with_reducible refine (H12.out _ (HQA _) _ _ (by omega)).mono ?_); rintro e w' ⟨rfl, q, rfl⟩) | fail)
  go_wp2
  exact bodyPost_ret (v := .agg #[.int .u32 K0, .int .u32 K4, .int .u32 K8, .int .u32 K12]) (by simp [results, Tryd.results88, go_sem]) rfl ⟨rfl, ((((HQA _).setCell (Nat.le_refl _) _).setCell (Nat.le_refl _) _).setCell (Nat.le_refl _) _).setCell (Nat.le_refl _) _⟩
theorem box8_facts {w : World} {b : Nat} {T : TypeId} {x0 x1 x2 x3 x4 x5 x6 x7 : Value} (h : w.heap[b]? = some (.cells #[x0, x1, x2, x3, x4, x5, x6, x7] T (0, 0))) :
    (w.cell? ⟨b, 0, none⟩ = some x0 ∧ w.cell? ⟨b, 1, none⟩ = some x1 ∧ w.cell? ⟨b, 2, none⟩ = some x2 ∧ w.cell? ⟨b, 3, none⟩ = some x3 ∧ w.cell? ⟨b, 4, none⟩ = some x4 ∧ w.cell? ⟨b, 5, none⟩ = some x5 ∧ w.cell? ⟨b, 6, none⟩ = some x6 ∧ w.cell? ⟨b, 7, none⟩ = some x7) ∧ ∀ i, w.frozen? ⟨b, i, none⟩ = false :=
  ⟨⟨(cell_of_block (i := 0) h).trans rfl, (cell_of_block (i := 1) h).trans rfl, (cell_of_block (i := 2) h).trans rfl, (cell_of_block (i := 3) h).trans rfl, (cell_of_block (i := 4) h).trans rfl, (cell_of_block (i := 5) h).trans rfl, (cell_of_block (i := 6) h).trans rfl, (cell_of_block (i := 7) h).trans rfl⟩, fun _ => frz_of h⟩
def kwN (k : List UInt8) (i : Nat) : Nat := numAt k (4 * i)
theorem arrK_cell {w : World} {N : Nat} {T : TypeId} {k : List UInt8} (h : w.heap[N]? = some (.cells #[.int .u32 (numAt k 0 : Nat), .int .u32 (numAt k 4 : Nat), .int .u32 (numAt k 8 : Nat), .int .u32 (numAt k 12 : Nat)] T (0, 0))) (j : Nat) (hj : j < 4) : w.cell? ⟨N, j, none⟩ = some (.int .u32 (kwN k j : Nat)) := by
  obtain ⟨h0, h1, h2, h3, _⟩ := box4_facts h
  match j, hj with
  | 0, _ => exact h0
  | 1, _ => exact h1
  | 2, _ => exact h2
  | 3, _ => exact h3

set_option maxRecDepth 100000 in
set_option maxHeartbeats 4000000 in
theorem encrypt_any (w : World) (b o cap c p cap2 : Nat) (k l : List UInt8) (h : BytesAt w b o k) (hk : k.length = 16) (hc : 16 ≤ cap) (hb : BytesAt w c p l) (hl : l.length = 8) (hc2 : 8 ≤ cap2) :
    Calls Tryd.prog 71 #[.slice (some ⟨b, o, none⟩) 16 cap, .slice (some ⟨c, p, none⟩) 8 cap2] w fun e w' => e = .returned (arr8 (encZ k l)) ∧ Below w.heap.size w w' := by
  have HWS := Lib.hid (fun (W : World) (hB : Below w.heap.size w W) => words_any W b o cap k (h.below hB) hk hc)
  have H0 := Lib.hid (fun (W : World) (hB : Below w.heap.size w W) n cap (hn : 4 ≤ n) => word_at (hb.below hB) 0 n cap (by omega) hn)
  have H4 := Lib.hid (fun (W : World) (hB : Below w.heap.size w W) n cap (hn : 4 ≤ n) => word_at (hb.below hB) 4 n cap (by omega) hn)
  simp only [Nat.add_zero] at H0
  have HV : Hid (encZ k l = bytes4 (rndsN (kwN k) ⟨numAt l 0, numAt l 4, 0⟩ 16).a ++ bytes4 (rndsN (kwN k) ⟨numAt l 0, numAt l 4, 0⟩ 16).b) := Lib.hid rfl
  have hlt0 := numAt_lt l 0
  have hlt4 := numAt_lt l 4
  have HKL := Lib.hid (fun j => numAt_lt k j)
  generalize numAt l 0 = A0 at H0 HV hlt0
  generalize numAt l 4 = B0 at H4 HV hlt4
  obtain ⟨x0, hx0⟩ : ∃ x : Hlf, x = ⟨A0, B0, 0⟩ := ⟨_, rfl⟩
  have hok0 : okHl x0 := by rw [hx0]; exact ⟨hlt0, hlt4, (show (0 : Nat) < 4294967296 by decide)⟩
  rw [← hx0] at HV
  have HX0 := Lib.hid hx0
  have HOK := Lib.hid (rndsN_ok (K := kwN k) hok0)
  have HWB := Lib.hid wordBytes_any
  clear h hb hl hk hlt0 hlt4 hx0 hok0
  obtain ⟨wa, hwa⟩ : ∃ wa, wa = w.alloc (.cells #[.int .u8 0, .int .u8 0, .int .u8 0, .int .u8 0, .int .u8 0, .int .u8 0, .int .u8 0, .int .u8 0] 80) := ⟨_, rfl⟩
  have HBA : Hid (Below w.heap.size w wa) := Lib.hid (by rw [hwa]; exact (Below.refl _ w).alloc (Nat.le_refl _) _)
  have HKA : Hid (wa.heap[w.heap.size]? = some (.cells #[.int .u8 0, .int .u8 0, .int .u8 0, .int .u8 0, .int .u8 0, .int .u8 0, .int .u8 0, .int .u8 0] 80 (0, 0))) := Lib.hid (by rw [hwa]; exact block_new w _)
  have HWA := Lib.hid hwa
  clear hwa
  go_enter Tryd.func71, Tryd.ntmps71
  go_wp2_with fail
  rw [← HWA.out]
  refine (HWS.out _ HBA.out).mono ?_
  rintro e w1 ⟨rfl, hb1⟩
  unfold arrK
  obtain ⟨w2, hw2⟩ : ∃ w2, w2 = w1.alloc (.cells #[.int .u32 (numAt k 0 : Nat), .int .u32 (numAt k 4 : Nat), .int .u32 (numAt k 8 : Nat), .int .u32 (numAt k 12 : Nat)] 93) := ⟨_, rfl⟩
  have HB1 := Lib.hid (HBA.out.thru hb1)
  have HB2 : Hid (Below w.heap.size w w2) := Lib.hid (by rw [hw2]; exact HB1.out.alloc HB1.out.size _)
  have HK1 : Hid (w2.heap[w.heap.size]? = some (.cells #[.int .u8 0, .int .u8 0, .int .u8 0, .int .u8 0, .int .u8 0, .int .u8 0, .int .u8 0, .int .u8 0] 80 (0, 0))) := Lib.hid (by
    have h1 := (hb1.block _ (Array.getElem?_eq_some_iff.1 HKA.out).1).trans HKA.out
    rw [hw2]
    exact (Below.heap_alloc w1 _ _ (Array.getElem?_eq_some_iff.1 h1).1).trans h1)
  have HKK := Lib.hid (fun j hj => arrK_cell (k := k) (w := w2) (N := w1.heap.size) (by rw [hw2]; exact block_new w1 _) j hj)
  have HW2 := Lib.hid hw2
  clear hw2 hb1
  obtain ⟨N1, hN1⟩ : ∃ N1, N1 = w1.heap.size := ⟨_, rfl⟩
  go_upto_region 2 with (fail)
  rw [← HW2.out, ← hN1]
  have HQA : ∀ q, Below w.heap.size w (w2.drewN q) := fun q => below_drewN HB2.out q
  have HQ1 : Below w.heap.size w w2.drew := HQA 1
  rw [← hN1] at HKK
  clear hN1
  go_cut [6, 7, 8] (fun s6 s7 s8 wc => s6 = .int .u32 A0 ∧ s7 = .int .u32 B0 ∧ s8 = .int .u32 0 ∧ ∃ q, wc = w2.drewN q)
  case first =>
    go_region_held3 (fun _ => True) (first | exact True.intro | fail)
      (first
           | (go_at_call 89; (with_reducible refine (H0.out _ HQ1 _ _ (by omega)).mono ?_); rintro e w' ⟨rfl, q, rfl⟩)
           | (go_at_call 89; (with_reducible refine (H0.out _ (HQA _) _ _ (by omega)).mono ?_); rintro e w' ⟨rfl, q, rfl⟩)
           | (go_at_call 89; (with_reducible refine (H4.out _ HQ1 _ _ (by omega)).mono ?_); rintro e w' ⟨rfl, q, rfl⟩)
           | (go_at_call 89; (with_reducible refine (H4.out _ (HQA _) _ _ (by omega)).mono ?_); rintro e w' ⟨rfl, q, rfl⟩) | fail)
    go_wp2
    go_meet
    exact ⟨rfl, rfl, rfl, _, rfl⟩
  obtain ⟨rfl, rfl, rfl, q0, rfl⟩ := hcut
  clear HQA HQ1
  go_wp2
  go_loopg [6, 7, 8, 16] 16 (fun gg s6 s7 s8 s16 wr => ∃ (i q : Nat) (y : Hlf), i ≤ 16 ∧ 16 - i ≤ gg ∧ s16 = .int .i64 i ∧ s6 = .int .u32 (y.a : Nat) ∧ s7 = .int .u32 (y.b : Nat) ∧ s8 = .int .u32 (y.s : Nat) ∧ wr = w2.drewN q ∧ Aside (y = rndsN (kwN k) x0 i))
  case atStart => exact ⟨0, q0, ⟨A0, B0, 0⟩, by omega, by omega, rfl, rfl, rfl, rfl, rfl, (show Aside _ from HX0.out.symm)⟩
  case round =>
    obtain ⟨wq, hwq⟩ : ∃ wq : World, wq = wr := ⟨_, rfl⟩
    rw [← hwq] at hrel ⊢
    obtain ⟨i, q, ⟨a, b', s⟩, hi, hgi, rfl, rfl, rfl, rfl, hwe, HY⟩ := hrel
    clear hwq
    have HWE := Lib.hid hwe
    clear hwe
    have hok := HOK.out i
    rw [← HY.out] at hok
    obtain ⟨oa, ob, os⟩ := hok
    simp only at oa ob os
    by_cases hil : i < 16
    · have hiz : (i : Int) < 16 := by omega
      obtain ⟨j1, hj1⟩ : ∃ j, j = s % 4 := ⟨_, rfl⟩
      obtain ⟨K1, hK1⟩ : ∃ z, z = kwN k j1 := ⟨_, rfl⟩
      obtain ⟨m1, hm1⟩ : ∃ z, z = (s + K1) % 4294967296 := ⟨_, rfl⟩
      obtain ⟨X1, hX1⟩ : ∃ z, z = mixN b' := ⟨_, rfl⟩
      obtain ⟨m2, hm2⟩ : ∃ z, z = X1 ^^^ m1 := ⟨_, rfl⟩
      obtain ⟨m3, hm3⟩ : ∃ z, z = (a + m2) % 4294967296 := ⟨_, rfl⟩
      obtain ⟨m4, hm4⟩ : ∃ z, z = (s + 2654435769) % 4294967296 := ⟨_, rfl⟩
      obtain ⟨j2, hj2⟩ : ∃ j, j = m4 / 2048 % 4 := ⟨_, rfl⟩
      obtain ⟨K2, hK2⟩ : ∃ z, z = kwN k j2 := ⟨_, rfl⟩
      obtain ⟨m5, hm5⟩ : ∃ z, z = (m4 + K2) % 4294967296 := ⟨_, rfl⟩
      obtain ⟨X2, hX2⟩ : ∃ z, z = mixN m3 := ⟨_, rfl⟩
      obtain ⟨m6, hm6⟩ : ∃ z, z = X2 ^^^ m5 := ⟨_, rfl⟩
      obtain ⟨m7, hm7⟩ : ∃ z, z = (b' + m6) % 4294967296 := ⟨_, rfl⟩
      have HNX : Hid ((⟨m3, m7, m4⟩ : Hlf) = rndsN (kwN k) x0 (i + 1)) := Lib.hid (by
        show _ = rndN (kwN k) (rndsN (kwN k) x0 i)
        rw [← HY.out, hm7, hm6, hX2, hm5, hK2, hj2, hm4, hm3, hm2, hX1, hm1, hK1, hj1]
        rfl)
      have lX1 : X1 < 4294967296 := by rw [hX1]; exact mixN_lt _
      have lX2 : X2 < 4294967296 := by rw [hX2]; exact mixN_lt _
      have lm : m1 < 4294967296 ∧ m3 < 4294967296 ∧ m4 < 4294967296 ∧ m5 < 4294967296 := by omega
      obtain ⟨lm1, lm3, lm4, lm5⟩ := lm
      have lj1 : j1 < 4 := by omega
      have lj2 : j2 < 4 := by omega
      have e1 : bits .and .u32 (s : Int) 3 = (j1 : Int) := by rw [bits_and3_u32 s os, hj1]
      have e2 : ((s : Int) + (K1 : Int)) % 4294967296 = (m1 : Int) := by omega
      have e3 : bits .xor .u32 (X1 : Int) (m1 : Int) = (m2 : Int) := by rw [bits_xor_u32 _ _ lX1 lm1, hm2]
      have e4 : ((a : Int) + (m2 : Int)) % 4294967296 = (m3 : Int) := by omega
      have e5 : ((s : Int) + 2654435769) % 4294967296 = (m4 : Int) := by omega
      have e6 : bits .and .u32 ((m4 : Int) / 2048) 3 = (j2 : Int) := by
        have := bits_and3_u32 (m4 / 2048) (by omega)
        rw [show ((m4 / 2048 : Nat) : Int) = (m4 : Int) / 2048 by omega] at this
        rw [this, hj2]
      have e7 : ((m4 : Int) + (K2 : Int)) % 4294967296 = (m5 : Int) := by omega
      have e8 : bits .xor .u32 (X2 : Int) (m5 : Int) = (m6 : Int) := by rw [bits_xor_u32 _ _ lX2 lm5, hm6]
      have e9 : ((b' : Int) + (m6 : Int)) % 4294967296 = (m7 : Int) := by omega
      have c1 : wq.cell? ⟨N1, j1, none⟩ = some (.int .u32 K1) := by rw [HWE.out, hK1]; exact HKK.out j1 lj1
      have c2 : wq.cell? ⟨N1, j2, none⟩ = some (.int .u32 K2) := by rw [HWE.out, hK2]; exact HKK.out j2 lj2
      have HM1 := Lib.hid (fun W => mix_any b' W ob)
      have HM2 := Lib.hid (fun W => mix_any m3 W lm3)
      rw [← hX1] at HM1
      rw [← hX2] at HM2
      have z1 : (j1 : Int) < 4 := by omega
      have z2 : (j2 : Int) < 4 := by omega
      have z3 : (0 : Int) ≤ (j1 : Int) := by omega
      have z4 : (0 : Int) ≤ (j2 : Int) := by omega
      clear hj1 hK1 hm1 hX1 hm2 hm3 hm4 hj2 hK2 hm5 hX2 hm6 hm7 lX1 lX2 lm1 lm3 lm4 lm5 oa ob os HY
      go_upto_region 5 with (fail)
      go_cut [6] (fun s6 wc => s6 = .int .u32 m3 ∧ ∃ q, wc = wq.drewN q)
      case first =>
        go_quiet ((go_at_call 90; exact Calls.quiet_of_same ((HM1.out _).mono fun _ _ h => ⟨h.1, h.2.symm⟩)))
        go_wp2
        go_meet
        exact ⟨by rw [e4], _, rfl⟩
      obtain ⟨rfl, q1, rfl⟩ := hcut
      have c2 : (wq.drewN q1).cell? ⟨N1, j2, none⟩ = some (.int .u32 K2) := c2
      clear c1 e1 e2 e3 e4 HM1
      obtain ⟨wt, hwt⟩ : ∃ wt : World, wt = wq.drewN q1 := ⟨_, rfl⟩
      have HWT := Lib.hid hwt
      rw [← hwt] at c2 ⊢
      clear hwt
      go_upto_region 7 with (fail)
      go_quiet ((go_at_call 90; exact Calls.quiet_of_same ((HM2.out _).mono fun _ _ h => ⟨h.1, h.2.symm⟩)))
      go_wp2
      go_roundg (16 - (i + 1))
      case measure => omega
      case rel => exact ⟨i + 1, q + q1 + nq, ⟨m3, m7, m4⟩, by omega, by omega, by go_num, (by with_reducible rfl), (by first | with_reducible rfl | rw [e9]), (by first | with_reducible rfl | rw [e5]), by simp only [HWT.out, HWE.out, World.drewN_drewN, Nat.add_assoc], (show Aside _ from HNX.out)⟩
    · obtain rfl : i = 16 := by omega
      have HV2 : Hid (encZ k l = bytes4 a ++ bytes4 b') := Lib.hid (by rw [HV.out, ← HY.out])
      have HBQ : Hid (Below w.heap.size w wq) := Lib.hid (by rw [HWE.out]; exact below_drewN HB2.out q)
      have HKQ : Hid (wq.heap[w.heap.size]? = some (.cells #[.int .u8 0, .int .u8 0, .int .u8 0, .int .u8 0, .int .u8 0, .int .u8 0, .int .u8 0, .int .u8 0] 80 (0, 0))) := Lib.hid (by rw [HWE.out]; exact HK1.out)
      have HCW := Lib.hid (fun W => HWB.out a b' W oa ob)
      clear oa ob HY HOK
      go_wp2_with fail
      refine (HCW.out _).mono ?_
      rintro e w3 ⟨rfl, hb3⟩
      have HB3 := Lib.hid (HBQ.out.thru hb3)
      have hk3 := (hb3.block _ (Array.getElem?_eq_some_iff.1 HKQ.out).1).trans HKQ.out
      obtain ⟨⟨d0, d1, d2, d3, d4, d5, d6, d7⟩, hf⟩ := box8_facts hk3
      have f0 := hf 0
      have f1 := hf 1
      have f2 := hf 2
      have f3 := hf 3
      have f4 := hf 4
      have f5 := hf 5
      have f6 := hf 6
      have f7 := hf 7
      have hlt := (Array.getElem?_eq_some_iff.1 hk3).1
      rw [arr4]
      clear hk3 hf hb3
      go_wp2
      refine bodyPost_ret (v := .agg #[.int .u8 ((a : Int) / 16777216 % 256), .int .u8 ((a : Int) / 65536 % 256), .int .u8 ((a : Int) / 256 % 256), .int .u8 ((a : Int) % 256), .int .u8 ((b' : Int) / 16777216 % 256), .int .u8 ((b' : Int) / 65536 % 256), .int .u8 ((b' : Int) / 256 % 256), .int .u8 ((b' : Int) % 256)])
        (by simp [results, Tryd.results71, go_sem, d0, d1, d2, d3, d4, d5, d6, d7]) rfl ⟨?_, (((((((HB3.out.setCell (Nat.le_refl _) _).setCell (Nat.le_refl _) _).setCell (Nat.le_refl _) _).setCell (Nat.le_refl _) _).setCell (Nat.le_refl _) _).setCell (Nat.le_refl _) _).setCell (Nat.le_refl _) _).setCell (Nat.le_refl _) _⟩
      rw [HV2.out, arr4]
      rfl
end Go.Proofs.YteepbfpcdhdgfaaDoor

/- The cipher of the program: xor. -/
namespace Go.Proofs.YteepbfpcdhdgfaaDoor
open Go.RowKit

def cellsU (l : List UInt8) : Array Value := (l.map fun x => Value.int .u8 x.toNat).toArray
/-- A block of bytes. -/
def BlkT (w : World) (b : Nat) (T : TypeId) (l : List UInt8) : Prop := w.heap[b]? = some (.cells (cellsU l) T (0, 0))
theorem BlkT.lt {w : World} {b : Nat} {T : TypeId} {l : List UInt8} (h : BlkT w b T l) : b < w.heap.size := (Array.getElem?_eq_some_iff.1 h).1
theorem BlkT.below {w W : World} {b : Nat} {T : TypeId} {l : List UInt8} (h : BlkT w b T l) (hb : Below w.heap.size w W) : BlkT W b T l := (hb.block _ h.lt).trans h
theorem BlkT.other {w W : World} {b : Nat} {T : TypeId} {l : List UInt8} (h : BlkT w b T l) (hb : W.heap[b]? = w.heap[b]?) : BlkT W b T l := hb.trans h
theorem BlkT.bytes {w : World} {b : Nat} {T : TypeId} {l : List UInt8} (h : BlkT w b T l) : BytesAt w b 0 l := fun i x hx => by
  rw [Nat.zero_add, cell_of_block h]
  unfold cellsU
  rw [List.getElem?_toArray, List.getElem?_map, hx]
  rfl
theorem BlkT.frz {w : World} {b : Nat} {T : TypeId} {l : List UInt8} (h : BlkT w b T l) (i : Nat) : w.frozen? ⟨b, i, none⟩ = false := frz_of h
theorem BlkT.set {w : World} {b : Nat} {T : TypeId} {l : List UInt8} (h : BlkT w b T l) (i : Nat) (x : UInt8) : BlkT (w.setCell ⟨b, i, none⟩ (.int .u8 x.toNat)) b T (l.set i x) := by
  have e : cellsU (l.set i x) = (cellsU l).setIfInBounds i (.int .u8 x.toNat) := by
    unfold cellsU
    rw [List.map_set]
    simp
  unfold BlkT
  rw [setCell_eq_setRow w b i _ T (0, 0) _ h, e]
  exact setRow_heap w b _ _ T (0, 0) h
theorem BlkT.new (w : World) (T : TypeId) (l : List UInt8) : BlkT (w.alloc (.cells (cellsU l) T)) w.heap.size T l := block_new w _
/-- A row of eight while it is filled. -/
def fillX (z : List UInt8) (i : Nat) : List UInt8 := z.take i ++ List.replicate (8 - i) 0
theorem fillX_next {z : List UInt8} {i : Nat} {x : UInt8} (hz : z.length = 8) (hi : z[i]? = some x) : (fillX z i).set i x = fillX z (i + 1) := by
  have hlt : i < 8 := by rw [← hz]; exact (List.getElem?_eq_some_iff.1 hi).1
  unfold fillX
  rw [List.set_append_right _ _ (by rw [List.length_take]; omega), take_next hi, List.length_take, Nat.min_eq_left (by omega), Nat.sub_self, show 8 - i = (8 - (i + 1)) + 1 by omega, List.replicate_succ, List.set_cons_zero]
  simp
theorem fillX_all {z : List UInt8} (hz : z.length = 8) : fillX z 8 = z := by
  unfold fillX
  rw [List.take_of_length_le (by omega)]
  simp
theorem xorB_len {a b : List UInt8} (ha : a.length = 8) (hb : b.length = 8) : (xorB a b).length = 8 := by unfold xorB; rw [List.length_zipWith]; omega
theorem xorB_at {a b : List UInt8} {i : Nat} {x y : UInt8} (hx : a[i]? = some x) (hy : b[i]? = some y) : (xorB a b)[i]? = some (x ^^^ y) := by
  unfold xorB
  rw [List.getElem?_zipWith, hx, hy]

set_option maxRecDepth 100000 in
set_option maxHeartbeats 4000000 in
theorem xor_any (w : World) (b o cap c p cap2 : Nat) (l m : List UInt8) (h : BytesAt w b o l) (hl : l.length = 8) (hb : BytesAt w c p m) (hm : m.length = 8) :
    Calls Tryd.prog 72 #[.slice (some ⟨b, o, none⟩) 8 cap, .slice (some ⟨c, p, none⟩) 8 cap2] w fun e w' => e = .returned (arr8 (xorB l m)) ∧ Below w.heap.size w w' := by
  obtain ⟨z, hz⟩ : ∃ z, z = xorB l m := ⟨_, rfl⟩
  have hzl : z.length = 8 := by rw [hz]; exact xorB_len hl hm
  rw [← hz]
  have HZ := Lib.hid hz
  have HL := Lib.hid h
  have HM := Lib.hid hb
  have HZL := Lib.hid hzl
  have HLL := Lib.hid (And.intro hl hm)
  clear h hb hz hzl hl hm
  obtain ⟨w1, hw1⟩ : ∃ w1, w1 = (w.alloc (.cells (cellsU (List.replicate 8 0)) 80)).alloc (.cells (cellsU (List.replicate 8 0)) 80) := ⟨_, rfl⟩
  have HB1 : Hid (Below w.heap.size w w1) := Lib.hid (by rw [hw1]; exact ((Below.refl _ w).alloc (Nat.le_refl _) _).alloc (by simp) _)
  have HK1 : Hid (BlkT w1 w.heap.size 80 (List.replicate 8 0)) := Lib.hid (by
    have h0 := BlkT.new w 80 (List.replicate 8 0)
    rw [hw1]
    exact h0.other (Below.heap_alloc _ _ _ h0.lt))
  have HK2 : Hid (BlkT w1 (w.heap.size + 1) 80 (fillX z 0)) := Lib.hid (by
    have h0 := BlkT.new (w.alloc (.cells (cellsU (List.replicate 8 0)) 80)) 80 (List.replicate 8 0)
    rw [hw1]
    simpa [fillX] using h0)
  have HW1 : Hid (w1 = (w.alloc (.cells #[.int .u8 0, .int .u8 0, .int .u8 0, .int .u8 0, .int .u8 0, .int .u8 0, .int .u8 0, .int .u8 0] 80)).alloc (.cells #[.int .u8 0, .int .u8 0, .int .u8 0, .int .u8 0, .int .u8 0, .int .u8 0, .int .u8 0, .int .u8 0] 80)) := Lib.hid hw1
  clear hw1
  go_enter Tryd.func72, Tryd.ntmps72
  go_wp2_with fail
  obtain ⟨N1, hN1⟩ : ∃ N1, N1 = w.heap.size + 1 := ⟨_, rfl⟩
  have HN1 := Lib.hid hN1
  rw [← hN1]
  rw [← hN1] at HK2
  clear hN1
  go_loopg [7] 8 (fun gg s7 wr => ∃ i : Nat, i ≤ 8 ∧ 8 - i ≤ gg ∧ s7 = .int .i64 i ∧ Aside (Below w.heap.size w wr) ∧ Aside (BlkT wr w.heap.size 80 (List.replicate 8 0)) ∧ Aside (BlkT wr N1 80 (fillX z i)))
  case atStart => exact ⟨0, by omega, by omega, rfl, (show Aside _ from by rw [← HW1.out]; exact HB1.out), (show Aside _ from by rw [← HW1.out]; exact HK1.out), (show Aside _ from by rw [← HW1.out]; exact HK2.out)⟩
  case round =>
    obtain ⟨wq, rfl⟩ : ∃ wq : World, wq = wr := ⟨_, rfl⟩
    obtain ⟨i, hi, hgi, rfl, BW, K1, K2⟩ := hrel
    by_cases hil : i < 8
    · have hiz : (i : Int) < 8 := by omega
      obtain ⟨x, hx⟩ : ∃ x, l[i]? = some x := ⟨l[i]'(by have := HLL.out.1; omega), by simp⟩
      obtain ⟨y, hy⟩ : ∃ y, m[i]? = some y := ⟨m[i]'(by have := HLL.out.2; omega), by simp⟩
      have hxc := HL.out i x hx
      have hyc := HM.out i y hy
      have cx := (BW.out.cell (p := ⟨b, o + i, none⟩) (World.block_lt_of_cell? w _ hxc)).trans hxc
      have cy := (BW.out.cell (p := ⟨c, p + i, none⟩) (World.block_lt_of_cell? w _ hyc)).trans hyc
      have hzi : z[i]? = some (x ^^^ y) := by rw [HZ.out]; exact xorB_at hx hy
      have HS := Lib.hid (fun v (hv : v = Value.int .u8 (x ^^^ y).toNat) => by
        have := K2.out.set i (x ^^^ y)
        rw [fillX_next HZL.out hzi, ← hv] at this
        exact this)
      have hex : bits .xor .u8 (x.toNat : Int) (y.toNat : Int) = (((x ^^^ y).toNat : Nat) : Int) := by rw [bits_xor_u8 _ _ x.toNat_lt y.toNat_lt, UInt8.toNat_xor]
      obtain ⟨X, hX⟩ : ∃ X, X = x.toNat := ⟨_, rfl⟩
      obtain ⟨Y, hY⟩ : ∃ Y, Y = y.toNat := ⟨_, rfl⟩
      obtain ⟨Z, hZ⟩ : ∃ Z, Z = (x ^^^ y).toNat := ⟨_, rfl⟩
      rw [← hX] at cx hex
      rw [← hY] at cy hex
      rw [← hZ] at hex
      have HZ2 := Lib.hid hZ
      have hq : (wq.cell? ⟨N1, i, none⟩).isSome = true := by
        have := K2.out.bytes i ((fillX z i).getD i 0) (getD_some (by unfold fillX; rw [List.length_append, List.length_take, List.length_replicate]; have := HZL.out; omega))
        rw [Nat.zero_add] at this
        rw [this]
        rfl
      obtain ⟨u, hu⟩ := Option.isSome_iff_exists.1 hq
      have hf := K2.out.frz i
      have HN := Lib.hid K1.out
      clear hx hy hxc hyc hzi hX hY hZ hq K1 K2
      go_upto_region 5 with (fail)
      go_big_region
      all_goals go_wp2
      all_goals
        go_roundg (8 - (i + 1))
        case measure => omega
        case rel => exact ⟨i + 1, by omega, by omega, by go_num, (show Aside _ from (BW.out.setCell (by have := HN1.out; show w.heap.size ≤ N1; omega) _).drew), (show Aside _ from HN.out.other (Below.heap_setCell wq ⟨N1, i, none⟩ _ w.heap.size (by have := HN1.out; show w.heap.size ≠ N1; omega))), (show Aside _ from by
          have := HS.out (.int .u8 Z) (by rw [HZ2.out])
          exact this)⟩
    · obtain rfl : i = 8 := by omega
      rw [fillX_all HZL.out] at K2
      have hz8 := HZL.out
      obtain ⟨z0, z1, z2, z3, z4, z5, z6, z7, rfl⟩ : ∃ z0 z1 z2 z3 z4 z5 z6 z7, z = [z0, z1, z2, z3, z4, z5, z6, z7] := by
        match z, hz8 with
        | [z0, z1, z2, z3, z4, z5, z6, z7], _ => exact ⟨_, _, _, _, _, _, _, _, rfl⟩
      have K2h : wq.heap[N1]? = some (.cells #[.int .u8 z0.toNat, .int .u8 z1.toNat, .int .u8 z2.toNat, .int .u8 z3.toNat, .int .u8 z4.toNat, .int .u8 z5.toNat, .int .u8 z6.toNat, .int .u8 z7.toNat] 80 (0, 0)) := K2.out
      have K1h : wq.heap[w.heap.size]? = some (.cells #[.int .u8 0, .int .u8 0, .int .u8 0, .int .u8 0, .int .u8 0, .int .u8 0, .int .u8 0, .int .u8 0] 80 (0, 0)) := K1.out
      obtain ⟨⟨a0, a1, a2, a3, a4, a5, a6, a7⟩, _⟩ := box8_facts K2h
      obtain ⟨⟨d0, d1, d2, d3, d4, d5, d6, d7⟩, hf⟩ := box8_facts K1h
      have f0 := hf 0
      have f1 := hf 1
      have f2 := hf 2
      have f3 := hf 3
      have f4 := hf 4
      have f5 := hf 5
      have f6 := hf 6
      have f7 := hf 7
      have hlt := (Array.getElem?_eq_some_iff.1 K1h).1
      have HB := Lib.hid BW.out
      clear K1h K2h hf K1 K2 BW hz8 HZ HK1 HK2 HZL
      go_wp2
      refine bodyPost_ret (v := .agg #[.int .u8 z0.toNat, .int .u8 z1.toNat, .int .u8 z2.toNat, .int .u8 z3.toNat, .int .u8 z4.toNat, .int .u8 z5.toNat, .int .u8 z6.toNat, .int .u8 z7.toNat])
        (by simp [results, Tryd.results72, go_sem, d0, d1, d2, d3, d4, d5, d6, d7]) rfl ⟨rfl, (((((((HB.out.setCell (Nat.le_refl _) _).setCell (Nat.le_refl _) _).setCell (Nat.le_refl _) _).setCell (Nat.le_refl _) _).setCell (Nat.le_refl _) _).setCell (Nat.le_refl _) _).setCell (Nat.le_refl _) _).setCell (Nat.le_refl _) _⟩
end Go.Proofs.YteepbfpcdhdgfaaDoor

/- Contracts of the library, laid by the shelf at this seat. -/
import Derived.Shelf.Strings.OnBuilder
import Derived.Shelf.Small.Strs
import Derived.Shelf.Strings.Cut
import Derived.Shelf.Strings.Prefix
import Derived.Shelf.Strings.Split
import Derived.Shelf.Slices.Turned
import Derived.Test.YtgohddfnhofjhaaGreatDoorProg
import Derived.Test.YtgohddfnhofjhaaGreatDoorB05
import Derived.Test.YtgohddfnhofjhaaGreatDoorB04
import Derived.Deep.RegionLaw
namespace Go.Proofs
open Go.Shelf
def Tryz.lays156_ren : Go.Shelf.Ren := ⟨fun | 156 => 60 | 165 => 90 | 166 => 91 | 169 => 92 | 240 => 140 | 241 => 141 | 276 => 171 | 277 => 172 | n => n, fun | 31 => 114 | 9 => 9 | 3 => 3 | 4 => 4 | 0 => 0 | 20 => 20 | 72 => 161 | 76 => 164 | 70 => 159 | 37 => 153 | 75 => 163 | 127 => 217 | 164 => 242 | 5 => 5 | 80 => 166 | n => n, fun | n => n⟩
theorem Tryz.lays156 : Go.Proofs.Lays.n156 Tryz.prog Tryz.lays156_ren := {
  mixed := by kernel_rfl
  f156 := Tryz.func60.trans (congrArg some (by kernel_rfl))
  f165 := Tryz.func90.trans (congrArg some (by kernel_rfl))
  f166 := Tryz.func91.trans (congrArg some (by kernel_rfl))
  f169 := Tryz.func92.trans (congrArg some (by kernel_rfl))
  f240 := Tryz.func140.trans (congrArg some (by kernel_rfl))
  f241 := Tryz.func141.trans (congrArg some (by kernel_rfl))
  f276 := Tryz.func171.trans (congrArg some (by kernel_rfl))
  f277 := Tryz.func172.trans (congrArg some (by kernel_rfl))
  t0 := Tryz.underlying0
  a0 := Tryz.isAgg0
  z0 := Tryz.sizeOf0
  v0 := Tryz.zeroValue0
  t3 := Tryz.underlying3
  a3 := Tryz.isAgg3
  z3 := Tryz.sizeOf3
  v3 := Tryz.zeroValue3
  t4 := Tryz.underlying4
  a4 := Tryz.isAgg4
  z4 := Tryz.sizeOf4
  v4 := Tryz.zeroValue4
  t9 := Tryz.underlying9
  a9 := Tryz.isAgg9
  z9 := Tryz.sizeOf9
  v9 := Tryz.zeroValue9
  t20 := Tryz.underlying20
  a20 := Tryz.isAgg20
  z20 := Tryz.sizeOf20
  v20 := Tryz.zeroValue20
  t31 := Tryz.underlying114
  a31 := Tryz.isAgg114
  z31 := Tryz.sizeOf114
  v31 := Tryz.zeroValue114
  t37 := Tryz.underlying153
  a37 := Tryz.isAgg153
  z37 := Tryz.sizeOf153
  v37 := Tryz.zeroValue153
  t70 := Tryz.underlying159
  a70 := Tryz.isAgg159
  z70 := Tryz.sizeOf159
  v70 := Tryz.zeroValue159
  t72 := Tryz.underlying161
  a72 := Tryz.isAgg161
  z72 := Tryz.sizeOf161
  v72 := Tryz.zeroValue161
  t75 := Tryz.underlying163
  a75 := Tryz.isAgg163
  z75 := Tryz.sizeOf163
  v75 := Tryz.zeroValue163
  t76 := Tryz.underlying164
  a76 := Tryz.isAgg164
  z76 := Tryz.sizeOf164
  v76 := Tryz.zeroValue164
  t127 := Tryz.underlying217
  a127 := Tryz.isAgg217
  z127 := Tryz.sizeOf217
  v127 := Tryz.zeroValue217
  t164 := Tryz.underlying242
  a164 := Tryz.isAgg242
  z164 := Tryz.sizeOf242
  v164 := Tryz.zeroValue242 }
theorem Tryz.Builder_Extra_156 : Builder.Extra Tryz.prog Tryz.lays156_ren := {
  sizeBuilder := by kernel_rfl
  liesBuilder := by kernel_rfl
  t5 := Tryz.underlying5
  a5 := Tryz.isAgg5
  z5 := Tryz.sizeOf5
  v5 := Tryz.zeroValue5
  infoByte := by kernel_rfl
  cellsByte := by kernel_rfl
  sizeByte := by kernel_rfl
  neB5 := by decide }
open Go.RowKit in
/-- No element: the empty string; the world is as it was. (Whatever the slice's address and capacity: a nil slice too.) (LAID: no walk: one application.) -/
theorem Tryz.strings_Join_none (a : Option Addr) (c : Nat) (sep : ByteArray) (w : World) :
    Calls Tryz.prog 60 #[.slice a 0 c, .string sep] w fun e w' => e = .returned (.string ⟨#[]⟩) ∧ w' = w := Any.strings_Join_none Tryz.lays156 Tryz.Builder_Extra_156 a c sep w
open Go.RowKit in
/-- strings.Join: "Join concatenates the elements of its first argument to create a single string. The separator string sep is placed between elements in the resulting string.": HOWEVER MANY ELEMENTS. Below the heap's end the world is as it was. (LAID: no walk: one application.) -/
theorem Tryz.strings_Join (bk o c : Nat) (xs : List ByteArray) (sep : ByteArray) (w : World) (hcells : ∀ (j : Nat) x, xs[j]? = some x → w.cell? ⟨bk, o + j, none⟩ = some (.string x)) (hbk : bk < w.heap.size) (hN : xs.length ≤ 140737488355328) (hcap : xs.length ≤ c) (hlen : (Lib.join (xs.map (·.data.toList)) sep.data.toList).length ≤ 140737488355328) :
    Calls Tryz.prog 60 #[.slice (some ⟨bk, o, none⟩) xs.length c, .string sep] w fun e w' => e = .returned (.string ⟨(Lib.join (xs.map (·.data.toList)) sep.data.toList).toArray⟩) ∧ Below w.heap.size w w' := Any.strings_Join Tryz.lays156 Tryz.Builder_Extra_156 bk o c xs sep w hcells hbk hN hcap hlen
def Tryz.lays106_ren : Go.Shelf.Ren := ⟨fun | 106 => 42 | 213 => 76 | 265 => 127 | n => n, fun | 9 => 9 | 3 => 3 | n => n, fun | n => n⟩
theorem Tryz.lays106 : Go.Proofs.Lays.n106 Tryz.prog Tryz.lays106_ren := {
  mixed := by kernel_rfl
  f106 := Tryz.func42.trans (congrArg some (by kernel_rfl))
  f213 := Tryz.func76.trans (congrArg some (by kernel_rfl))
  f265 := Tryz.func127.trans (congrArg some (by kernel_rfl))
  t3 := Tryz.underlying3
  a3 := Tryz.isAgg3
  z3 := Tryz.sizeOf3
  v3 := Tryz.zeroValue3
  t9 := Tryz.underlying9
  a9 := Tryz.isAgg9
  z9 := Tryz.sizeOf9
  v9 := Tryz.zeroValue9 }
open Go.RowKit in
/-- strings.Compare: "Compare returns an integer comparing two strings lexicographically. The result will be 0 if a == b, -1 if a < b, and +1 if a > b.": IT RETURNS 'Lib.compareBytes a b'; the world is as it was. (LAID: no walk: one application.) -/
theorem Tryz.strings_Compare (a b : ByteArray) (w : World) :
    Calls Tryz.prog 42 #[.string a, .string b] w fun e w' => e = .returned (.int .i64 (Lib.compareBytes a.data.toList b.data.toList)) ∧ w' = w := Any.strings_Compare Tryz.lays106 a b w
def Tryz.lays145_ren : Go.Shelf.Ren := ⟨fun | 145 => 53 | 220 => 86 | 219 => 134 | 217 => 163 | 225 => 164 | 224 => 165 | 267 => 166 | 266 => 176 | 314 => 177 | n => n, fun | 9 => 9 | 4 => 4 | 59 => 117 | 3 => 3 | 5 => 5 | 46 => 147 | 146 => 249 | 51 => 209 | n => n, fun | 1 => 0 | n => n⟩
theorem Tryz.lays145 : Go.Proofs.Lays.n145 Tryz.prog Tryz.lays145_ren := {
  mixed := by kernel_rfl
  f145 := Tryz.func53.trans (congrArg some (by kernel_rfl))
  f217 := Tryz.func163.trans (congrArg some (by kernel_rfl))
  f219 := Tryz.func134.trans (congrArg some (by kernel_rfl))
  f220 := Tryz.func86.trans (congrArg some (by kernel_rfl))
  f224 := Tryz.func165.trans (congrArg some (by kernel_rfl))
  f225 := Tryz.func164.trans (congrArg some (by kernel_rfl))
  f266 := Tryz.func176.trans (congrArg some (by kernel_rfl))
  f267 := Tryz.func166.trans (congrArg some (by kernel_rfl))
  f314 := Tryz.func177.trans (congrArg some (by kernel_rfl))
  t3 := Tryz.underlying3
  a3 := Tryz.isAgg3
  z3 := Tryz.sizeOf3
  v3 := Tryz.zeroValue3
  t4 := Tryz.underlying4
  a4 := Tryz.isAgg4
  z4 := Tryz.sizeOf4
  v4 := Tryz.zeroValue4
  t5 := Tryz.underlying5
  a5 := Tryz.isAgg5
  z5 := Tryz.sizeOf5
  v5 := Tryz.zeroValue5
  t9 := Tryz.underlying9
  a9 := Tryz.isAgg9
  z9 := Tryz.sizeOf9
  v9 := Tryz.zeroValue9
  t46 := Tryz.underlying147
  a46 := Tryz.isAgg147
  z46 := Tryz.sizeOf147
  v46 := Tryz.zeroValue147
  t51 := Tryz.underlying209
  a51 := Tryz.isAgg209
  z51 := Tryz.sizeOf209
  v51 := Tryz.zeroValue209
  t59 := Tryz.underlying117
  a59 := Tryz.isAgg117
  z59 := Tryz.sizeOf117
  v59 := Tryz.zeroValue117
  t146 := Tryz.underlying249
  a146 := Tryz.isAgg249
  z146 := Tryz.sizeOf249
  v146 := Tryz.zeroValue249
  g1 := by kernel_rfl }
open Go.RowKit Go.Lib in
/-- strings.Cut: "Cut slices s around the first instance of sep, returning the text before and after sep. The found result reports whether sep appears in s. If sep does not appear in s, cut returns s, "", false.": IT RETURNS 'Lib.cut s sep'; the world is as it was but for the count of draws. (LAID: no walk: one application.) -/
theorem Tryz.strings_Cut (s sep : ByteArray) (m : Int) (w : World) (hs : s.size < 4294967281) (hm : w.cell? ⟨0, 0, none⟩ = some (.int .i64 m)) :
    Calls Tryz.prog 53 #[.string s, .string sep] w fun e w' => e = .returned (.tuple #[.string ⟨(Lib.cut s.data.toList sep.data.toList).1.toArray⟩, .string ⟨(Lib.cut s.data.toList sep.data.toList).2.1.toArray⟩, .bool (Lib.cut s.data.toList sep.data.toList).2.2]) ∧ ∃ n, w' = w.drewN n := Any.strings_Cut Tryz.lays145 s sep m w hs hm
def Tryz.lays99_ren : Go.Shelf.Ren := ⟨fun | 99 => 93 | 206 => 142 | n => n, fun | 9 => 9 | 4 => 4 | 3 => 3 | n => n, fun | n => n⟩
theorem Tryz.lays99 : Go.Proofs.Lays.n99 Tryz.prog Tryz.lays99_ren := {
  mixed := by kernel_rfl
  f99 := Tryz.func93.trans (congrArg some (by kernel_rfl))
  f206 := Tryz.func142.trans (congrArg some (by kernel_rfl))
  t3 := Tryz.underlying3
  a3 := Tryz.isAgg3
  z3 := Tryz.sizeOf3
  v3 := Tryz.zeroValue3
  t4 := Tryz.underlying4
  a4 := Tryz.isAgg4
  z4 := Tryz.sizeOf4
  v4 := Tryz.zeroValue4
  t9 := Tryz.underlying9
  a9 := Tryz.isAgg9
  z9 := Tryz.sizeOf9
  v9 := Tryz.zeroValue9 }
open Go.RowKit Go.Lib in
/-- strings.HasPrefix: "HasPrefix reports whether the string s begins with prefix.": IT RETURNS 'Lib.hasPrefix s prefix'; the world is as it was. (LAID: no walk: one application.) -/
theorem Tryz.strings_HasPrefix (s p : ByteArray) (w : World) :
    Calls Tryz.prog 93 #[.string s, .string p] w fun e w' => e = .returned (.bool (Lib.hasPrefix s.data.toList p.data.toList)) ∧ w' = w := Any.strings_HasPrefix Tryz.lays99 s p w
def Tryz.lays146_ren : Go.Shelf.Ren := ⟨fun | 146 => 54 | 221 => 87 | 268 => 135 | 138 => 136 | 143 => 137 | 195 => 167 | 197 => 168 | 218 => 169 | 219 => 134 | 260 => 178 | 217 => 163 | 225 => 164 | 224 => 165 | 267 => 166 | 266 => 176 | 314 => 177 | n => n, fun | 9 => 9 | 31 => 114 | 3 => 3 | 4 => 4 | 0 => 0 | 105 => 240 | 21 => 21 | 5 => 5 | 46 => 147 | 119 => 251 | 139 => 254 | 138 => 253 | 146 => 249 | 51 => 209 | n => n, fun | 1 => 0 | 3 => 1 | 4 => 2 | n => n⟩
theorem Tryz.lays146 : Go.Proofs.Lays.n146 Tryz.prog Tryz.lays146_ren := {
  mixed := by kernel_rfl
  f138 := Tryz.func136.trans (congrArg some (by kernel_rfl))
  f143 := Tryz.func137.trans (congrArg some (by kernel_rfl))
  f146 := Tryz.func54.trans (congrArg some (by kernel_rfl))
  f195 := Tryz.func167.trans (congrArg some (by kernel_rfl))
  f197 := Tryz.func168.trans (congrArg some (by kernel_rfl))
  f217 := Tryz.func163.trans (congrArg some (by kernel_rfl))
  f218 := Tryz.func169.trans (congrArg some (by kernel_rfl))
  f219 := Tryz.func134.trans (congrArg some (by kernel_rfl))
  f221 := Tryz.func87.trans (congrArg some (by kernel_rfl))
  f224 := Tryz.func165.trans (congrArg some (by kernel_rfl))
  f225 := Tryz.func164.trans (congrArg some (by kernel_rfl))
  f260 := Tryz.func178.trans (congrArg some (by kernel_rfl))
  f266 := Tryz.func176.trans (congrArg some (by kernel_rfl))
  f267 := Tryz.func166.trans (congrArg some (by kernel_rfl))
  f268 := Tryz.func135.trans (congrArg some (by kernel_rfl))
  f314 := Tryz.func177.trans (congrArg some (by kernel_rfl))
  t0 := Tryz.underlying0
  a0 := Tryz.isAgg0
  z0 := Tryz.sizeOf0
  v0 := Tryz.zeroValue0
  t3 := Tryz.underlying3
  a3 := Tryz.isAgg3
  z3 := Tryz.sizeOf3
  v3 := Tryz.zeroValue3
  t4 := Tryz.underlying4
  a4 := Tryz.isAgg4
  z4 := Tryz.sizeOf4
  v4 := Tryz.zeroValue4
  t5 := Tryz.underlying5
  a5 := Tryz.isAgg5
  z5 := Tryz.sizeOf5
  v5 := Tryz.zeroValue5
  t9 := Tryz.underlying9
  a9 := Tryz.isAgg9
  z9 := Tryz.sizeOf9
  v9 := Tryz.zeroValue9
  t21 := Tryz.underlying21
  a21 := Tryz.isAgg21
  z21 := Tryz.sizeOf21
  v21 := Tryz.zeroValue21
  t31 := Tryz.underlying114
  a31 := Tryz.isAgg114
  z31 := Tryz.sizeOf114
  v31 := Tryz.zeroValue114
  t46 := Tryz.underlying147
  a46 := Tryz.isAgg147
  z46 := Tryz.sizeOf147
  v46 := Tryz.zeroValue147
  t51 := Tryz.underlying209
  a51 := Tryz.isAgg209
  z51 := Tryz.sizeOf209
  v51 := Tryz.zeroValue209
  t105 := Tryz.underlying240
  a105 := Tryz.isAgg240
  z105 := Tryz.sizeOf240
  v105 := Tryz.zeroValue240
  t119 := Tryz.underlying251
  a119 := Tryz.isAgg251
  z119 := Tryz.sizeOf251
  t138 := Tryz.underlying253
  a138 := Tryz.isAgg253
  z138 := Tryz.sizeOf253
  v138 := Tryz.zeroValue253
  t139 := Tryz.underlying254
  a139 := Tryz.isAgg254
  z139 := Tryz.sizeOf254
  v139 := Tryz.zeroValue254
  t146 := Tryz.underlying249
  a146 := Tryz.isAgg249
  z146 := Tryz.sizeOf249
  v146 := Tryz.zeroValue249
  g1 := by kernel_rfl
  g3 := by kernel_rfl
  g4 := by kernel_rfl }
open Go.RowKit Go.Lib in
/-- strings.Split. (LAID: no walk: one application.) -/
theorem Tryz.strings_Split (s sep : ByteArray) (m : Int) (w : World) (hs : s.size < 4294967281) (hm : w.cell? ⟨0, 0, none⟩ = some (.int .i64 m)) (h1 : 1 ≤ sep.size) :
    Calls Tryz.prog 54 #[.string s, .string sep] w fun e w' =>
      e = .returned (.slice (some ⟨w.heap.size, 0, none⟩) (Lib.countB s sep + 1) (Lib.countB s sep + 1)) ∧ w' = w.alloc (.cells ((Lib.splitB sep 0 (Lib.countB s sep) s).map Value.string).toArray 9) := Any.strings_Split Tryz.lays146 (by kernel_rfl) s sep m w hs hm h1
def Tryz.lays110_ren : Go.Shelf.Ren := ⟨fun | 110 => 55 | 109 => 88 | n => n, fun | 31 => 114 | 9 => 9 | 4 => 4 | 3 => 3 | 0 => 0 | n => n, fun | n => n⟩
theorem Tryz.lays110 : Go.Proofs.Lays.n110 Tryz.prog Tryz.lays110_ren := {
  mixed := by kernel_rfl
  f109 := Tryz.func88.trans (congrArg some (by kernel_rfl))
  f110 := Tryz.func55.trans (congrArg some (by kernel_rfl))
  t0 := Tryz.underlying0
  a0 := Tryz.isAgg0
  z0 := Tryz.sizeOf0
  v0 := Tryz.zeroValue0
  t3 := Tryz.underlying3
  a3 := Tryz.isAgg3
  z3 := Tryz.sizeOf3
  v3 := Tryz.zeroValue3
  t4 := Tryz.underlying4
  a4 := Tryz.isAgg4
  z4 := Tryz.sizeOf4
  v4 := Tryz.zeroValue4
  t9 := Tryz.underlying9
  a9 := Tryz.isAgg9
  z9 := Tryz.sizeOf9
  v9 := Tryz.zeroValue9
  t31 := Tryz.underlying114
  a31 := Tryz.isAgg114
  z31 := Tryz.sizeOf114
  v31 := Tryz.zeroValue114 }
open Go.Lib in
/-- slices.Contains at []string: "Contains reports whether v is present in s.": IT RETURNS 'Lib.containsS (the elements) v', which is true just where v is among them ('Lib.containsS_iff'); the world is as it was. ITS CALLEE slices.Index IS MET BY ITS OWN CONTRACT OFF THE SHELF (lay that first): no loop is walked here. (LAID: no walk: one application.) -/
theorem Tryz.slices_Contains_string (b off n c : Nat) (zs : List ByteArray) (x : ByteArray) (w : World) (hz : n ≤ zs.length) (hbig : n ≤ 9223372036854775807) (hc : ∀ j, j < zs.length → w.cell? ⟨b, off + j, none⟩ = some (.string (zs.getD j ByteArray.empty))) :
    Calls Tryz.prog 55 #[.slice (some ⟨b, off, none⟩) n c, .string x] w fun e w' => e = .returned (.bool (Lib.containsS (zs.take n) x)) ∧ w' = w := Any.slices_Contains_string Tryz.lays110 b off n c zs x w hz hbig hc
open Go.Lib in
/-- The same at a slice of length 0, a nil one too. (LAID: no walk: one application.) -/
theorem Tryz.slices_Contains_string_empty (a : Option Addr) (c : Nat) (x : ByteArray) (w : World) :
    Calls Tryz.prog 55 #[.slice a 0 c, .string x] w fun e w' => e = .returned (.bool false) ∧ w' = w := Any.slices_Contains_string_empty Tryz.lays110 a c x w
end Go.Proofs

/- tidyPath: a path without parts that say nothing. -/
namespace Go.Proofs.YtgohddfnhofjhaaGreatDoor
open Go.RowKit Go.Lib

def encS (x : ByteArray) : List Value := [.string x]
theorem encS_len (x : ByteArray) : (encS x).length = 1 := rfl
theorem infoS : (Tryz.prog.info? 9).map (fun i => (i.zero, i.size, i.bytes)) = some (some (.string ⟨#[]⟩), 1, 16) := by kernel_rfl
theorem slS : SlT Tryz.prog 114 9 1 16 := by
  obtain ⟨i0, hi, hz0, hz1, hz2⟩ := info_parts infoS
  exact ⟨i0, _, Tryz.underlying114, hi, hz0, hz1, hz2, rfl, by decide, by decide⟩

theorem flatS (L : List ByteArray) : L.flatMap encS = L.map Value.string := by
  induction L with
  | nil => rfl
  | cons x r ih => rw [List.flatMap_cons, ih]; rfl

/-- A slice of the call's own, cut to its first n elements. -/
theorem Own.cut {α : Type} {w : World} {base : Nat} {E : TypeId} {k : Nat} {enc : α → List Value} {ao : Option Addr} {L cap : Nat} {l : List α} (hk : ∀ x, (enc x).length = k) (h : Own w base E k enc (.slice ao L cap) l) (n : Nat) (hn : n ≤ L) : Own w base E k enc (.slice ao n cap) (l.take n) := by
  obtain ⟨h1, h2⟩ := h
  rcases h2 with ⟨h2, h3⟩ | ⟨g, cap', cur, hv, hg, hh, hn', hm, hs, ht⟩
  · simp only [Value.slice.injEq] at h2
    obtain ⟨rfl, rfl, rfl⟩ := h2
    obtain rfl : n = 0 := by omega
    simp only [List.take_zero]
    exact Own.nil
  · simp only [Value.slice.injEq] at hv
    obtain ⟨rfl, rfl, rfl⟩ := hv
    have hl : (l.take n).length = n := by simp; omega
    refine ⟨by rw [flatMap_len hk, hl], .inr ⟨g, cap, cur, by rw [hl], hg, hh, by rw [hl]; omega, hm, hs, ?_⟩⟩
    rw [hl]
    have e : cur.toList.take (n * k) = (cur.toList.take (l.length * k)).take (n * k) := by
      rw [List.take_take]
      congr 1
      have := Nat.mul_le_mul_right k hn
      omega
    rw [e, ht]
    have : l.flatMap enc = (l.take n).flatMap enc ++ (l.drop n).flatMap enc := by rw [← List.flatMap_append, List.take_append_drop]
    rw [this, List.take_left' (by rw [flatMap_len hk, hl])]

def tidStep (L : List ByteArray) (p : ByteArray) : List ByteArray := if p = ⟨#[]⟩ ∨ p = ⟨#[46]⟩ then L else if p = ⟨#[46, 46]⟩ then L.take (L.length - 1) else L ++ [p]
/-- What is left behind the first n parts. -/
def tidL (ps : List ByteArray) : Nat → List ByteArray
  | 0 => []
  | n + 1 => tidStep (tidL ps n) (ps.getD n ⟨#[]⟩)
def lastL (ps : List ByteArray) : Nat → ByteArray
  | 0 => ⟨#[]⟩
  | n + 1 => ps.getD n ⟨#[]⟩
theorem tidL_len (ps : List ByteArray) : ∀ n, (tidL ps n).length ≤ n
  | 0 => Nat.le_refl _
  | n + 1 => by
    have := tidL_len ps n
    unfold tidL tidStep
    split
    · omega
    · split
      · simp; omega
      · simp; omega
theorem tidL_mem (ps : List ByteArray) : ∀ n, n ≤ ps.length → ∀ x, x ∈ tidL ps n → x ∈ ps
  | 0, _, x, h => by simp [tidL] at h
  | n + 1, hn, x, h => by
    have ih := tidL_mem ps n (by omega)
    unfold tidL tidStep at h
    split at h
    · exact ih x h
    · split at h
      · exact ih x (List.mem_of_mem_take h)
      · rw [List.mem_append, List.mem_singleton] at h
        rcases h with h | rfl
        · exact ih x h
        · rw [List.getD_eq_getElem?_getD, List.getElem?_eq_getElem (by omega), Option.getD_some]
          exact List.getElem_mem _
theorem str_ne {x y : ByteArray} (h : ¬ x = y) : (x.toList == y.data.toList) = false := by
  rw [beq_eq_false_iff_ne, ByteArray.toList_eq]
  exact fun e => h (bytes_ext e)
theorem str_ne3 {x : ByteArray} (e1 : ¬ x = ⟨#[]⟩) (e2 : ¬ x = ⟨#[46]⟩) (e3 : ¬ x = ⟨#[46, 46]⟩) : (x.toList == []) = false ∧ (x.toList == [46]) = false ∧ (x.toList == [46, 46]) = false :=
  ⟨str_ne e1, str_ne e2, str_ne e3⟩
def joinB (L : List ByteArray) (sep : ByteArray) : ByteArray := ⟨(Lib.join (L.map (·.data.toList)) sep.data.toList).toArray⟩
def slashB (ps : List ByteArray) : Bool := decide (0 < (tidL ps ps.length).length) && decide (lastL ps ps.length = ⟨#[]⟩ ∨ lastL ps ps.length = ⟨#[46]⟩ ∨ lastL ps ps.length = ⟨#[46, 46]⟩)
/-- The path that tidyPath makes of parts. -/
def tidyB (ps : List ByteArray) : ByteArray := if slashB ps = true then (⟨#[47]⟩ ++ joinB (tidL ps ps.length) ⟨#[47]⟩) ++ ⟨#[47]⟩ else ⟨#[47]⟩ ++ joinB (tidL ps ps.length) ⟨#[47]⟩

theorem split_any (s sep : ByteArray) (m : Int) (w : World) (hs : s.size < 4294967281) (hm : w.cell? ⟨0, 0, none⟩ = some (.int .i64 m)) (h1 : 1 ≤ sep.size) :
    Calls Tryz.prog 54 #[.string s, .string sep] w fun e w' => e = .returned (.slice (some ⟨w.heap.size, 0, none⟩) (wordsB s sep).length (wordsB s sep).length) ∧ w' = w.alloc (.cells ((wordsB s sep).map Value.string).toArray 9) := by
  have h := Tryz.strings_Split s sep m w hs hm h1
  rw [words_length s sep h1]
  exact h
theorem cut_any (s sep : ByteArray) (m : Int) (w : World) (hs : s.size < 4294967281) (hm : w.cell? ⟨0, 0, none⟩ = some (.int .i64 m)) :
    Calls Tryz.prog 53 #[.string s, .string sep] w fun e w' => e = .returned (.tuple #[.string ⟨(Lib.cut s.data.toList sep.data.toList).1.toArray⟩, .string ⟨(Lib.cut s.data.toList sep.data.toList).2.1.toArray⟩, .bool (Lib.cut s.data.toList sep.data.toList).2.2]) ∧ ∃ n, w' = w.drewN n := Tryz.strings_Cut s sep m w hs hm
theorem lens_bound {L : List ByteArray} {n : Nat} (h : ∀ x, x ∈ L → x.size ≤ n) : Lib.lens (L.map (·.data.toList)) ≤ n * L.length := by
  induction L with
  | nil => simp [Lib.lens]
  | cons x r ih =>
    have h1 := ih (fun y hy => h y (by simp [hy]))
    have h2 := h x (by simp)
    rw [size_eq] at h2
    simp only [List.map_cons, List.length_cons, Lib.lens, List.sum_cons] at *
    rw [Nat.mul_succ]
    omega
theorem joinB_len {L : List ByteArray} {sep : ByteArray} {n : Nat} (h : ∀ x, x ∈ L → x.size ≤ n) : (Lib.join (L.map (·.data.toList)) sep.data.toList).length ≤ (n + sep.size) * L.length := by
  cases L with
  | nil => simp [Lib.join_nil]
  | cons x r =>
    have h1 := lens_bound h
    rw [List.map_cons] at h1 ⊢
    rw [Lib.join_length, ← size_eq sep]
    simp only [List.length_map, List.length_cons] at *
    rw [Nat.add_mul, Nat.mul_succ sep.size]
    omega
theorem ret_str {a b : ByteArray} (h : a = b) : Ending.returned (.string a) = .returned (.string b) := by rw [h]
/-- strings.Join of what reads as a list. -/
theorem join_any (L : List ByteArray) (sep : ByteArray) (v : Value) (w : World) (hl : Sl w 1 encS v L) (h : ∀ x, x ∈ L → x.size ≤ 1000) (hL : L.length ≤ 1000) (hs : sep.size ≤ 10) :
    Calls Tryz.prog 60 #[v, .string sep] w fun e w' => e = .returned (.string (joinB L sep)) ∧ Below w.heap.size w w' := by
  obtain ⟨ao, cap, rfl, hcap, hmax, hnil, hel⟩ := hl
  by_cases he : L = []
  · subst he
    refine (Tryz.strings_Join_none ao cap sep w).mono ?_
    rintro e w' ⟨rfl, rfl⟩
    exact ⟨rfl, Below.refl _ _⟩
  · have h0 : 0 < L.length := List.length_pos_iff.2 he
    obtain ⟨b, off, rfl, hc0⟩ := hel 0 L[0] (by simp)
    refine Tryz.strings_Join b off cap L sep w (fun j x hx => ?_) ?_ (by omega) hcap ?_
    · obtain ⟨b', off', e, hc⟩ := hel j x hx
      simp only [Option.some.injEq, Addr.mk.injEq, and_true] at e
      obtain ⟨rfl, rfl⟩ := e
      have := hc 0 _ rfl
      simpa using this
    · exact World.block_lt_of_cell? w _ (hc0 0 _ rfl)
    · have h1 := joinB_len (sep := sep) h
      have h2 : (1000 + sep.size) * L.length ≤ 1010 * 1000 := Nat.mul_le_mul (by omega) hL
      omega

set_option maxRecDepth 100000 in
set_option maxHeartbeats 4000000 in
theorem tidy_any (s : ByteArray) (w : World) (m : Int) (hs : s.size ≤ 1000) (hm : w.cell? ⟨0, 0, none⟩ = some (.int .i64 m)) (hW : (wordsB s ⟨#[47]⟩).length ≤ 1000) (hw : ∀ x, x ∈ wordsB s ⟨#[47]⟩ → x.size ≤ 1000) :
    Calls Tryz.prog 59 #[.string s] w fun e w' => e = .returned (.string (tidyB (wordsB s ⟨#[47]⟩))) ∧ Below w.heap.size w w' := by
  have HSP := Lib.hid (split_any s ⟨#[47]⟩ m w (by omega) hm (by decide))
  have HM := Lib.hid hm
  obtain ⟨W, hWe⟩ : ∃ W, W = wordsB s ⟨#[47]⟩ := ⟨_, rfl⟩
  rw [← hWe] at hW hw HSP ⊢
  have HW := Lib.hid hw
  have HWL := Lib.hid hW
  clear hWe hm hw hs
  have hWz : (W.length : Int) ≤ 1000 := by omega
  obtain ⟨R, hR⟩ : ∃ R, R = tidyB W := ⟨_, rfl⟩
  rw [← hR]
  have HR := Lib.hid hR
  clear hR
  have HSl : Hid (Sl (w.alloc (.cells (W.map Value.string).toArray 9)) 1 encS (.slice (some ⟨w.heap.size, 0, none⟩) W.length W.length) W) := Lib.hid (by
    have h := Sl.fresh encS_len w 9 (0, 0) W (by unfold maxLen; omega)
    rw [flatS] at h
    exact h)
  have HEL : Hid (∀ (k : Nat) (x : ByteArray), W[k]? = some x → (w.alloc (.cells (W.map Value.string).toArray 9)).cell? ⟨w.heap.size, k, none⟩ = some (.string x)) := Lib.hid (fun k x hx => by
    rw [cell_of_block (block_new w _)]
    simp [hx])
  clear HSl
  have HB0 : Hid (Below w.heap.size w (w.alloc (.cells (W.map Value.string).toArray 9))) := Lib.hid ((Below.refl _ _).alloc (Nat.le_refl _) _)
  have HSZ : Hid ((w.alloc (.cells (W.map Value.string).toArray 9)).heap.size = w.heap.size + 1) := Lib.hid (by simp)
  go_enter Tryz.func59, Tryz.ntmps59
  go_wp2_with (go_at_call 54; refine (HSP.out).mono ?_; rintro e w2 ⟨rfl, rfl⟩)
  obtain ⟨w2, hw2⟩ : ∃ w2, w2 = w.alloc (.cells (W.map Value.string).toArray 9) := ⟨_, rfl⟩
  rw [← hw2] at HEL HB0 HSZ ⊢
  clear hw2 HSP
  have hA0 : w.heap.size < w2.heap.size := by have := HSZ.out; omega
  go_loopg [3, 4, 11] W.length (fun gg s3 s4 s11 wr => ∃ kk : Nat, kk ≤ W.length ∧ W.length - kk ≤ gg ∧ s11 = .int .i64 kk ∧ s4 = .string (lastL W kk) ∧ Aside (Own wr w2.heap.size 9 1 encS s3 (tidL W kk)) ∧ Aside (Below w2.heap.size w2 wr))
  case atStart => exact ⟨0, Nat.zero_le _, by omega, by go_num, rfl, Own.nil, Below.refl _ _⟩
  case round =>
    obtain ⟨kk, hkk, hg, rfl, rfl, OW, BW⟩ := hrel
    have HOW := Lib.hid OW.out
    have HBW := Lib.hid BW.out
    have hszw := HBW.out.size
    obtain ⟨T, hT⟩ : ∃ T, T = tidL W kk := ⟨_, rfl⟩
    have hTL := tidL_len W kk
    rw [← hT] at HOW hTL
    have HT := Lib.hid hT
    clear hT OW BW
    obtain ⟨ao5, cp5, rfl, hcap5, hmax5, _, _⟩ := Own.sl HOW.out encS_len
    unfold maxLen at hmax5
    by_cases hlt : kk < W.length
    · have hltz : (kk : Int) < (W.length : Int) := by omega
      obtain ⟨x, hx⟩ : ∃ x, W[kk]? = some x := ⟨W[kk], by simp [hlt]⟩
      have c0 : wr.cell? ⟨w.heap.size, kk, none⟩ = some (.string x) := (HBW.out.cell (p := ⟨w.heap.size, kk, none⟩) hA0).trans (HEL.out kk x hx)
      have HLN : Hid (lastL W (kk + 1) = x) := Lib.hid (by simp [lastL, List.getD_eq_getElem?_getD, hx])
      have HTN : Hid (tidL W (kk + 1) = tidStep T x) := Lib.hid (by rw [HT.out]; simp [tidL, List.getD_eq_getElem?_getD, hx])
      clear hx
      by_cases e1 : x = ⟨#[]⟩
      · subst e1
        have HN : Hid (tidL W (kk + 1) = T) := Lib.hid (by rw [HTN.out]; simp [tidStep])
        go_wp2
        go_roundg (W.length - (kk + 1))
        case measure => omega
        case rel => exact ⟨kk + 1, by omega, by omega, by go_num, by rw [HLN.out], (show Own _ _ _ _ _ _ _ by rw [HN.out]; exact HOW.out), HBW.out⟩
      by_cases e2 : x = ⟨#[46]⟩
      · subst e2
        have HN : Hid (tidL W (kk + 1) = T) := Lib.hid (by rw [HTN.out]; simp [tidStep])
        go_wp2
        go_roundg (W.length - (kk + 1))
        case measure => omega
        case rel => exact ⟨kk + 1, by omega, by omega, by go_num, by rw [HLN.out], (show Own _ _ _ _ _ _ _ by rw [HN.out]; exact HOW.out), HBW.out⟩
      by_cases e3 : x = ⟨#[46, 46]⟩
      · subst e3
        have HN : Hid (tidL W (kk + 1) = T.take (T.length - 1)) := Lib.hid (by rw [HTN.out]; simp [tidStep])
        obtain ⟨q, hq⟩ : ∃ q, q = T.length - 1 := ⟨_, rfl⟩
        have hmx : max 0 ((T.length : Int) - 1) = (q : Int) := by omega
        have hq2 : q ≤ T.length := by omega
        have HQ : Hid (Own wr w2.heap.size 9 1 encS (.slice ao5 q cp5) (T.take (T.length - 1))) := Lib.hid (by rw [← hq]; exact Own.cut encS_len HOW.out q hq2)
        clear hq
        go_wp2
        go_roundg (W.length - (kk + 1))
        case measure => omega
        case rel => exact ⟨kk + 1, by omega, by omega, by go_num, by rw [HLN.out], (show Own _ _ _ _ _ _ _ by rw [HN.out]; exact HQ.out), HBW.out⟩
      · have HN : Hid (tidL W (kk + 1) = T ++ [x]) := Lib.hid (by rw [HTN.out]; simp [tidStep, e1, e2, e3])
        obtain ⟨f1, f2, f3⟩ := str_ne3 e1 e2 e3
        have HK : Hid ((T.length + 1) * 16 ≤ 140737488355328) := Lib.hid (by have := HWL.out; omega)
        clear e1 e2 e3
        go_wp2_with (at_builtin; refine wpList_push rfl _ _ 114 rfl slS rfl rfl x rfl rfl rfl HOW.out rfl HK.out hszw ?_; intro v5 w5 ho5 hb5; obtain ⟨ao6, cp6, rfl, hcap6, hmax6, _, _⟩ := Own.sl ho5 encS_len; have HO5 := Lib.hid ho5; have HB5 := Lib.hid (HBW.out.trans hb5); clear ho5 hb5)
        go_roundg (W.length - (kk + 1))
        case measure => omega
        case rel => exact ⟨kk + 1, by omega, by omega, by go_num, by rw [HLN.out], (show Own _ _ _ _ _ _ _ by rw [HN.out]; have h := HO5.out; rw [List.length_append] at h; exact h), HB5.out⟩
    · obtain rfl : kk = W.length := by omega
      have hltz : ¬ (W.length : Int) < (W.length : Int) := by omega
      have HTM := Lib.hid (tidL_mem W W.length (Nat.le_refl _))
      rw [← HT.out] at HTM
      have HJ := Lib.hid (fun v' w' h => join_any T ⟨#[47]⟩ v' w' h (fun x hx => HW.out x (HTM.out x hx)) (by omega) (by decide))
      have HSL := Lib.hid (Own.sl HOW.out encS_len)
      have HR2 : Hid (R = if (decide (0 < T.length) && decide (lastL W W.length = ⟨#[]⟩ ∨ lastL W W.length = ⟨#[46]⟩ ∨ lastL W W.length = ⟨#[46, 46]⟩)) = true then (⟨#[47]⟩ ++ joinB T ⟨#[47]⟩) ++ ⟨#[47]⟩ else ⟨#[47]⟩ ++ joinB T ⟨#[47]⟩) := Lib.hid (by rw [HR.out, HT.out]; rfl)
      have hJs : (joinB T ⟨#[47]⟩).size ≤ 1010000 := by
        have h1 := joinB_len (L := T) (sep := ⟨#[47]⟩) (fun x hx => HW.out x (HTM.out x hx))
        have h2 : (1000 + (⟨#[47]⟩ : ByteArray).size) * T.length ≤ 1010 * 1000 := Nat.mul_le_mul (by decide) (by omega)
        unfold joinB
        rw [mk_size]
        omega
      obtain ⟨y, hy⟩ : ∃ y, y = lastL W W.length := ⟨_, rfl⟩
      rw [← hy] at HR2 ⊢
      obtain ⟨J, hJ⟩ : ∃ J, J = joinB T ⟨#[47]⟩ := ⟨_, rfl⟩
      rw [← hJ] at HR2 HJ hJs
      clear hy hJ
      have hsz1 : ((⟨#[47]⟩ : ByteArray) ++ J).size = 1 + J.size := by rw [ByteArray.size_append]; rfl
      by_cases hT0 : T.length = 0
      · have hTz : ¬ (0 : Int) < (T.length : Int) := by omega
        have HR3 : Hid (⟨#[47]⟩ ++ J = R) := Lib.hid (by rw [HR2.out, hT0]; simp)
        clear hT0
        go_wp2_with (go_at_call 60; refine (HJ.out _ _ HSL.out).mono ?_; rintro e w3 ⟨rfl, hb3⟩; have HB3 := Lib.hid ((HB0.out.trans (HBW.out.mono (by omega))).trans (hb3.mono (by omega))); clear hb3)
        go_ret
        exact ⟨ret_str HR3.out, HB3.out⟩
      have hTz : (0 : Int) < (T.length : Int) := by omega
      by_cases hY : y = ⟨#[]⟩ ∨ y = ⟨#[46]⟩ ∨ y = ⟨#[46, 46]⟩
      · have HR3 : Hid ((⟨#[47]⟩ ++ J) ++ ⟨#[47]⟩ = R) := Lib.hid (by
          rw [HR2.out, if_pos]
          have : 0 < T.length := by omega
          simp [this, hY])
        clear hT0
        rcases hY with rfl | rfl | rfl
        all_goals
          go_wp2_with (go_at_call 60; refine (HJ.out _ _ HSL.out).mono ?_; rintro e w3 ⟨rfl, hb3⟩; have HB3 := Lib.hid ((HB0.out.trans (HBW.out.mono (by omega))).trans (hb3.mono (by omega))); clear hb3)
          go_ret
          exact ⟨ret_str HR3.out, HB3.out⟩
      · have HR3 : Hid (⟨#[47]⟩ ++ J = R) := Lib.hid (by
          rw [HR2.out, if_neg]
          simp [hY])
        simp only [not_or] at hY
        obtain ⟨f1, f2, f3⟩ := str_ne3 hY.1 hY.2.1 hY.2.2
        clear hT0 hY
        go_wp2_with (go_at_call 60; refine (HJ.out _ _ HSL.out).mono ?_; rintro e w3 ⟨rfl, hb3⟩; have HB3 := Lib.hid ((HB0.out.trans (HBW.out.mono (by omega))).trans (hb3.mono (by omega))); clear hb3)
        go_ret
        exact ⟨ret_str HR3.out, HB3.out⟩
end Go.Proofs.YtgohddfnhofjhaaGreatDoor

/- Push and Pop of events: the walks. -/
namespace Go.Proofs.YtgohddfnhofjhaaGreatDoor
open Go.RowKit

theorem infoEv : (Tryz.prog.info? 133).map (fun i => (i.zero, i.size, i.bytes)) = some (some (.agg #[.int .i64 0, .bool false, .pointer none, .int .i64 0, .int .i64 0, .int .i64 0, .bool false, .string ⟨#[]⟩]), 8, 72) := by kernel_rfl
theorem slEv : SlT Tryz.prog 66 133 8 72 := by
  obtain ⟨i0, hi, hz0, hz1, hz2⟩ := info_parts infoEv
  exact ⟨i0, _, Tryz.underlying66, hi, hz0, hz1, hz2, rfl, by decide, by decide⟩
/-- The queue v, at cell 5 of block Q, became v': what else was there is as it was. -/
structure QChg (Q : Nat) (w w' : World) (v v' : Value) : Prop where
  other : ∀ b, b < w.heap.size → b ≠ Q → offB b v → w'.heap[b]? = w.heap[b]? ∧ offB b v'
  off : offB Q v'
  own : ∀ cs T fr, w.heap[Q]? = some (.cells cs T fr) → w'.heap[Q]? = some (.cells (cs.setIfInBounds 5 v') T fr)
  size : w.heap.size ≤ w'.heap.size
  os : w'.os = w.os
  tape : w'.tape = w.tape
  output : w'.output = w.output
/-- The queue in memory. -/
structure QAt (Q B : Nat) (a : Nat → Nat) (w : World) (v : Value) (l : List Evn) : Prop where
  own : Own w B 133 8 (encE a) v l
  off : offB Q v
  blk : ∃ cs T, w.heap[Q]? = some (.cells cs T (0, 0)) ∧ cs[5]? = some v
  base : B ≤ w.heap.size
theorem QAt.cell {Q B : Nat} {a : Nat → Nat} {w : World} {v : Value} {l : List Evn} (h : QAt Q B a w v l) : w.cell? ⟨Q, 5, none⟩ = some v ∧ w.frozen? ⟨Q, 5, none⟩ = false := by
  obtain ⟨cs, T, h1, h2⟩ := h.blk
  exact ⟨(cell_of_block h1).trans h2, by simp [World.frozen?, h1]⟩
theorem QAt.lt {Q B : Nat} {a : Nat → Nat} {w : World} {v : Value} {l : List Evn} (h : QAt Q B a w v l) : Q < w.heap.size := by
  obtain ⟨cs, T, h1, h2⟩ := h.blk
  exact (Array.getElem?_eq_some_iff.1 h1).1
theorem assertEv (w : World) (x : Value) : (Instr.typeAssert (.iface 133 x) 20 133 false).run Tryz.prog w = .ok x w := by kernel_rfl
/-- What an append and the store of its result make of the queue. -/
theorem push_done {Q B : Nat} {a : Nat → Nat} {w W0 W5 W' : World} {v v5 : Value} {l l' : List Evn} (h : QAt Q B a w v l) (h0 : ∀ b, b < w.heap.size → W0.heap[b]? = w.heap[b]?) (hs0 : w.heap.size ≤ W0.heap.size) (ho0 : W0.os = w.os) (ht0 : W0.tape = w.tape) (hp0 : W0.output = w.output)
    (ho : Own W5 B 133 8 (encE a) v5 l') (hb : Below B W0 W5) (hk : KeepB W0 W5 v v5) (hW : W'.heap = (W5.setCell ⟨Q, 5, none⟩ v5).heap) (hWo : W'.os = W5.os) (hWt : W'.tape = W5.tape) (hWp : W'.output = W5.output) :
    QAt Q B a W' v5 l' ∧ QChg Q w W' v v5 := by
  have hQ := h.lt
  obtain ⟨cs, T, h1, h2⟩ := h.blk
  obtain ⟨k1, k2⟩ := hk Q (by omega) h.off
  have hq5 : W5.heap[Q]? = some (.cells cs T (0, 0)) := k1.trans ((h0 Q hQ).trans h1)
  have hs5 : w.heap.size ≤ W5.heap.size := Nat.le_trans hs0 hb.size
  have hset : ∀ b, b ≠ Q → W'.heap[b]? = W5.heap[b]? := fun b hb => by rw [hW]; exact Below.heap_setCell W5 ⟨Q, 5, none⟩ v5 b hb
  have hown' : ∀ cs T fr, W5.heap[Q]? = some (.cells cs T fr) → W'.heap[Q]? = some (.cells (cs.setIfInBounds 5 v5) T fr) := fun cs T fr hc => by
    rw [hW, setCell_eq_setRow W5 Q 5 cs T fr v5 hc]
    exact setRow_heap W5 Q cs _ T fr hc
  refine ⟨⟨?_, k2, ⟨cs.setIfInBounds 5 v5, T, hown' _ _ _ hq5, ?_⟩, ?_⟩, ⟨fun b hb hbQ hob => ?_, k2, fun cs T fr hc => ?_, ?_, ?_, ?_, ?_⟩⟩
  · obtain ⟨q1, q2⟩ := ho
    refine ⟨q1, ?_⟩
    rcases q2 with q2 | ⟨g, cap, cur, e1, e2, e3, r⟩
    · exact Or.inl q2
    · exact Or.inr ⟨g, cap, cur, e1, e2, (hset g (fun e => k2 _ _ _ e1 (by show g = Q; exact e))).trans e3, r⟩
  · have hlt : 5 < cs.size := (Array.getElem?_eq_some_iff.1 h2).1
    simp [hlt]
  · rw [hW]
    have := h.base
    simp
    omega
  · obtain ⟨m1, m2⟩ := hk b (by omega) hob
    exact ⟨(hset b hbQ).trans (m1.trans (h0 b hb)), m2⟩
  · exact hown' _ _ _ (k1.trans ((h0 Q hQ).trans hc))
  · rw [hW]; simp; omega
  · rw [hWo, hb.os, ho0]
  · rw [hWt, hb.tape, ht0]
  · rw [hWp, hb.output, hp0]
theorem q_after {Q B : Nat} {a : Nat → Nat} {w W0 W5 : World} {v v5 : Value} {l : List Evn} (h : QAt Q B a w v l) (h0 : ∀ b, b < w.heap.size → W0.heap[b]? = w.heap[b]?) (hs0 : w.heap.size ≤ W0.heap.size) (hk : KeepB W0 W5 v v5) :
    W5.cell? ⟨Q, 5, none⟩ = some v ∧ W5.frozen? ⟨Q, 5, none⟩ = false := by
  have hQ := h.lt
  obtain ⟨cs, T, h1, h2⟩ := h.blk
  have hq5 := (hk Q (by omega) h.off).1.trans ((h0 Q hQ).trans h1)
  exact ⟨(cell_of_block hq5).trans h2, by simp [World.frozen?, hq5]⟩
set_option maxRecDepth 100000 in
set_option maxHeartbeats 4000000 in
theorem evPush_any (w : World) (Q B : Nat) (a : Nat → Nat) (v : Value) (l : List Evn) (e : Evn) (h : QAt Q B a w v l) (hl : l.length ≤ 1000000) :
    Calls Tryz.prog 203 #[.pointer (some ⟨Q, 5, none⟩), .iface 133 (.agg (encE a e).toArray)] w fun r w' => r = .returned (.tuple #[]) ∧ ∃ v', QAt Q B a w' v' (l ++ [e]) ∧ QChg Q w w' v v' := by
  obtain ⟨c5, f5⟩ := h.cell
  have HQ := Lib.hid h
  have hQlt := h.lt
  obtain ⟨ao, n, cp, rfl⟩ := Own.slv (encE_len a) h.own
  have hsz := h.base
  clear h
  show Calls Tryz.prog 203 #[.pointer (some ⟨Q, 5, none⟩), .iface 133 (.agg #[.int .i64 e.ti, .bool e.bk, .pointer (some ⟨a e.ak, 0, none⟩), .int .i64 e.an.ve, .int .i64 e.an.bo, .int .i64 e.an.si, .bool e.an.no, .string e.an.fr])] w _
  go_enter Tryz.func203, Tryz.ntmps203
  have hta := assertEv
  have HO1 : Hid (Own (w.alloc (.cells #[.int .i64 e.ti, .bool e.bk, .pointer (some ⟨a e.ak, 0, none⟩), .int .i64 e.an.ve, .int .i64 e.an.bo, .int .i64 e.an.si, .bool e.an.no, .string e.an.fr] 133)).drew B 133 8 (encE a) (.slice ao n cp) l) := Lib.hid (HQ.out.own.al _).drew1
  have HA1 : Hid ((w.alloc (.cells #[.int .i64 e.ti, .bool e.bk, .pointer (some ⟨a e.ak, 0, none⟩), .int .i64 e.an.ve, .int .i64 e.an.bo, .int .i64 e.an.si, .bool e.an.no, .string e.an.fr] 133)).drew.heap[w.heap.size]? = some (.cells (encE a e).toArray 133 (0, 0))) := Lib.hid (block_new w _)
  have H00 : Hid (∀ b, b < w.heap.size → (w.alloc (.cells #[.int .i64 e.ti, .bool e.bk, .pointer (some ⟨a e.ak, 0, none⟩), .int .i64 e.an.ve, .int .i64 e.an.bo, .int .i64 e.an.si, .bool e.an.no, .string e.an.fr] 133)).drew.heap[b]? = w.heap[b]?) := Lib.hid (fun b hb => Below.heap_alloc w _ b hb)
  have HS0 : Hid (w.heap.size ≤ (w.alloc (.cells #[.int .i64 e.ti, .bool e.bk, .pointer (some ⟨a e.ak, 0, none⟩), .int .i64 e.an.ve, .int .i64 e.an.bo, .int .i64 e.an.si, .bool e.an.no, .string e.an.fr] 133)).drew.heap.size) := Lib.hid (by show w.heap.size ≤ (w.alloc _).heap.size; simp)
  have HN : Hid (l.length * 72 ≤ 140737488355328) := Lib.hid (by omega)
  go_region_law (first | (refine step_pushB (enc := encE a) (v := .slice ao n cp) (l := l) rfl _ _ 66 rfl slEv (by decide) rfl rfl e rfl rfl HO1.out HA1.out HN.out (Nat.le_trans hsz HS0.out) ?_; intro v5 w5 ho5 hb5 hk5; obtain ⟨g5, m5⟩ := q_after HQ.out H00.out HS0.out hk5; obtain ⟨ao5, n5, cp5, rfl⟩ := Own.slv (encE_len a) ho5; have HO5 := Lib.hid ho5; have HB5 := Lib.hid hb5; have HK5 := Lib.hid hk5; clear ho5 hb5 hk5) | fail)
  all_goals go_wp2
  all_goals go_end0
  all_goals exact ⟨rfl, _, push_done HQ.out H00.out HS0.out rfl rfl rfl HO5.out HB5.out HK5.out rfl rfl rfl rfl⟩
theorem QAt.below {Q B : Nat} {a : Nat → Nat} {w w' : World} {v : Value} {l : List Evn} (h : QAt Q B a w v l) (hb : Below w.heap.size w w') : QAt Q B a w' v l := by
  obtain ⟨cs, T, h1, h2⟩ := h.blk
  exact ⟨h.own.below hb (Nat.le_refl _), h.off, ⟨cs, T, (hb.block Q h.lt).trans h1, h2⟩, Nat.le_trans h.base hb.size⟩
theorem QChg.below {Q : Nat} {w w1 w2 : World} {v v' : Value} (h : QChg Q w w1 v v') (hQ : Q < w.heap.size) (hb : Below w1.heap.size w1 w2) : QChg Q w w2 v v' :=
  ⟨fun b h1 h2 h3 => ⟨(hb.block b (Nat.lt_of_lt_of_le h1 h.size)).trans (h.other b h1 h2 h3).1, (h.other b h1 h2 h3).2⟩, h.off, fun cs T fr hc => (hb.block Q (Nat.lt_of_lt_of_le hQ h.size)).trans (h.own cs T fr hc), Nat.le_trans h.size hb.size, hb.os.trans h.os, hb.tape.trans h.tape, hb.output.trans h.output⟩
theorem QChg.trans {Q : Nat} {w w1 w2 : World} {v v1 v2 : Value} (h : QChg Q w w1 v v1) (k : QChg Q w1 w2 v1 v2) : QChg Q w w2 v v2 where
  other b h1 h2 h3 := by
    obtain ⟨p1, p2⟩ := h.other b h1 h2 h3
    obtain ⟨q1, q2⟩ := k.other b (Nat.lt_of_lt_of_le h1 h.size) h2 p2
    exact ⟨q1.trans p1, q2⟩
  off := k.off
  own cs T fr hw := by
    have := k.own _ T fr (h.own cs T fr hw)
    rw [this]
    congr 2
    simp
  size := Nat.le_trans h.size k.size
  os := k.os.trans h.os
  tape := k.tape.trans h.tape
  output := k.output.trans h.output
set_option maxRecDepth 100000 in
set_option maxHeartbeats 4000000 in
theorem evPop_any (w : World) (Q B : Nat) (a : Nat → Nat) (v : Value) (l : List Evn) (h : QAt Q B a w v l) (hl : l.length ≤ 1000000) (h0 : 0 < l.length) :
    Calls Tryz.prog 202 #[.pointer (some ⟨Q, 5, none⟩)] w fun r w' => r = .returned (.iface 133 (.agg (encE a (hat l (l.length - 1))).toArray)) ∧ ∃ v', QAt Q B a w' v' (l.take (l.length - 1)) ∧ QChg Q w w' v v' := by
  obtain ⟨c5, f5⟩ := h.cell
  have HQ := Lib.hid h
  have hQlt := h.lt
  have hne : l ≠ [] := fun e => by rw [e] at h0; simp at h0
  obtain ⟨g, cap, rfl, hg1, hg2, hg3, hg4, -, -⟩ := Own.getk (encE_len a) h.own hne
  obtain ⟨k, hk⟩ : ∃ k, k = l.length - 1 := ⟨_, rfl⟩
  obtain ⟨e, he⟩ : ∃ e, e = hat l (l.length - 1) := ⟨_, rfl⟩
  have h1 : l[k]? = some e := by rw [he, hk]; exact hat_some (by omega)
  obtain ⟨d0, d1, d2, d3, d4, d5, d6, d7⟩ := ev_cells h.own h1
  have hkz : (l.length : Int) - 1 = (k : Int) := by omega
  have hkl : (k : Int) < (l.length : Int) := by omega
  have hkc : (k : Int) ≤ (cap : Int) := by omega
  have hsz := h.base
  rw [← he, ← hk]
  have HK := Lib.hid hk
  clear h hne h1 he hk
  unfold maxLen at hg4
  have HCUT : Hid (Own w B 133 8 (encE a) (.slice (some ⟨g, 0, none⟩) k cap) (l.take k)) := Lib.hid (Own.cut (encE_len a) HQ.out.own k (by omega))
  have HD := Lib.hid (push_done (W0 := w) (W5 := w) (W' := w.setCell ⟨Q, 5, none⟩ (.slice (some ⟨g, 0, none⟩) k cap)) HQ.out (fun _ _ => rfl) (Nat.le_refl _) rfl rfl rfl HCUT.out (Below.refl _ _) (fun b _ ho => ⟨rfl, offB.mk (ho _ _ _ rfl)⟩) rfl rfl rfl rfl)
  clear HCUT
  go_enter Tryz.func202, Tryz.ntmps202
  go_wp2
  go_ret
  exact ⟨rfl, _, HD.out.1.below ((Below.refl _ _).alloc (Nat.le_refl _) _), HD.out.2.below hQlt ((Below.refl _ _).alloc (Nat.le_refl _) _)⟩
end Go.Proofs.YtgohddfnhofjhaaGreatDoor

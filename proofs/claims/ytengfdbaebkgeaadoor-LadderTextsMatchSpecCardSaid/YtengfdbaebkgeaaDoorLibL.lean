/- strings.Cut, strings.Split, strconv.Itoa at this seat. -/
import Derived.Test.YtengfdbaebkgeaaDoorShfL
import Derived.Test.YtengfdbaebkgeaaDoorCuts
import Derived.Test.YtengfdbaebkgeaaDoorLib
namespace Go.Proofs.YtengfdbaebkgeaaDoor
open Go.RowKit Go.Lib Go.Shelf

theorem split_any (s sep : ByteArray) (m : Int) (w : World) (hs : s.size < 4294967281) (hm : w.cell? ⟨0, 0, none⟩ = some (.int .i64 m)) (h1 : 1 ≤ sep.size) :
    Calls Tryd.prog 14 #[.string s, .string sep] w fun e w' => e = .returned (.slice (some ⟨w.heap.size, 0, none⟩) (wordsB s sep).length (wordsB s sep).length) ∧ w' = w.alloc (.cells ((wordsB s sep).map Value.string).toArray 9) := by
  have h := Any.strings_Split Tryd.lays146 (by kernel_rfl) s sep m w hs hm h1
  rw [words_length s sep h1]
  exact h
theorem cut_any (s sep : ByteArray) (m : Int) (w : World) (hs : s.size < 4294967281) (hm : w.cell? ⟨0, 0, none⟩ = some (.int .i64 m)) :
    Calls Tryd.prog 11 #[.string s, .string sep] w fun e w' => e = .returned (.tuple #[.string ⟨(Lib.cut s.data.toList sep.data.toList).1.toArray⟩, .string ⟨(Lib.cut s.data.toList sep.data.toList).2.1.toArray⟩, .bool (Lib.cut s.data.toList sep.data.toList).2.2]) ∧ ∃ n, w' = w.drewN n := Any.strings_Cut Tryd.lays145 s sep m w hs hm
theorem itoa_any (n : Int) (w : World) (h0 : -9223372036854775808 ≤ n) (h1 : n ≤ 9223372036854775807) (ht : TabIs Tryd.prog w "internal/strconv.uint64pow10" .u64 pow10Tab) :
    Calls Tryd.prog 18 #[.int .i64 n] w fun e w' => e = .returned (.string ⟨(itoa n).toArray⟩) ∧ ∃ k os, w' = Sort.grow (w.drewN k) os := Any.strconv_Itoa Tryd.lays171 n h0 h1 w ht
end Go.Proofs.YtengfdbaebkgeaaDoor

/- first and some of the reference. -/
import Derived.Test.YtibnbhjiohighaaBstEK
import Derived.Test.YtibnbhjiohighaaApp
namespace Go.Proofs.Ytibnbhjiohighaa
open Go.RowKit

set_option maxHeartbeats 1000000 in
theorem firstR_any (n : Nat) (hn : n ≤ 1000) (w : World) :
    Calls Try.prog 18 #[.int .i64 n] w (OwnRet w 3 1 encI (firstL n)) := by
  have HB0 := Lib.hid (Below.refl w.heap.size w)
  have HN := Lib.hid (fun k => firstL_next k)
  have HLN := Lib.hid (fun k => (firstL_ok k).1)
  go_enter Try.func18, Try.ntmps18
  go_wp2
  go_loopg [3, 4, 6] n (fun gg s3 _ s6 wr => ∃ k : Nat, k ≤ n ∧ n - k ≤ gg ∧ s6 = .int .i64 k ∧ Aside (Own wr w.heap.size 3 1 encI s3 (firstL k)) ∧ Aside (Below w.heap.size w wr))
  case atStart => exact ⟨0, Nat.zero_le _, by omega, by go_num, (show Own _ _ _ _ _ _ (firstL 0) from Own.nil), HB0.out⟩
  obtain ⟨k, hk, hg, rfl, OW, BW⟩ := hrel
  have HOW := Lib.hid OW.out
  have HBW := Lib.hid BW.out
  have hszw := BW.out.size
  clear OW BW
  by_cases hlt : k < n
  · have hltz : (k : Int) < (n : Int) := by omega
    have HNX := Lib.hid (HN.out k)
    have hnl : ((firstL k).length + 1) * 8 ≤ 140737488355328 := by rw [HLN.out]; omega
    generalize firstL k = M at HOW HNX hnl
    go_wp2_with (at_builtin; refine wpList_push rfl _ _ 23 rfl slI rfl rfl (k : Int) rfl rfl rfl HOW.out rfl hnl hszw ?_; intro v8 w8 ho8 hb8; have HO8 := Lib.hid ho8; have HB8 := Lib.hid (HBW.out.trans hb8); clear ho8 hb8)
    go_roundg (n - (k + 1))
    case measure => omega
    case rel => exact ⟨k + 1, by omega, by omega, by go_num, (show Own _ _ _ _ _ _ _ by rw [HNX.out]; exact HO8.out), HB8.out⟩
  · have hltz : ¬ (k : Int) < (n : Int) := by omega
    obtain rfl : k = n := by omega
    go_wp2
    go_ret
    exact OwnRet.mk HOW.out HBW.out
end Go.Proofs.Ytibnbhjiohighaa

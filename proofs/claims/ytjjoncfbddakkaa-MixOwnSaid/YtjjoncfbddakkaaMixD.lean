/-
  The walk of the statements' own 'live' (it returns true and nothing that lay in memory turns), and the laws MixMixes, MixTurns, MixCommon, MixRound as walks: whatever the numbers, true. No condition.
-/
import Derived.Test.YtjjoncfbddakkaaMixC
namespace Go.Proofs.Ytjjoncfbddakkaa
open Go Pl Go.RowKit
set_option maxHeartbeats 400000
theorem lit7 (w : World) : Calls Try.prog 13 #[.int .u64 7] w fun e w' => e = .returned (.int .u64 1346066267577507604) ∧ w = w' := by
  have h := Mix_any 7#64 w
  rw [show U (mixB 7#64) = 1346066267577507604 by decide] at h
  exact h
theorem litBack (w : World) : Calls Try.prog 15 #[.int .u64 1346066267577507604] w fun e w' => e = .returned (.int .u64 7) ∧ w = w' := by
  have h := Back_any 1346066267577507604#64 w
  rw [show U (backB 1346066267577507604#64) = 7 by decide] at h
  exact h
theorem litDigit (w : World) : Calls Try.prog 22 #[.int .u64 1346066267577507604, .int .i64 0] w fun e w' => e = .returned (.int .i64 4) ∧ w = w' := by
  have h := Digit_any 1346066267577507604#64 0 w
  rw [show dgI 1346066267577507604#64 0 = 4 by decide] at h
  exact h
theorem litOnes (w : World) : Calls Try.prog 19 #[.int .u64 255] w fun e w' => e = .returned (.int .i64 8) ∧ w = w' := by
  have h := Ones_any 255#64 w
  rw [show (onesB 255#64 : Int) = 8 by decide +kernel] at h
  exact h
theorem litTurn (w : World) : Calls Try.prog 17 #[.int .u64 1, .int .i64 (-1)] w fun e w' => e = .returned (.int .u64 9223372036854775808) ∧ w = w' := by
  have h := Turn_any 1#64 (-1) w
  rw [show U (rotB 1#64 ((-1 : Int) % 64).toNat) = 9223372036854775808 by decide] at h
  exact h
theorem litCommon (w : World) : Calls Try.prog 21 #[.int .u64 5, .int .u64 5] w fun e w' => e = .returned (.int .i64 11) ∧ Below w.heap.size w w' := by
  have h := Common_any 5#64 5#64 w
  rw [cm_self] at h
  exact h
theorem live_any (w : World) : Calls Try.prog 12 #[] w fun e w' => e = .returned (.bool true) ∧ Below w.heap.size w w' := by
  go_enter Try.func12, Try.ntmps12
  go_wp2_with fail
  refine (lit7 w).mono ?_; rintro e w' ⟨rfl, rfl⟩
  go_wp2_with fail
  refine (litBack w).mono ?_; rintro e w' ⟨rfl, rfl⟩
  go_wp2_with fail
  refine (lit7 w).mono ?_; rintro e w' ⟨rfl, rfl⟩
  go_wp2_with fail
  refine (litDigit w).mono ?_; rintro e w' ⟨rfl, rfl⟩
  go_wp2_with fail
  refine (litOnes w).mono ?_; rintro e w' ⟨rfl, rfl⟩
  go_wp2_with fail
  refine (litTurn w).mono ?_; rintro e w' ⟨rfl, rfl⟩
  go_wp2_with fail
  refine (litCommon w).mono ?_; rintro e w' ⟨rfl, hb⟩
  go_wp2_with fail
  go_ret
  exact ⟨rfl, hb⟩
theorem MixMixes_walk (x : BitVec 64) (w : World) : Calls Try.prog 3 #[.int .u64 (U x)] w fun e w' => e = .returned (.bool true) ∧ Below w.heap.size w w' := by
  go_enter Try.func3, Try.ntmps3
  go_wp2_with fail
  refine (live_any w).mono ?_; rintro e w1 ⟨rfl, hb⟩
  go_wp2_with fail
  refine (Mix_any x w1).mono ?_; rintro e w' ⟨rfl, rfl⟩
  go_wp2_with fail
  refine (refMix_any x w1).mono ?_; rintro e w' ⟨rfl, rfl⟩
  go_wp2_with fail
  refine (Back_any x w1).mono ?_; rintro e w' ⟨rfl, rfl⟩
  go_wp2_with fail
  refine (refBack_any x w1).mono ?_; rintro e w' ⟨rfl, rfl⟩
  go_wp2_with fail
  go_ret
  exact ⟨rfl, hb⟩
theorem MixTurns_walk (x : BitVec 64) (n : Int) (w : World) : Calls Try.prog 4 #[.int .u64 (U x), .int .i64 n] w fun e w' => e = .returned (.bool true) ∧ Below w.heap.size w w' := by
  go_enter Try.func4, Try.ntmps4
  go_wp2_with fail
  refine (live_any w).mono ?_; rintro e w1 ⟨rfl, hb⟩
  go_wp2_with fail
  refine (Turn_any x n w1).mono ?_; rintro e w' ⟨rfl, rfl⟩
  go_wp2_with fail
  refine (refTurn_any x n w1).mono ?_; rintro e w' ⟨rfl, rfl⟩
  go_wp2_with fail
  refine (Ones_any x w1).mono ?_; rintro e w' ⟨rfl, rfl⟩
  go_wp2_with fail
  refine (refOnes_any x w1).mono ?_; rintro e w' ⟨rfl, rfl⟩
  go_wp2_with fail
  go_ret
  exact ⟨rfl, hb⟩
end Go.Proofs.Ytjjoncfbddakkaa

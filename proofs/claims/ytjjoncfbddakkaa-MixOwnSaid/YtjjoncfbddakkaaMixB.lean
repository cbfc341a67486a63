/-
  The walks of mix.Digit and the reference's Digit: the digit at a level, 0 where there is no such level. No condition.
-/
import Derived.Test.YtjjoncfbddakkaaMixA
namespace Go.Proofs.Ytjjoncfbddakkaa
open Go Pl Go.RowKit
set_option maxHeartbeats 400000
def dgI (x : BitVec 64) (l : Int) : Int := if 0 ≤ l then (dg x.toNat l.toNat : Int) else 0
theorem dgI_out (x : BitVec 64) (l : Int) (h : l < 0 ∨ 10 < l) : dgI x l = 0 := by
  unfold dgI dg
  rcases h with h | h
  · rw [if_neg (by omega)]
  · rw [if_pos (by omega), if_neg (by omega), if_neg (by omega)]; rfl
theorem dgI_nat (x : BitVec 64) (k : Nat) : dgI x (k : Int) = (dg x.toNat k : Int) := by
  unfold dgI; rw [if_pos (Int.natCast_nonneg _), Int.toNat_natCast]
theorem dgI_nonneg (x : BitVec 64) (l : Int) : 0 ≤ dgI x l := by unfold dgI; split; exact Int.natCast_nonneg _; exact Int.le_refl _
theorem dgI_lt (x : BitVec 64) (l : Int) : dgI x l < 64 := by unfold dgI; split; have := dg_lt x.toNat l.toNat; omega; decide
theorem wrap64_small (n : Int) (h0 : 0 ≤ n) (h1 : n < 9223372036854775808) : wrap64 n = n := by unfold wrap64; omega
theorem and15U (x : BitVec 64) : bits BinOp.and IntKind.u64 (U x) 15 = ((x.toNat % 16 : Nat) : Int) := by
  rw [show (15 : Int) = U 15#64 from rfl, and_U]
  unfold U
  rw [BitVec.toNat_and]
  have e : x.toNat &&& (15#64).toNat = x.toNat % 16 := Nat.and_two_pow_sub_one_eq_mod x.toNat 4
  rw [e]
theorem and63U (x : BitVec 64) : bits BinOp.and IntKind.u64 (U x) 63 = ((x.toNat % 64 : Nat) : Int) := by
  rw [show (63 : Int) = U 63#64 from rfl, and_U]
  unfold U
  rw [BitVec.toNat_and]
  have e : x.toNat &&& (63#64).toNat = x.toNat % 64 := Nat.and_two_pow_sub_one_eq_mod x.toNat 6
  rw [e]
theorem toNat_shr (x : BitVec 64) (n : Nat) : (x >>> n).toNat = x.toNat / 2 ^ n := by rw [BitVec.toNat_ushiftRight, Nat.shiftRight_eq_div_pow]
theorem Digit_any (x : BitVec 64) (l : Int) (w : World) :
    Calls Try.prog 22 #[.int .u64 (U x), .int .i64 l] w fun e w' => e = .returned (.int .i64 (dgI x l)) ∧ w = w' := by
  have h0 := U_nonneg x
  by_cases h1 : l < 0 ∨ 11 ≤ l
  · have hf := dgI_out x l (by omega)
    have Hf := Lib.hid hf
    clear hf
    rcases h1 with h1 | h1
    all_goals
      go_enter Try.func22, Try.ntmps22
      go_wp2
      go_ret
      exact ⟨ret_i64 Hf.out.symm, rfl⟩
  · by_cases h2 : l = 10
    · subst h2
      go_enter Try.func22, Try.ntmps22
      go_wp2
      go_ret
      refine ⟨ret_i64 ?_, rfl⟩
      rw [and15U, wrap64_small _ (by omega) (by omega), show (10 : Int) = ((10 : Nat) : Int) from rfl, dgI_nat]
      rfl
    · have h3 : 0 ≤ l := by omega
      have h4 : l < 10 := by omega
      obtain ⟨k, rfl⟩ := Int.eq_ofNat_of_zero_le h3
      go_enter Try.func22, Try.ntmps22
      go_wp2
      go_ret
      refine ⟨ret_i64 ?_, rfl⟩
      rw [shr_U, and63U, toNat_shr, wrap64_small _ (by omega) (by omega), dgI_nat]
      unfold dg
      rw [if_pos (by omega)]
theorem refDigit_any (x : BitVec 64) (l : Int) (w : World) :
    Calls Try.prog 23 #[.int .u64 (U x), .int .i64 l] w fun e w' => e = .returned (.int .i64 (dgI x l)) ∧ w = w' := by
  have h0 := U_nonneg x
  by_cases h1 : l < 0 ∨ 10 < l
  · have hf := dgI_out x l (by omega)
    have Hf := Lib.hid hf
    clear hf
    rcases h1 with h1 | h1
    all_goals
      go_enter Try.func23, Try.ntmps23
      go_wp2
      go_ret
      exact ⟨ret_i64 Hf.out.symm, rfl⟩
  · by_cases h2 : l = 10
    · subst h2
      go_enter Try.func23, Try.ntmps23
      go_wp2
      go_ret
      refine ⟨ret_i64 ?_, rfl⟩
      rw [show (10 : Int) = ((10 : Nat) : Int) from rfl, dgI_nat]
      unfold U dg
      simp
    · have h3 : 0 ≤ l := by omega
      have h4 : l < 10 := by omega
      obtain ⟨k, rfl⟩ := Int.eq_ofNat_of_zero_le h3
      go_enter Try.func23, Try.ntmps23
      go_wp2
      go_ret
      refine ⟨ret_i64 ?_, rfl⟩
      rw [shr_U, dgI_nat]
      have e : (U (x >>> (58 - 6 * k))).tmod 64 = ((x.toNat / 2 ^ (58 - 6 * k) % 64 : Nat) : Int) := by
        unfold U; rw [toNat_shr]; rfl
      rw [e, wrap64_small _ (by omega) (by omega)]
      unfold dg
      rw [if_pos (by omega)]
end Go.Proofs.Ytjjoncfbddakkaa

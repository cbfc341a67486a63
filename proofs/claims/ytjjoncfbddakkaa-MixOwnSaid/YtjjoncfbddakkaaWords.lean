/-
  Words for the walks of this seat: a 64-bit number as a Go value; Go's operations on such values are BitVec's. No condition.
-/
import Derived.Test.YtjjoncfbddakkaaPlain
import Derived.Test.YtjjoncfbddakkaaRows
import Derived.WalkKit
namespace Go.Proofs.Ytjjoncfbddakkaa
open Go Pl
/-- a 64-bit number as Go's int value -/
def U (x : BitVec 64) : Int := (x.toNat : Int)
theorem U_nonneg (x : BitVec 64) : 0 ≤ U x := Int.natCast_nonneg _
theorem U_lt (x : BitVec 64) : U x < 18446744073709551616 := by have := x.isLt; unfold U; omega
theorem U_le (x : BitVec 64) : U x ≤ 18446744073709551615 := by have := x.isLt; unfold U; omega
theorem ofInt_U (x : BitVec 64) : BitVec.ofInt 64 (U x) = x := by simp [U]
theorem exists_U {n : Int} (h0 : 0 ≤ n) (h1 : n < 18446744073709551616) : ∃ x : BitVec 64, n = U x :=
  ⟨BitVec.ofInt 64 n, by unfold U; rw [BitVec.toNat_ofInt]; omega⟩
theorem wrap_u64 (n : Int) : IntKind.u64.wrap n = n % 18446744073709551616 := by simp [IntKind.wrap, IntKind.bits, IntKind.signed]
theorem wrap_U (x : BitVec 64) : IntKind.u64.wrap (U x) = U x := by
  rw [wrap_u64]; have := U_lt x; have := U_nonneg x; omega
theorem xor_U (x y : BitVec 64) : bits BinOp.xor IntKind.u64 (U x) (U y) = U (x ^^^ y) := by
  show IntKind.u64.wrap ((BitVec.ofInt 64 (U x) ^^^ BitVec.ofInt 64 (U y)).toNat : Int) = _
  rw [ofInt_U, ofInt_U]
  exact wrap_U _
theorem and_U (x y : BitVec 64) : bits BinOp.and IntKind.u64 (U x) (U y) = U (x &&& y) := by
  show IntKind.u64.wrap ((BitVec.ofInt 64 (U x) &&& BitVec.ofInt 64 (U y)).toNat : Int) = _
  rw [ofInt_U, ofInt_U]
  exact wrap_U _
theorem or_U (x y : BitVec 64) : bits BinOp.or IntKind.u64 (U x) (U y) = U (x ||| y) := by
  show IntKind.u64.wrap ((BitVec.ofInt 64 (U x) ||| BitVec.ofInt 64 (U y)).toNat : Int) = _
  rw [ofInt_U, ofInt_U]
  exact wrap_U _
theorem mul_U (x y : BitVec 64) : IntKind.u64.wrap (U x * U y) = U (x * y) := by
  rw [wrap_u64]; unfold U; rw [BitVec.toNat_mul]; omega
theorem add_U (x y : BitVec 64) : IntKind.u64.wrap (U x + U y) = U (x + y) := by
  rw [wrap_u64]; unfold U; rw [BitVec.toNat_add]; omega
theorem shr_U (x : BitVec 64) (n : Nat) : U x / 2 ^ n = U (x >>> n) := by
  unfold U; rw [BitVec.toNat_ushiftRight, Nat.shiftRight_eq_div_pow]; simp
theorem shl_U (x : BitVec 64) (n : Nat) : IntKind.u64.wrap (U x * 2 ^ n) = U (x <<< n) := by
  rw [wrap_u64]; unfold U; rw [BitVec.toNat_shiftLeft, Nat.shiftLeft_eq]; simp
end Go.Proofs.Ytjjoncfbddakkaa

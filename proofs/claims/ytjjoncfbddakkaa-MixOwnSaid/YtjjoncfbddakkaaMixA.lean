/-
  The walks of mix's numbers and of the reference's: mixed, back, turned, how many bits are 1, a digit. Each function returns what the plain law computes and leaves the world alone; conditions: the numbers are 64-bit.
-/
import Derived.Test.YtjjoncfbddakkaaWords
import Derived.Deep.QuietTactic
import Derived.BigQuiet
import Derived.Lib.Hide
namespace Go.Proofs.Ytjjoncfbddakkaa
open Go Pl Go.RowKit
set_option maxHeartbeats 400000
theorem ret_u64 {a b : Int} (h : a = b) : Ending.returned (.int .u64 a) = .returned (.int .u64 b) := by rw [h]
theorem ret_i64 {a b : Int} (h : a = b) : Ending.returned (.int .i64 a) = .returned (.int .i64 b) := by rw [h]
theorem ret_bool {a b : Bool} (h : a = b) : Ending.returned (.bool a) = .returned (.bool b) := by rw [h]
theorem s30 (y : BitVec 64) : U y / (1073741824 : Int) = U (y >>> 30) := shr_U y 30
theorem s27 (y : BitVec 64) : U y / (134217728 : Int) = U (y >>> 27) := shr_U y 27
theorem s31 (y : BitVec 64) : U y / (2147483648 : Int) = U (y >>> 31) := shr_U y 31
theorem mixI (x : BitVec 64) : bits BinOp.xor IntKind.u64
                      (IntKind.u64.wrap
                          (bits BinOp.xor IntKind.u64
                              (IntKind.u64.wrap (bits BinOp.xor IntKind.u64 (U x) (U x / 1073741824) * 13787848793156543929))
                              (IntKind.u64.wrap (bits BinOp.xor IntKind.u64 (U x) (U x / 1073741824) * 13787848793156543929) /
                                134217728) *
                            10723151780598845931))
                        (IntKind.u64.wrap
                            (bits BinOp.xor IntKind.u64
                                (IntKind.u64.wrap
                                  (bits BinOp.xor IntKind.u64 (U x) (U x / 1073741824) * 13787848793156543929))
                                (IntKind.u64.wrap
                                    (bits BinOp.xor IntKind.u64 (U x) (U x / 1073741824) * 13787848793156543929) /
                                  134217728) *
                              10723151780598845931) /
                          2147483648) = U (mixB x) := by
  have e1 : (13787848793156543929 : Int) = U c1 := by decide
  have e2 : (10723151780598845931 : Int) = U c2 := by decide
  rw [e1, e2]
  simp only [s30, s27, s31, xor_U, mul_U]
  rfl
theorem Mix_any (x : BitVec 64) (w : World) : Calls Try.prog 13 #[.int .u64 (U x)] w fun e w' => e = .returned (.int .u64 (U (mixB x))) ∧ w = w' := by
  have h0 := U_nonneg x
  go_enter Try.func13, Try.ntmps13
  go_wp2
  go_ret
  exact ⟨ret_u64 (mixI x), rfl⟩
theorem refMix_any (x : BitVec 64) (w : World) : Calls Try.prog 14 #[.int .u64 (U x)] w fun e w' => e = .returned (.int .u64 (U (mixB x))) ∧ w = w' := by
  have h0 := U_nonneg x
  go_enter Try.func14, Try.ntmps14
  go_wp2
  go_ret
  exact ⟨ret_u64 (mixI x), rfl⟩

theorem usP_any (y : BitVec 64) (n j k : Nat) (hn : 1 ≤ n) (hj : 64 ≤ n * (j + 1)) (hk : 64 ≤ n * (k + 1)) : usP y n j = usP y n k :=
  us_inj n hn _ _ ((usP_fwd y n j hj).trans (usP_fwd y n k hk).symm)
theorem usP_done (y : BitVec 64) (n j : Nat) (hn : 1 ≤ n) (hj : 64 ≤ n * (j + 1)) : usP y n j = usP y n 64 :=
  usP_any y n j 64 hn hj (by have : 1 * (64 + 1) ≤ n * (64 + 1) := Nat.mul_le_mul_right _ hn; omega)
theorem unshift_any (y : BitVec 64) (n : Nat) (hn : 1 ≤ n) (hn2 : n < 64) (w : World) :
    Calls Try.prog 36 #[.int .u64 (U y), .int .i64 (n : Int)] w fun e w' => e = .returned (.int .u64 (U (usP y n 64))) ∧ w = w' := by
  have h0 := U_nonneg y
  go_enter Try.func36, Try.ntmps36
  go_wp2
  go_loop [5, 6] (fun x i => ∃ (j m : Nat) (X : BitVec 64), m = n * (j + 1) ∧ m < 128 ∧ i = .int .i64 (m : Int) ∧ X = usP y n j ∧ x = .int .u64 (U X)) (fun _ i => 200 - (intOf i).toNat)
  case atStart => exact ⟨0, n, y, by omega, by omega, rfl, rfl, rfl⟩
  case round =>
    obtain ⟨j, m, X, hm, hm2, rfl, hX, rfl⟩ := hrel
    have Hm := Lib.hid hm
    have HX := Lib.hid hX
    clear hm hX
    have g0 := U_nonneg X
    by_cases hlt : m < 64
    · go_wp2
      go_round
      case rel =>
        refine ⟨j + 1, m + n, y ^^^ (X >>> n), ?_, by omega, by go_num, ?_, ?_⟩
        · have := Hm.out; rw [this, Nat.mul_add n (j + 1) 1, Nat.mul_one]
        · rw [HX.out]; rfl
        · rw [shr_U, xor_U]
      case measure => simp [intOf]; omega
    · go_wp2
      go_ret
      refine ⟨ret_u64 ?_, rfl⟩
      rw [HX.out, usP_done y n j hn (by have := Hm.out; omega)]
theorem backI (h : BitVec 64) : usP (usP (usP h 31 64 * d2) 27 64 * d1) 30 64 = backB h := by
  unfold backB
  rw [usP_done h 31 2 (by decide) (by decide), usP_done _ 27 2 (by decide) (by decide), usP_done _ 30 2 (by decide) (by decide)]
theorem d1I : (10871156337175269513 : Int) = U d1 := by decide
theorem d2I : (3573116690164977347 : Int) = U d2 := by decide
theorem Back_any (x : BitVec 64) (w : World) : Calls Try.prog 15 #[.int .u64 (U x)] w fun e w' => e = .returned (.int .u64 (U (backB x))) ∧ w = w' := by
  go_enter Try.func15, Try.ntmps15
  go_wp2_with fail
  refine (unshift_any x 31 (by decide) (by decide) w).mono ?_; rintro e w' ⟨rfl, rfl⟩
  go_wp2_with fail
  rw [d2I, mul_U]
  refine (unshift_any _ 27 (by decide) (by decide) w).mono ?_; rintro e w' ⟨rfl, rfl⟩
  go_wp2_with fail
  rw [d1I, mul_U]
  refine (unshift_any _ 30 (by decide) (by decide) w).mono ?_; rintro e w' ⟨rfl, rfl⟩
  go_wp2_with fail
  go_ret
  exact ⟨ret_u64 (by rw [← backI]), rfl⟩

theorem one_U : (1 : Int) = U 1#64 := rfl
theorem zero_U : (0 : Int) = U 0#64 := rfl
theorem bit_or (x : BitVec 64) : x &&& 1#64 = 0#64 ∨ x &&& 1#64 = 1#64 := by
  have h : (x &&& 1#64).toNat < 2 := by
    rw [BitVec.toNat_and]; exact Nat.and_lt_two_pow _ (n := 1) (by decide)
  rcases Nat.lt_or_ge 0 (x &&& 1#64).toNat with h1 | h1
  · right; apply BitVec.eq_of_toNat_eq; show _ = 1; omega
  · left; apply BitVec.eq_of_toNat_eq; show _ = 0; omega
theorem U_inj {x y : BitVec 64} (h : U x = U y) : x = y := by unfold U at h; exact BitVec.eq_of_toNat_eq (by omega)
theorem other_any (c : BitVec 64) (w : World) : Calls Try.prog 38 #[.int .u64 (U c)] w fun e w' => e = .returned (.int .u64 (U (invR c 63))) ∧ w = w' := by
  go_enter Try.func38, Try.ntmps38
  go_wp2
  go_loop [3, 4] (fun x i => ∃ (k : Nat) (X : BitVec 64), k ≤ 63 ∧ i = .int .i64 ((k : Int) + 1) ∧ X = invR c k ∧ x = .int .u64 (U X)) (fun _ i => 100 - (intOf i).toNat)
  case atStart => exact ⟨0, 1#64, by decide, rfl, rfl, rfl⟩
  case round =>
    obtain ⟨k, X, hk, rfl, hX, rfl⟩ := hrel
    have HX := Lib.hid hX
    clear hX
    have g0 := U_nonneg (c * X)
    have g1 := mul_U c X
    by_cases hlt : k < 63
    · have g3 : bits BinOp.and IntKind.u64 (U (c * X) / 2 ^ (k + 1)) 1 = U (((c * X) >>> (k + 1)) &&& 1#64) := by rw [shr_U, one_U, and_U]
      rcases bit_or ((c * X) >>> (k + 1)) with hb | hb
      · have HB := Lib.hid hb
        rw [hb] at g3
        clear hb
        have g4 : (U 0#64 == 1) = false := rfl
        go_wp2
        go_round
        case rel =>
          refine ⟨k + 1, X, by omega, by go_num, ?_, rfl⟩
          simp only [invR]
          rw [← HX.out, HB.out]
          rfl
        case measure => simp [intOf]; omega
      · have HB := Lib.hid hb
        rw [hb] at g3
        clear hb
        have g4 : (U 1#64 == 1) = true := rfl
        go_wp2
        go_round
        case rel =>
          refine ⟨k + 1, X ||| (1#64 <<< (k + 1)), by omega, by go_num, ?_, ?_⟩
          · simp only [invR]
            rw [← HX.out, HB.out]
            rfl
          · rw [← or_U, ← shl_U, ← one_U, Int.one_mul]
        case measure => simp [intOf]; omega
    · go_wp2
      go_ret
      refine ⟨ret_u64 ?_, rfl⟩
      rw [HX.out, show k = 63 by omega]

theorem refUnshift_any (x : BitVec 64) (n : Nat) (hn : 1 ≤ n) (hn2 : n < 64) (w : World) :
    Calls Try.prog 37 #[.int .u64 (U x), .int .i64 (n : Int)] w fun e w' => e = .returned (.int .u64 (U (usR x n 64))) ∧ w = w' := by
  have h0 := U_nonneg x
  go_enter Try.func37, Try.ntmps37
  go_wp2
  go_loop [5, 6] (fun o i => ∃ (k : Nat) (X : BitVec 64), k ≤ 64 ∧ i = .int .i64 (63 - (k : Int)) ∧ X = usR x n k ∧ o = .int .u64 (U X)) (fun _ i => (intOf i + 1).toNat)
  case atStart => exact ⟨0, 0#64, by decide, rfl, rfl, rfl⟩
  case round =>
    obtain ⟨k, X, hk, rfl, hX, rfl⟩ := hrel
    have HX := Lib.hid hX
    clear hX
    have g0 := U_nonneg X
    by_cases hlt : k < 64
    · have hi : (0 : Int) ≤ 63 - (k : Int) := by omega
      by_cases hin : 63 - k + n < 64
      · have hin2 : 63 - (k : Int) + (n : Int) < 64 := by omega
        go_wp2
        go_round
        case rel =>
          refine ⟨k + 1, _, by omega, by go_num, rfl, ?_⟩
          rw [one_U, shr_U, shr_U, and_U, and_U, xor_U, shl_U, or_U, HX.out]
          simp only [usR, if_pos hin]
        case measure => simp [intOf]; omega
      · have hin2 : ¬ 63 - (k : Int) + (n : Int) < 64 := by omega
        go_wp2
        go_round
        case rel =>
          refine ⟨k + 1, _, by omega, by go_num, rfl, ?_⟩
          rw [one_U, shr_U, and_U, shl_U, or_U, HX.out]
          simp only [usR, if_neg hin, BitVec.xor_zero]
        case measure => simp [intOf]; omega
    · go_wp2
      go_ret
      refine ⟨ret_u64 ?_, rfl⟩
      rw [HX.out, show k = 64 by omega]

theorem c1I : (13787848793156543929 : Int) = U c1 := by decide
theorem c2I : (10723151780598845931 : Int) = U c2 := by decide
theorem refBackI (h : BitVec 64) : usR (usR (usR h 31 64 * d2) 27 64 * d1) 30 64 = backB h := by
  rw [usR_eq h 31 2 (by decide) (by decide), usR_eq _ 27 2 (by decide) (by decide), usR_eq _ 30 2 (by decide) (by decide)]
  rfl
theorem refBack_any (x : BitVec 64) (w : World) : Calls Try.prog 16 #[.int .u64 (U x)] w fun e w' => e = .returned (.int .u64 (U (backB x))) ∧ w = w' := by
  go_enter Try.func16, Try.ntmps16
  go_wp2_with fail
  refine (refUnshift_any x 31 (by decide) (by decide) w).mono ?_; rintro e w' ⟨rfl, rfl⟩
  go_wp2_with fail
  rw [c2I]
  refine (other_any c2 w).mono ?_; rintro e w' ⟨rfl, rfl⟩
  rw [inv2]
  go_wp2_with fail
  rw [mul_U]
  refine (refUnshift_any _ 27 (by decide) (by decide) w).mono ?_; rintro e w' ⟨rfl, rfl⟩
  go_wp2_with fail
  rw [c1I]
  refine (other_any c1 w).mono ?_; rintro e w' ⟨rfl, rfl⟩
  rw [inv1]
  go_wp2_with fail
  rw [mul_U]
  refine (refUnshift_any _ 30 (by decide) (by decide) w).mono ?_; rintro e w' ⟨rfl, rfl⟩
  go_wp2_with fail
  go_ret
  exact ⟨ret_u64 (by rw [← refBackI]), rfl⟩

/-! ### turned, and how many bits are 1 -/
theorem mask63 (n : Int) : bits BinOp.and IntKind.u64 (IntKind.u64.wrap n) 63 = (((n % 64).toNat : Nat) : Int) := by
  obtain ⟨x, hx⟩ := exists_U (n := IntKind.u64.wrap n) (by rw [wrap_u64]; omega) (by rw [wrap_u64]; omega)
  rw [hx, show (63 : Int) = U 63#64 from rfl, and_U]
  have e : x &&& 63#64 = BitVec.ofNat 64 (x.toNat % 64) := by
    apply BitVec.eq_of_toNat_eq
    rw [BitVec.toNat_and]
    have := Nat.and_two_pow_sub_one_eq_mod x.toNat 6
    simp at this ⊢
    omega
  rw [e]
  rw [wrap_u64] at hx
  unfold U at hx ⊢
  simp
  omega
theorem Rot_any (v : BitVec 64) (n : Int) (w : World)  :
    Calls Try.prog 39 #[.int .u64 (U v), .int .i64 n] w fun e w' => e = .returned (.int .u64 (U (rotB v (n % 64).toNat))) ∧ w = w' := by
  have h0 := U_nonneg v
  have hs : (n % 64).toNat < 64 := by omega
  have hm := mask63 n
  generalize (n % 64).toNat = s at *
  go_enter Try.func39, Try.ntmps39
  go_wp2
  go_ret
  refine ⟨ret_u64 ?_, rfl⟩
  rw [shl_U, shr_U, or_U]; rfl
theorem tm64 (n : Int) : (n.tmod 64 < 0 ∧ n.tmod 64 + 64 = n % 64) ∨ (¬ n.tmod 64 < 0 ∧ n.tmod 64 = n % 64) := by
  have h := Int.tmod_eq_emod (a := n) (b := 64)
  split at h
  · right; simp at h; omega
  · left; simp at h; omega
theorem Turn_any (v : BitVec 64) (n : Int) (w : World) :
    Calls Try.prog 17 #[.int .u64 (U v), .int .i64 n] w fun e w' => e = .returned (.int .u64 (U (rotB v (n % 64).toNat))) ∧ w = w' := by
  go_enter Try.func17, Try.ntmps17
  go_wp2_with fail
  refine (Rot_any v _ w).mono ?_; rintro e w' ⟨rfl, rfl⟩
  go_wp2_with fail
  go_ret
  refine ⟨ret_u64 ?_, rfl⟩
  have : n.tmod 64 % 64 = n % 64 := by have := tm64 n; omega
  rw [this]
theorem refTurn_any (v : BitVec 64) (n : Int) (w : World) :
    Calls Try.prog 18 #[.int .u64 (U v), .int .i64 n] w fun e w' => e = .returned (.int .u64 (U (rotB v (n % 64).toNat))) ∧ w = w' := by
  have hs : (n % 64).toNat < 64 := by omega
  have hn : n.tmod 64 < 0 ∧ n.tmod 64 + 64 = ((n % 64).toNat : Int) ∨ ¬ n.tmod 64 < 0 ∧ n.tmod 64 = ((n % 64).toNat : Int) := by have := tm64 n; omega
  generalize (n % 64).toNat = s at *
  have hfin : rot1 v s = rotB v s := by rw [rot1_eq, Nat.mod_eq_of_lt hs]
  have Hf := Lib.hid hfin
  clear hfin
  rcases hn with ⟨h1, h2⟩ | ⟨h1, h2⟩
  all_goals
    go_enter Try.func18, Try.ntmps18
    go_wp2
    go_loop [0, 5] (fun x i => ∃ (k : Nat) (X : BitVec 64), k ≤ s ∧ i = .int .i64 (k : Int) ∧ X = rot1 v k ∧ x = .int .u64 (U X)) (fun _ i => 100 - (intOf i).toNat)
    case atStart => exact ⟨0, v, by omega, rfl, rfl, rfl⟩
    case round =>
      obtain ⟨k, X, hk, rfl, hX, rfl⟩ := hrel
      have HX := Lib.hid hX
      clear hX
      have g0 := U_nonneg X
      by_cases hlt : k < s
      · go_wp2
        go_round
        case rel =>
          refine ⟨k + 1, rotB X 1, by omega, by go_num, by rw [rot1, ← HX.out], ?_⟩
          rw [show (9223372036854775808 : Int) = 2 ^ 63 from rfl, shr_U, show U X * 2 = U X * 2 ^ 1 from rfl, shl_U, or_U]
          rfl
        case measure => simp [intOf]; omega
      · go_wp2
        go_ret
        refine ⟨ret_u64 ?_, rfl⟩
        rw [HX.out, ← Hf.out, show k = s by omega]

theorem refOnes_any (v : BitVec 64) (w : World) :
    Calls Try.prog 20 #[.int .u64 (U v)] w fun e w' => e = .returned (.int .i64 (onesB v : Int)) ∧ w = w' := by
  have h0 := U_nonneg v
  go_enter Try.func20, Try.ntmps20
  go_wp2
  go_loop [3, 4] (fun x i => ∃ (k m : Nat), k ≤ 64 ∧ i = .int .i64 (k : Int) ∧ m = pcN k v.toNat ∧ m ≤ 64 ∧ x = .int .i64 (m : Int)) (fun _ i => 100 - (intOf i).toNat)
  case atStart => exact ⟨0, 0, by decide, rfl, rfl, by decide, rfl⟩
  case round =>
    obtain ⟨k, m, hk, rfl, hm, hm2, rfl⟩ := hrel
    have HM := Lib.hid hm
    have hk2 : m ≤ k := by rw [hm]; exact pcN_le k _
    clear hm
    by_cases hlt : k < 64
    · have hb : bits BinOp.and IntKind.u64 (U v / 2 ^ k) 1 = ((v.toNat / 2 ^ k % 2 : Nat) : Int) := by
        rw [one_U, shr_U, and_U]
        unfold U
        rw [BitVec.toNat_and, BitVec.toNat_ushiftRight, Nat.shiftRight_eq_div_pow]
        have := Nat.and_two_pow_sub_one_eq_mod (v.toNat / 2 ^ k) 1
        simp at this ⊢
      have hb2 : v.toNat / 2 ^ k % 2 < 2 := Nat.mod_lt _ (by decide)
      have hs := pcN_snoc k v.toNat
      have HS := Lib.hid hs
      clear hs
      generalize hB : v.toNat / 2 ^ k % 2 = B at *
      have HB := Lib.hid hB
      clear hB
      go_wp2
      go_round
      case rel =>
        refine ⟨k + 1, m + B, by omega, by go_num, ?_, by omega, by go_num⟩
        rw [HS.out, HM.out]
      case measure => simp [intOf]; omega
    · go_wp2
      go_ret
      refine ⟨ret_i64 ?_, rfl⟩
      rw [HM.out, show k = 64 by omega]; rfl

def m0 : BitVec 64 := 6148914691236517205#64
def m1 : BitVec 64 := 3689348814741910323#64
def m2 : BitVec 64 := 1085102592571150095#64
def oc1 (x : BitVec 64) : BitVec 64 := ((x >>> 1) &&& m0) + (x &&& m0)
def oc2 (x : BitVec 64) : BitVec 64 := ((x >>> 2) &&& m1) + (x &&& m1)
def oc3 (x : BitVec 64) : BitVec 64 := ((x >>> 4) + x) &&& m2
def oc (v : BitVec 64) : BitVec 64 :=
  let x := oc3 (oc2 (oc1 v))
  let a := x + (x >>> 8)
  let b := a + (a >>> 16)
  b + (b >>> 32)
theorem toNat_add_lt (x y : BitVec 64) (h : x.toNat + y.toNat < 2 ^ 64) : (x + y).toNat = x.toNat + y.toNat := by
  rw [BitVec.toNat_add]; exact Nat.mod_eq_of_lt h
theorem and_le' (a b : Nat) : a &&& b ≤ b := Nat.and_le_right
theorem oc1_nat (x : BitVec 64) : (oc1 x).toNat = st 2 0x55 8 x.toNat := by
  unfold oc1 st
  have e1 : (x >>> 1).toNat = x.toNat / 2 := by rw [BitVec.toNat_ushiftRight, Nat.shiftRight_eq_div_pow]
  have l1 : x.toNat / 2 &&& m0.toNat ≤ m0.toNat := and_le' _ _
  have l2 : x.toNat &&& m0.toNat ≤ m0.toNat := and_le' _ _
  have hm : m0.toNat = 6148914691236517205 := rfl
  rw [toNat_add_lt _ _ (by rw [BitVec.toNat_and, BitVec.toNat_and, e1]; omega), BitVec.toNat_and, BitVec.toNat_and, e1]
  rfl
theorem oc2_nat (x : BitVec 64) : (oc2 x).toNat = st 4 0x33 8 x.toNat := by
  unfold oc2 st
  have e1 : (x >>> 2).toNat = x.toNat / 4 := by rw [BitVec.toNat_ushiftRight, Nat.shiftRight_eq_div_pow]
  have l1 : x.toNat / 4 &&& m1.toNat ≤ m1.toNat := and_le' _ _
  have l2 : x.toNat &&& m1.toNat ≤ m1.toNat := and_le' _ _
  have hm : m1.toNat = 3689348814741910323 := rfl
  rw [toNat_add_lt _ _ (by rw [BitVec.toNat_and, BitVec.toNat_and, e1]; omega), BitVec.toNat_and, BitVec.toNat_and, e1]
  rfl
theorem st_le (s m k x : Nat) : st s m k x ≤ rep m k + rep m k := Nat.add_le_add (and_le' _ _) (and_le' _ _)
theorem oc3_nat (x : BitVec 64) (h : x.toNat ≤ 7378697629483820646) : (oc3 x).toNat = st3 8 x.toNat := by
  unfold oc3 st3
  have e1 : (x >>> 4).toNat = x.toNat / 16 := by rw [BitVec.toNat_ushiftRight, Nat.shiftRight_eq_div_pow]
  rw [BitVec.toNat_and, toNat_add_lt _ _ (by rw [e1]; omega), e1]
  rfl
theorem oc_nat (v : BitVec 64) : (oc v).toNat % 128 = onesB v := by
  obtain ⟨t, ht, k1, k2, k3, k4, k5⟩ := ones_64 v.toNat v.isLt
  have e3 : (oc3 (oc2 (oc1 v))).toNat = t := by
    have h2 : (oc2 (oc1 v)).toNat ≤ 7378697629483820646 := by rw [oc2_nat]; exact st_le _ _ _ _
    rw [oc3_nat _ h2, oc2_nat, oc1_nat, ht]; rfl
  unfold onesB
  rw [← k5]
  have sh : ∀ (x : BitVec 64) (n : Nat), (x >>> n).toNat = x.toNat / 2 ^ n := fun x n => by rw [BitVec.toNat_ushiftRight, Nat.shiftRight_eq_div_pow]
  unfold oc
  generalize oc3 (oc2 (oc1 v)) = x at *
  have s8 : (x >>> 8).toNat = t / 256 := by rw [sh, e3]
  have ea : (x + (x >>> 8)).toNat = t + t / 256 := by rw [toNat_add_lt _ _ (by rw [s8, e3]; exact k2), s8, e3]
  dsimp only
  generalize x + (x >>> 8) = a at *
  have s16 : (a >>> 16).toNat = (t + t / 256) / 65536 := by rw [sh, ea]
  have eb : (a + (a >>> 16)).toNat = (t + t / 256) + (t + t / 256) / 65536 := by rw [toNat_add_lt _ _ (by rw [s16, ea]; exact k3), s16, ea]
  generalize a + (a >>> 16) = b at *
  have s32 : (b >>> 32).toNat = ((t + t / 256) + (t + t / 256) / 65536) / 4294967296 := by rw [sh, eb]
  rw [toNat_add_lt _ _ (by rw [s32, eb]; exact k4), s32, eb]
theorem m0I : (6148914691236517205 : Int) = U m0 := rfl
theorem m1I : (3689348814741910323 : Int) = U m1 := rfl
theorem m2I : (1085102592571150095 : Int) = U m2 := rfl
theorem d2' (y : BitVec 64) : U y / (2 : Int) = U (y >>> 1) := shr_U y 1
theorem d4' (y : BitVec 64) : U y / (4 : Int) = U (y >>> 2) := shr_U y 2
theorem d16' (y : BitVec 64) : U y / (16 : Int) = U (y >>> 4) := shr_U y 4
theorem d256' (y : BitVec 64) : U y / (256 : Int) = U (y >>> 8) := shr_U y 8
theorem d65536' (y : BitVec 64) : U y / (65536 : Int) = U (y >>> 16) := shr_U y 16
theorem d32' (y : BitVec 64) : U y / (4294967296 : Int) = U (y >>> 32) := shr_U y 32
theorem ofInt_wrap (x : BitVec 64) : BitVec.ofInt 64 (wrap64 (U x)) = x := by
  apply BitVec.eq_of_toNat_eq
  rw [BitVec.toNat_ofInt]
  unfold wrap64 U
  have := x.isLt
  omega
theorem wrap_i64 (n : Int) (h0 : 0 ≤ n) (h1 : n < 9223372036854775808) : IntKind.i64.wrap n = n := by
  rw [IntKind.wrap_i64]; omega
theorem mask127 (x : BitVec 64) : bits BinOp.and IntKind.i64 (wrap64 (U x)) 127 = ((x.toNat % 128 : Nat) : Int) := by
  show IntKind.i64.wrap ((BitVec.ofInt 64 (wrap64 (U x)) &&& BitVec.ofInt 64 127).toNat : Int) = _
  rw [ofInt_wrap]
  have e : (x &&& BitVec.ofInt 64 127).toNat = x.toNat % 128 := by
    rw [BitVec.toNat_and]
    exact Nat.and_two_pow_sub_one_eq_mod x.toNat 7
  rw [e, wrap_i64 _ (by omega) (by omega)]
set_option maxRecDepth 10000 in
theorem OnesCount_any (v : BitVec 64) (w : World) :
    Calls Try.prog 40 #[.int .u64 (U v)] w fun e w' => e = .returned (.int .i64 (onesB v : Int)) ∧ w = w' := by
  have h0 := U_nonneg v
  have hf : bits BinOp.and IntKind.i64 (wrap64 (U (oc v))) 127 = (onesB v : Int) := by rw [mask127, oc_nat]
  have Hf := Lib.hid hf
  clear hf
  go_enter Try.func40, Try.ntmps40
  go_wp2
  go_ret
  refine ⟨ret_i64 ?_, rfl⟩
  rw [m0I, m1I, m2I]
  simp only [d2', d4', d16', d256', d65536', d32', and_U, add_U]
  exact Hf.out
theorem Ones_any (v : BitVec 64) (w : World) :
    Calls Try.prog 19 #[.int .u64 (U v)] w fun e w' => e = .returned (.int .i64 (onesB v : Int)) ∧ w = w' := by
  go_enter Try.func19, Try.ntmps19
  go_wp2_with fail
  refine (OnesCount_any v w).mono ?_; rintro e w' ⟨rfl, rfl⟩
  go_wp2_with fail
  go_ret
  exact ⟨rfl, rfl⟩
end Go.Proofs.Ytjjoncfbddakkaa

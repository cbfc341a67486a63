/-
  The laws MixCommon and MixRound as walks: whatever the numbers, true, and nothing that lay in memory turns. No condition.
-/
import Derived.Test.YtjjoncfbddakkaaMixD
namespace Go.Proofs.Ytjjoncfbddakkaa
open Go Pl Go.RowKit
set_option maxHeartbeats 1000000
theorem U_beq (a b : BitVec 64) : (U a == U b) = decide (a = b) := by
  by_cases h : a = b
  · subst h; simp
  · have : U a ≠ U b := fun e => h (U_inj e)
    simp [h, this]
theorem MixCommon_walk (a b c : BitVec 64) (w : World) : Calls Try.prog 5 #[.int .u64 (U a), .int .u64 (U b), .int .u64 (U c)] w fun e w' => e = .returned (.bool true) ∧ Below w.heap.size w w' := by
  have e1 := cm_comm b.toNat a.toNat
  obtain ⟨l1, eq1, ne1⟩ := cm_spec a.toNat b.toNat
  have all1 := cm_all a.toNat b.toNat a.isLt b.isLt
  have tri := cm_tri a.toNat b.toNat c.toNat
  have l2 := (cm_spec b.toNat c.toNat).1
  have l3 := (cm_spec a.toNat c.toNat).1
  have hab : (a.toNat = b.toNat) ↔ a = b := ⟨fun h => BitVec.eq_of_toNat_eq h, fun h => h ▸ rfl⟩
  have Hab : Hid ((U a == U b) = decide (cm a.toNat b.toNat = 11)) := by
    show (U a == U b) = decide (cm a.toNat b.toNat = 11)
    rw [U_beq]; simp [all1, hab]
  have Hd1 : Hid (cm a.toNat b.toNat < 11 → (dgI a (cm a.toNat b.toNat : Int) != dgI b (cm a.toNat b.toNat : Int)) = true) := by
    show _ → _
    intro h
    rw [dgI_nat, dgI_nat]
    have := ne1 h
    simp; omega
  have Hd2 : Hid (cm a.toNat b.toNat ≠ 0 → (dgI a ((cm a.toNat b.toNat : Int) - 1) == dgI b ((cm a.toNat b.toNat : Int) - 1)) = true) := by
    show _ → _
    intro h
    have e : ((cm a.toNat b.toNat : Int) - 1) = ((cm a.toNat b.toNat - 1 : Nat) : Int) := by omega
    rw [e, dgI_nat, dgI_nat]
    have := eq1 (cm a.toNat b.toNat - 1) (by omega)
    simp; omega
  have E1 := Lib.hid e1
  clear e1 eq1 ne1 all1 hab
  generalize hx : cm a.toNat b.toNat = x at *
  generalize hy : cm b.toNat c.toNat = y at *
  generalize hz : cm a.toNat c.toNat = z at *
  have Hx := Lib.hid hx
  have Hy := Lib.hid hy
  have Hz := Lib.hid hz
  clear hx hy hz
  have hb := Below.refl w.heap.size w
  have c1 : ∀ w, Calls Try.prog 21 #[.int .u64 (U a), .int .u64 (U b)] w fun e w' => e = .returned (.int .i64 (x : Int)) ∧ Below w.heap.size w w' := fun w => Hx.out ▸ Common_any a b w
  have c1' : ∀ w, Calls Try.prog 21 #[.int .u64 (U b), .int .u64 (U a)] w fun e w' => e = .returned (.int .i64 (x : Int)) ∧ Below w.heap.size w w' := fun w => E1.out ▸ Common_any b a w
  have c2 : ∀ w, Calls Try.prog 21 #[.int .u64 (U b), .int .u64 (U c)] w fun e w' => e = .returned (.int .i64 (y : Int)) ∧ Below w.heap.size w w' := fun w => Hy.out ▸ Common_any b c w
  have c3 : ∀ w, Calls Try.prog 21 #[.int .u64 (U a), .int .u64 (U c)] w fun e w' => e = .returned (.int .i64 (z : Int)) ∧ Below w.heap.size w w' := fun w => Hz.out ▸ Common_any a c w
  have C1 := Lib.hid c1
  have C1' := Lib.hid c1'
  have C2 := Lib.hid c2
  have C3 := Lib.hid c3
  clear c1 c1' c2 c3
  have hyx : y < x ∨ x ≤ y := by omega
  have hx3 : x = 11 ∨ x = 0 ∨ (0 < x ∧ x < 11) := by omega
  rcases hx3 with h11 | h0 | ⟨h0, h11⟩
  · have hd := Hab.out
    have hd2 := Hd2.out (by omega)
    subst h11
    replace hd2 : (dgI a 10 == dgI b 10) = true := hd2
    replace hd : (U a == U b) = true := hd
    rcases hyx with hyx | hyx
    all_goals
      go_enter Try.func5, Try.ntmps5
      go_wp2_with fail
      refine (live_any w).mono ?_; rintro e w1 ⟨rfl, hb2⟩; replace hb := hb.trans (hb2.mono hb.size); clear hb2
      go_wp2_with fail
      refine (C1.out _).mono ?_; rintro e w2 ⟨rfl, hb2⟩; replace hb := hb.trans (hb2.mono hb.size); clear hb2
      go_wp2_with fail
      refine (C2.out _).mono ?_; rintro e w3 ⟨rfl, hb2⟩; replace hb := hb.trans (hb2.mono hb.size); clear hb2
      go_wp2_with fail
      refine (C3.out _).mono ?_; rintro e w4 ⟨rfl, hb2⟩; replace hb := hb.trans (hb2.mono hb.size); clear hb2
      go_wp2_with fail
      refine (C1.out _).mono ?_; rintro e w5 ⟨rfl, hb2⟩; replace hb := hb.trans (hb2.mono hb.size); clear hb2
      go_wp2_with fail
      refine (C1'.out _).mono ?_; rintro e w6 ⟨rfl, hb2⟩; replace hb := hb.trans (hb2.mono hb.size); clear hb2
      go_wp2_with fail
      refine (Digit_any _ _ _).mono ?_; rintro e w' ⟨rfl, rfl⟩
      go_wp2_with fail
      refine (Digit_any _ _ _).mono ?_; rintro e w' ⟨rfl, rfl⟩
      go_wp2_with fail
      go_ret
      refine ⟨?_, hb⟩
      first | rfl | (simp; done) | (simp; omega)
  · have hd := Hab.out
    have hd2 := Hd1.out (by omega)
    subst h0
    replace hd2 : (dgI a 0 != dgI b 0) = true := hd2
    replace hd : (U a == U b) = false := hd
    rcases hyx with hyx | hyx
    · omega
    · go_enter Try.func5, Try.ntmps5
      go_wp2_with fail
      refine (live_any w).mono ?_; rintro e w1 ⟨rfl, hb2⟩; replace hb := hb.trans (hb2.mono hb.size); clear hb2
      go_wp2_with fail
      refine (C1.out _).mono ?_; rintro e w2 ⟨rfl, hb2⟩; replace hb := hb.trans (hb2.mono hb.size); clear hb2
      go_wp2_with fail
      refine (C2.out _).mono ?_; rintro e w3 ⟨rfl, hb2⟩; replace hb := hb.trans (hb2.mono hb.size); clear hb2
      go_wp2_with fail
      refine (C3.out _).mono ?_; rintro e w4 ⟨rfl, hb2⟩; replace hb := hb.trans (hb2.mono hb.size); clear hb2
      go_wp2_with fail
      refine (C1.out _).mono ?_; rintro e w5 ⟨rfl, hb2⟩; replace hb := hb.trans (hb2.mono hb.size); clear hb2
      go_wp2_with fail
      refine (C1'.out _).mono ?_; rintro e w6 ⟨rfl, hb2⟩; replace hb := hb.trans (hb2.mono hb.size); clear hb2
      go_wp2_with fail
      refine (Digit_any _ _ _).mono ?_; rintro e w' ⟨rfl, rfl⟩
      go_wp2_with fail
      refine (Digit_any _ _ _).mono ?_; rintro e w' ⟨rfl, rfl⟩
      go_wp2_with fail
      go_ret
      refine ⟨?_, hb⟩
      first | rfl | (simp; done) | (simp; omega)
  · have hd := Hab.out
    rw [show decide (x = 11) = false by simp; omega] at hd
    have hd1 := Hd1.out h11
    have hd2 := Hd2.out (by omega)
    have hx11 : ((x : Int) == 11) = false := by simp; omega
    have hx0 : ((x : Int) == 0) = false := by simp; omega
    rcases hyx with hyx | hyx
    all_goals
      go_enter Try.func5, Try.ntmps5
      go_wp2_with fail
      refine (live_any w).mono ?_; rintro e w1 ⟨rfl, hb2⟩; replace hb := hb.trans (hb2.mono hb.size); clear hb2
      go_wp2_with fail
      refine (C1.out _).mono ?_; rintro e w2 ⟨rfl, hb2⟩; replace hb := hb.trans (hb2.mono hb.size); clear hb2
      go_wp2_with fail
      refine (C2.out _).mono ?_; rintro e w3 ⟨rfl, hb2⟩; replace hb := hb.trans (hb2.mono hb.size); clear hb2
      go_wp2_with fail
      refine (C3.out _).mono ?_; rintro e w4 ⟨rfl, hb2⟩; replace hb := hb.trans (hb2.mono hb.size); clear hb2
      go_wp2_with fail
      refine (C1.out _).mono ?_; rintro e w5 ⟨rfl, hb2⟩; replace hb := hb.trans (hb2.mono hb.size); clear hb2
      go_wp2_with fail
      refine (C1'.out _).mono ?_; rintro e w6 ⟨rfl, hb2⟩; replace hb := hb.trans (hb2.mono hb.size); clear hb2
      go_wp2_with fail
      refine (Digit_any _ _ _).mono ?_; rintro e w' ⟨rfl, rfl⟩
      go_wp2_with fail
      refine (Digit_any _ _ _).mono ?_; rintro e w' ⟨rfl, rfl⟩
      go_wp2_with fail
      refine (Digit_any _ _ _).mono ?_; rintro e w' ⟨rfl, rfl⟩
      go_wp2_with fail
      refine (Digit_any _ _ _).mono ?_; rintro e w' ⟨rfl, rfl⟩
      go_wp2_with fail
      go_ret
      refine ⟨?_, hb⟩
      first | rfl | (simp; done) | (simp; omega)

theorem not_U (v : BitVec 64) : Op.unary .xor (.int .u64 (U v)) = Sem.pure (.int .u64 (U (~~~v))) := by
  show Op.intBits .xor .u64 IntKind.u64.max (U v) = _
  show Sem.pure (Value.int .u64 (IntKind.u64.wrap ((BitVec.ofInt 64 IntKind.u64.max ^^^ BitVec.ofInt 64 (U v)).toNat : Int))) = _
  rw [ofInt_U, show BitVec.ofInt 64 IntKind.u64.max = BitVec.allOnes 64 by decide, BitVec.allOnes_xor]
  have := wrap_U (~~~v)
  unfold U at this ⊢
  rw [this]
theorem MixRound_walk (v : BitVec 64) (n m : Int) (hn0 : -9223372036854775808 ≤ n) (hn1 : n ≤ 9223372036854775807) (hm0 : -9223372036854775808 ≤ m) (hm1 : m ≤ 9223372036854775807) (w : World) :
    Calls Try.prog 6 #[.int .u64 (U v), .int .i64 n, .int .i64 m] w fun e w' => e = .returned (.bool true) ∧ Below w.heap.size w w' := by
  have hb := Below.refl w.heap.size w
  have ho : onesB (rotB v (n % 64).toNat) = onesB v := onesB_rot v _ (by omega)
  have o1 : ∀ w, Calls Try.prog 19 #[.int .u64 (U (rotB v (n % 64).toNat))] w fun e w' => e = .returned (.int .i64 (onesB v : Int)) ∧ w = w' := fun w => ho ▸ Ones_any (rotB v (n % 64).toNat) w
  have O1 := Lib.hid o1
  clear o1 ho
  by_cases hbig : 4611686018427387904 < n ∨ n < -4611686018427387904 ∨ 4611686018427387904 < m ∨ m < -4611686018427387904
  · have hcases : 4611686018427387904 < n ∨ (¬ 4611686018427387904 < n ∧ n < -4611686018427387904) ∨ (¬ 4611686018427387904 < n ∧ ¬ n < -4611686018427387904 ∧ 4611686018427387904 < m) ∨ (¬ 4611686018427387904 < n ∧ ¬ n < -4611686018427387904 ∧ ¬ 4611686018427387904 < m ∧ m < -4611686018427387904) := by omega
    clear hbig hn0 hn1 hm0 hm1
    rcases hcases with h1 | ⟨h0, h1⟩ | ⟨h0, h1, h2⟩ | ⟨h0, h1, h2, h3⟩
    all_goals
      go_enter Try.func6, Try.ntmps6
      go_wp2_with fail
      refine (live_any w).mono ?_; rintro e w1 ⟨rfl, hb2⟩; replace hb := hb.trans (hb2.mono hb.size); clear hb2
      go_wp2_with fail
      refine (Turn_any v n _).mono ?_; rintro e w' ⟨rfl, rfl⟩
      go_wp2_with fail
      refine (O1.out _).mono ?_; rintro e w' ⟨rfl, rfl⟩
      go_wp2_with fail
      refine (Ones_any v _).mono ?_; rintro e w' ⟨rfl, rfl⟩
      go_wp2_with fail
      go_ret
      exact ⟨rfl, hb⟩
  · have h1 : decide (4611686018427387904 < n) = false := by rw [decide_eq_false_iff_not]; omega
    have h2 : decide (n < -4611686018427387904) = false := by rw [decide_eq_false_iff_not]; omega
    have h3 : decide (4611686018427387904 < m) = false := by rw [decide_eq_false_iff_not]; omega
    have h4 : decide (m < -4611686018427387904) = false := by rw [decide_eq_false_iff_not]; omega
    have hr : rotB (rotB v (n % 64).toNat) (m % 64).toNat = rotB v (wrap64 (n + m) % 64).toNat := by
      rw [rotB_rotB _ _ _ (by omega) (by omega)]; congr 1; unfold wrap64; omega
    have t2 : ∀ w, Calls Try.prog 17 #[.int .u64 (U (rotB v (n % 64).toNat)), .int .i64 m] w fun e w' => e = .returned (.int .u64 (U (rotB v (wrap64 (n + m) % 64).toNat))) ∧ w = w' := fun w => hr ▸ Turn_any (rotB v (n % 64).toNat) m w
    have t3 : ∀ w, Calls Try.prog 17 #[.int .u64 (U v), .int .i64 64] w fun e w' => e = .returned (.int .u64 (U v)) ∧ w = w' := fun w => by
      have := Turn_any v 64 w
      rwa [show ((64 : Int) % 64).toNat = 0 from rfl, rotB_zero] at this
    have hnot := onesB_not v
    have hun := not_U v
    have hA : onesB v ≤ 64 := by omega
    have hB : onesB (~~~v) ≤ 64 := by omega
    have hs : ((onesB v : Int) + (onesB (~~~v) : Int) == 64) = true := by simp; omega
    have Hnot := Lib.hid hnot
    have T2 := Lib.hid t2
    have T3 := Lib.hid t3
    clear hbig hn0 hn1 hm0 hm1 t2 t3 hr hnot
    go_enter Try.func6, Try.ntmps6
    go_wp2_with fail
    refine (live_any w).mono ?_; rintro e w1 ⟨rfl, hb2⟩; replace hb := hb.trans (hb2.mono hb.size); clear hb2
    go_wp2_with fail
    refine (Turn_any v n _).mono ?_; rintro e w' ⟨rfl, rfl⟩
    go_wp2_with fail
    refine (T2.out _).mono ?_; rintro e w' ⟨rfl, rfl⟩
    go_wp2_with fail
    refine (Turn_any v _ _).mono ?_; rintro e w' ⟨rfl, rfl⟩
    go_wp2_with fail
    refine (T3.out _).mono ?_; rintro e w' ⟨rfl, rfl⟩
    go_wp2_with fail
    refine (Turn_any v n _).mono ?_; rintro e w' ⟨rfl, rfl⟩
    go_wp2_with fail
    refine (O1.out _).mono ?_; rintro e w' ⟨rfl, rfl⟩
    go_wp2_with fail
    refine (Ones_any v _).mono ?_; rintro e w' ⟨rfl, rfl⟩
    go_wp2_with fail
    refine (Ones_any v _).mono ?_; rintro e w' ⟨rfl, rfl⟩
    go_wp2_with fail
    refine (Ones_any _ _).mono ?_; rintro e w' ⟨rfl, rfl⟩
    go_wp2_with fail
    go_ret
    exact ⟨rfl, hb⟩
end Go.Proofs.Ytjjoncfbddakkaa

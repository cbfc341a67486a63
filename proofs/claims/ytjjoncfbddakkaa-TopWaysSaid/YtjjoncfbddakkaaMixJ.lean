/-
  The law TopWays as a walk: a key's way through the trie leads back to the key, ways part where the keys do, and a leaf's word says what was put in. No condition.
-/
import Derived.Test.YtjjoncfbddakkaaMixI
namespace Go.Proofs.Ytjjoncfbddakkaa
open Go Pl Go.RowKit Go.Shelf
set_option maxHeartbeats 1000000
theorem child_or (A : Int) (h0 : 1 ≤ A) (h1 : A ≤ 4611686018427387904) : bits BinOp.or IntKind.u64 (IntKind.u64.wrap (A * 2)) 1 = A * 2 + 1 := by
  rw [wrap_u64, show A * 2 % 18446744073709551616 = A * 2 by omega]
  exact bits_join .u64 64 (by decide) wraps_u64 1 _ _ (by omega) (by omega) (by omega) (by omega) (by omega) (by omega)
set_option maxRecDepth 100000 in
theorem Child_leaf (A : Int) (h0 : 1 ≤ A) (h1 : A ≤ 4611686018427387904) (w : World) :
    Calls Try.prog 34 #[.int .u8 1, .int .u64 A] w fun e w' => e = .returned (.tuple #[.int .u64 (A * 2 + 1), .int .i64 0]) ∧ w = w' := by
  have ho := child_or A h0 h1
  have e1 : (A == 0) = false := by simp; omega
  have e2 : decide (4611686018427387904 < A) = false := by rw [decide_eq_false_iff_not]; omega
  clear h0 h1
  go_enter Try.func34, Try.ntmps34
  go_wp2
  go_ret2
  exact ⟨rfl, rfl⟩
set_option maxRecDepth 100000 in
theorem Split_leaf (A : Int) (h0 : 1 ≤ A) (h1 : A ≤ 4611686018427387904) (w : World) :
    Calls Try.prog 35 #[.int .u64 (A * 2 + 1)] w fun e w' => e = .returned (.tuple #[.int .u8 1, .int .u64 A]) ∧ w = w' := by
  have e1 : (A * 2 + 1 == 0) = false := by simp; omega
  have e3 : bits BinOp.and IntKind.u64 (A * 2 + 1) 1 = 1 := by
    obtain ⟨x, hx⟩ := exists_U (n := A * 2 + 1) (by omega) (by omega)
    rw [hx, one_U, and_U]
    unfold U at hx ⊢
    have e : (x &&& 1#64).toNat = x.toNat % 2 := by
      rw [BitVec.toNat_and]; exact Nat.and_two_pow_sub_one_eq_mod x.toNat 1
    rw [e]; show ((x.toNat % 2 : Nat) : Int) = 1; omega
  have e4 : (A * 2 + 1) / 2 = A := by omega
  have hnn : 0 ≤ A * 2 + 1 := by omega
  generalize A * 2 + 1 = B at *
  clear h0 h1
  go_enter Try.func35, Try.ntmps35
  go_wp2
  go_ret2
  exact ⟨rfl, rfl⟩

def dl (x : BitVec 64) : List Int := (List.range 11).map fun i : Nat => dgI x (i : Int)
theorem dl_len (x : BitVec 64) : (dl x).length = 11 := by simp [dl]
theorem dl_get (x : BitVec 64) (k : Nat) (hk : k < 11) : (dl x).getD k 0 = (dg x.toNat k : Int) := by
  simp [dl, hk, dgI_nat]
theorem dl_dgs (x : BitVec 64) : dl x = (dgs x.toNat).map (fun d : Nat => (d : Int)) := by
  simp only [dl, dgs, List.map_map]
  apply List.map_congr_left
  intro i _
  simp [dgI_nat]
set_option maxRecDepth 100000 in
theorem TopWays_walk (a b c : BitVec 64) (w : World) : Calls Try.prog 11 #[.int .u64 (U a), .int .u64 (U b), .int .u64 (U c)] w fun e w' => e = .returned (.bool true) ∧ Below w.heap.size w w' := by
  have hb := Below.refl w.heap.size w
  have Hla := Lib.hid (dl_len (mixB a)).symm
  have Hlb := Lib.hid (dl_len (mixB b)).symm
  have Hj : Hid (jr (dl (mixB a)) = (U (mixB a), true)) := by show jr _ = _; rw [dl_dgs]; exact jr_dgs (mixB a)
  have b1 : ∀ w, Calls Try.prog 15 #[.int .u64 (U (mixB a))] w fun e w' => e = .returned (.int .u64 (U a)) ∧ w = w' := fun w => by have := Back_any (mixB a) w; rwa [back_mix] at this
  have B1 := Lib.hid b1
  obtain ⟨l1, eq1, ne1⟩ := cm_spec (mixB a).toNat (mixB b).toNat
  have Hab : Hid ((((cm (mixB a).toNat (mixB b).toNat : Nat) : Int) == 11) = (U a == U b)) := by
    show _ = _
    have h1 := cm_all (mixB a).toNat (mixB b).toNat (mixB a).isLt (mixB b).isLt
    have h2 : ((mixB a).toNat = (mixB b).toNat) ↔ a = b := ⟨fun h => (mix_inj a b).1 (BitVec.eq_of_toNat_eq h), fun h => h ▸ rfl⟩
    rw [U_beq, Bool.eq_iff_iff]
    simp only [beq_iff_eq, decide_eq_true_eq]
    rw [← h2, ← h1]; omega
  have Eq1 := Lib.hid eq1
  have Ne1 := Lib.hid ne1
  have c1 : ∀ w, Calls Try.prog 21 #[.int .u64 (U (mixB a)), .int .u64 (U (mixB b))] w fun e w' => e = .returned (.int .i64 (cm (mixB a).toNat (mixB b).toNat : Int)) ∧ Below w.heap.size w w' := fun w => Common_any (mixB a) (mixB b) w
  have C1 := Lib.hid c1
  clear b1 eq1 ne1 c1
  generalize cm (mixB a).toNat (mixB b).toNat = m at *
  have hR0 : 1 ≤ U c % 4611686018427387904 + 1 := by have := U_nonneg c; omega
  have hR1 : U c % 4611686018427387904 + 1 ≤ 4611686018427387904 := by omega
  have hR2 : (U c).tmod 4611686018427387904 = U c % 4611686018427387904 := by have := U_nonneg c; rw [Int.tmod_eq_emod]; simp [this]
  have hR3 : IntKind.u64.wrap (U c % 4611686018427387904 + 1) = U c % 4611686018427387904 + 1 := by rw [wrap_u64]; omega
  have k1 := Lib.hid (Child_leaf _ hR0 hR1)
  have k2 := Lib.hid (Split_leaf _ hR0 hR1)
  generalize hR : U c % 4611686018427387904 = R at *
  have HR3 := Lib.hid hR3
  clear hR0 hR1 hR hR3
  go_enter Try.func11, Try.ntmps11
  go_wp2_with fail
  refine (Mix_any a _).mono ?_; rintro e w' ⟨rfl, rfl⟩
  go_wp2_with fail
  refine (Digits_any (mixB a) _).mono ?_; rintro e w2 ⟨v2, rfl, h2, hb2⟩; replace hb := hb.trans (hb2.mono hb.size); clear hb2
  obtain ⟨p2, cap2, rfl, hr2, hc2, hm2, hlt2⟩ := own_Rd h2
  rw [show dvs (mixB a) = iv (dl (mixB a)) from dvs_iv _] at hr2
  clear h2
  go_wp2_with fail
  refine (Mix_any b _).mono ?_; rintro e w' ⟨rfl, rfl⟩
  go_wp2_with fail
  refine (Digits_any (mixB b) _).mono ?_; rintro e w3 ⟨v3, rfl, h3, hb3⟩; replace hb := hb.trans (hb3.mono hb.size)
  obtain ⟨p3, cap3, rfl, hr3, hc3, hm3, hlt3⟩ := own_Rd h3
  rw [show dvs (mixB b) = iv (dl (mixB b)) from dvs_iv _] at hr3
  replace hr2 := hr2.below hb3 (fun x hx => (hlt2 x hx).2)
  have hlt2' : ∀ x, p2 = some x → x.block < w3.heap.size := fun x hx => Nat.lt_of_lt_of_le (hlt2 x hx).2 hb3.size
  clear h3 hb3 hlt2
  go_wp2_with fail
  refine (Mix_any a _).mono ?_; rintro e w' ⟨rfl, rfl⟩
  go_wp2_with fail
  refine (Mix_any b _).mono ?_; rintro e w' ⟨rfl, rfl⟩
  go_wp2_with fail
  refine (C1.out _).mono ?_; rintro e w4 ⟨rfl, hb4⟩; replace hb := hb.trans (hb4.mono hb.size)
  replace hr2 := hr2.below hb4 hlt2'
  replace hr3 := hr3.below hb4 (fun x hx => (hlt3 x hx).2)
  clear hb4 hlt3 hlt2'
  obtain ⟨ba, oa, rfl, hca⟩ := hr2.at_lt (by rw [← Hla.out]; decide)
  obtain ⟨bb, ob, rfl, hcb⟩ := hr3.at_lt (by rw [← Hlb.out]; decide)
  have Hr2 := Lib.hid hr2
  clear hr2 hr3
  go_wp2_with fail
  go_loopw [10] (fun i wr => ∃ k nq : Nat, wr = w4.drewN nq ∧ k ≤ 11 ∧ i = .int .i64 (k : Int)) (fun i _ => 20 - (intOf i).toNat)
  case atStart => exact ⟨0, 0, rfl, by decide, rfl⟩
  case round =>
    obtain ⟨k, nq, rfl, hk, rfl⟩ := hrel
    by_cases hlt : k < 11
    · have h1 := hca k (by rw [← Hla.out]; exact hlt)
      have h2 := hcb k (by rw [← Hlb.out]; exact hlt)
      rw [dl_get _ _ hlt] at h1 h2
      have hd1 : dg (mixB a).toNat k < 64 := dg_lt _ _
      have hne := Ne1.out
      have heq := Eq1.out
      clear hca hcb
      rcases Nat.lt_trichotomy k m with hkm | hkm | hkm
      · have hq := heq k hkm
        rw [hq] at h1 hd1
        have hm0 : ((k : Int) == (m : Int)) = false := by simp; omega
        have hm1 : decide (k < m) = true := by simp; omega
        clear hne heq hq
        generalize dg (mixB b).toNat k = y at *
        have hy1 : decide ((y : Int) < 0) = false := by rw [decide_eq_false_iff_not]; omega
        have hy2 : decide (63 < (y : Int)) = false := by simp; omega
        go_wp2
        go_quiet (fail)
        go_wp2
        go_roundw
        case rel => exact ⟨k + 1, _, rfl, by omega, by go_num⟩
        case measure => simp [intOf]; omega
      · subst hkm
        have hq := hne hlt
        have hz : ((dg (mixB a).toNat k : Int) == (dg (mixB b).toNat k : Int)) = false := by simp; omega
        clear hne heq hq
        generalize dg (mixB a).toNat k = x at *
        generalize dg (mixB b).toNat k = y at *
        have hy1 : decide ((x : Int) < 0) = false := by rw [decide_eq_false_iff_not]; omega
        have hy2 : decide (63 < (x : Int)) = false := by simp; omega
        go_wp2
        go_quiet (fail)
        go_wp2
        go_roundw
        case rel => exact ⟨k + 1, _, rfl, by omega, by go_num⟩
        case measure => simp [intOf]; omega
      · have hm0 : ((k : Int) == (m : Int)) = false := by simp; omega
        have hm1 : decide (k < m) = false := by simp; omega
        clear hne heq
        generalize dg (mixB a).toNat k = x at *
        generalize dg (mixB b).toNat k = y at *
        have hy1 : decide ((x : Int) < 0) = false := by rw [decide_eq_false_iff_not]; omega
        have hy2 : decide (63 < (x : Int)) = false := by simp; omega
        go_wp2
        go_quiet (fail)
        go_wp2
        go_roundw
        case rel => exact ⟨k + 1, _, rfl, by omega, by go_num⟩
        case measure => simp [intOf]; omega
    · have hd : Hid (Rd (w4.drewN nq) (some ⟨ba, oa, none⟩) (iv (dl (mixB a)))) := Hr2.out
      go_wp2_with fail
      refine (Join_any _ 11 cap2 _ Hla.out _ hd.out).mono ?_; rintro e w' ⟨rfl, rfl⟩
      rw [Hj.out]
      have hR3 := HR3.out
      go_wp2_with fail
      refine (k1.out _).mono ?_; rintro e w' ⟨rfl, rfl⟩
      go_wp2_with fail
      refine (k2.out _).mono ?_; rintro e w' ⟨rfl, rfl⟩
      go_wp2_with fail
      refine (B1.out _).mono ?_; rintro e w' ⟨rfl, rfl⟩
      have hab := Hab.out
      go_wp2_with fail
      go_ret
      refine ⟨?_, below_draws hb nq⟩
      first | rfl | (simp; done)
end Go.Proofs.Ytjjoncfbddakkaa

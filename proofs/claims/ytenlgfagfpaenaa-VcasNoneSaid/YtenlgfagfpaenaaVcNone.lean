/-
  VcasNone: nil procs, and steps on a nil view. No condition.
-/
import Derived.Test.YtenlgfagfpaenaaVcE
namespace Go.Proofs.Ytenlgfagfpaenaa
open Go Go.RowKit
set_option linter.unusedSimpArgs false
set_option linter.unusedVariables false
theorem blk_below {w w' : World} {k : Nat} {t : TypeId} {cs : Array Value} (hb : Blk w k t cs) (h : Below w.heap.size w w') : Blk w' k t cs := (h.block _ hb.lt).trans hb
theorem Mx.nil {w0 w w' : World} {p : Nat → Prop} (h : Mx w0 none p w) (hb : Below w.heap.size w w') : Mx w0 none p w' := ⟨h.1.trans (hb.mono h.1.size), fun k hk => ⟨(h.2 k hk).1, Nat.lt_of_lt_of_le (h.2 k hk).2 hb.size⟩⟩
set_option maxHeartbeats 2000000 in
set_option maxRecDepth 100000 in
theorem VcasNone_any (w : World) (a b c : Int) (ha : 0 ≤ a) (hb : 0 ≤ b) : Calls Try.prog 4 #[.int .u64 a, .int .u64 b, .int .u64 c] w fun e w' => e = .returned (.bool true) ∧ Below w.heap.size w w' := by
  go_enter Try.func4, Try.ntmps4
  go_wp2_with fail
  refine (Init_nil _ _).mono ?_
  rintro e w' ⟨rfl, rfl⟩
  go_wp2_with fail
  refine (Read_nil _ _).mono ?_
  rintro e w' ⟨rfl, rfl⟩
  go_wp2_with fail
  refine (Cas_step_nil _ _).mono ?_
  rintro e w' ⟨rfl, rfl⟩
  go_wp2_with fail
  refine (At_nil _ _).mono ?_
  rintro e w' ⟨rfl, rfl⟩
  go_wp2_with fail
  refine (Read_Value_nil _).mono ?_
  rintro e w' ⟨rfl, rfl⟩
  go_wp2_with fail
  refine (Cas_Done_nil _).mono ?_
  rintro e w' ⟨rfl, rfl⟩
  go_wp2_with fail
  refine (Cas_Errno_nil _).mono ?_
  rintro e w' ⟨rfl, rfl⟩
  go_wp2_with fail
  refine (At_Value_nil _).mono ?_
  rintro e w' ⟨rfl, rfl⟩
  go_wp2_with fail
  refine (NewRead_any _ _ _).mono ?_
  rintro e w1 ⟨rfl, hw1⟩
  have HW1 := Lib.hid hw1
  clear hw1
  go_wp2_with fail
  refine (NewAt_any _ _ _ _).mono ?_
  rintro e w2 ⟨rfl, hw2⟩
  have HW2 := Lib.hid hw2
  clear hw2
  go_wp2_with fail
  refine (NewCas_any _ _ _ _ _).mono ?_
  rintro e w3 ⟨rfl, hw3⟩
  have hS : ∃ p : Nat → Prop, (p w.heap.size ∧ p w1.heap.size ∧ p w2.heap.size) ∧ Mx w none p w3 ∧ RdAt w3 w.heap.size a b false false 0 (.pointer none) 0 0 ∧ PaAt w3 w1.heap.size a b false false 0 (.pointer none) 0 c 0 ∧ CaAt w3 w2.heap.size a b false false 0 (.pointer none) 0 0 1 0 false (.pointer none) 0 ∧ w.heap.size ≠ w1.heap.size ∧ w.heap.size ≠ w2.heap.size ∧ w1.heap.size ≠ w2.heap.size := by
    have m0 : Mx w none (fun _ => False) w := ⟨Below.refl _ _, fun k h => h.elim⟩
    have b1 : Below w.heap.size w w1 := HW1.out ▸ (Below.refl _ w).alloc (Nat.le_refl _) _
    have b2 : Below w1.heap.size w1 w2 := HW2.out ▸ (Below.refl _ w1).alloc (Nat.le_refl _) _
    have b3 : Below w2.heap.size w2 w3 := hw3 ▸ (Below.refl _ w2).alloc (Nat.le_refl _) _
    have z1 : w1.heap.size = w.heap.size + 1 := by rw [HW1.out]; simp
    have z2 : w2.heap.size = w1.heap.size + 1 := by rw [HW2.out]; simp
    have r1 : RdAt w1 w.heap.size a b false false 0 (.pointer none) 0 0 := HW1.out ▸ Blk.made w _ _
    have q2 : PaAt w2 w1.heap.size a b false false 0 (.pointer none) 0 c 0 := HW2.out ▸ Blk.made w1 _ _
    have x3 : CaAt w3 w2.heap.size a b false false 0 (.pointer none) 0 0 1 0 false (.pointer none) 0 := hw3 ▸ Blk.made w2 _ _
    have m1 := m0.alloc (.cells (headC a b false false 0 (.pointer none) ++ ([.int .i64 0, .int .u64 0] : List Value)).toArray 131)
    rw [← HW1.out] at m1
    have m2 := m1.alloc (.cells (headC a b false false 0 (.pointer none) ++ ([.int .i64 0, .int .u64 c, .int .u64 0] : List Value)).toArray 137)
    rw [← HW2.out] at m2
    have m3 := m2.alloc (.cells (headC a b false false 0 (.pointer none) ++ ([.int .i64 0, .int .u64 0, .int .u64 1, .int .u64 0, .bool false, .pointer none, .int .i64 0] : List Value)).toArray 133)
    rw [← hw3] at m3
    refine ⟨_, ⟨.inl (.inl (.inr rfl)), .inl (.inr rfl), .inr rfl⟩, m3, blk_below (blk_below r1 b2) b3, blk_below q2 b3, x3, by omega, by omega, by omega⟩
  obtain ⟨p, ⟨p1, p2, p3⟩, m3, r3, q3, x3, n12, n13, n23⟩ := hS
  clear hw3 HW1 HW2
  generalize hkp : w.heap.size = kp at *
  generalize w1.heap.size = kq at *
  generalize w2.heap.size = kx at *
  have hC := Read_0 (o := none) r3 m3 p1 hb 0 rfl trivial
  have HC := Lib.hid hC
  have HQ := Lib.hid q3
  have HX := Lib.hid x3
  clear hC r3 m3 q3 x3
  go_wp2_with fail
  refine HC.out.mono ?_
  rintro e w4 ⟨rfl, i4, r4, -, m4, k4, -⟩
  have q4 := k4.blk HQ.out p2 (Ne.symm n12)
  have HX4 := Lib.hid (k4.blk HX.out p3 (Ne.symm n13))
  have HR4 := Lib.hid r4
  have HC1 := Lib.hid (At_0 (o := none) q4 m4 (.inl p2) hb rfl trivial)
  clear r4 m4 k4 q4 HC HQ HX
  go_wp2_with fail
  refine HC1.out.mono ?_
  rintro e w5 ⟨rfl, i5, q5, m5, k5⟩
  have r5 : RdAt w5 kp a b true true 0 (.pointer (some ⟨i4, 0, none⟩)) 7 0 := k5.blk HR4.out (.inl p1) n12
  have x5 := k5.blk HX4.out (.inl p3) (Ne.symm n23)
  have HV := Lib.hid (Read_Value r5)
  have HV2 := Lib.hid (At_Value q5)
  have HC2 := Lib.hid (Cas_0 (o := none) x5 m5 (.inl (.inl p3)) hb (by decide) rfl trivial)
  clear r5 x5 q5 m5 k5 HC1 HR4 HX4
  go_wp2_with fail
  refine HV.out.mono ?_
  rintro e w6 ⟨rfl, rfl⟩
  go_wp2_with fail
  refine HV2.out.mono ?_
  rintro e w6 ⟨rfl, rfl⟩
  go_wp2_with fail
  refine HC2.out.mono ?_
  rintro e w7 ⟨rfl, iv7, x7, m7, k7⟩
  have HC3 := Lib.hid (Cas_1 (o := none) (x := 0) x7 m7 (.inl (.inl p3)) rfl trivial)
  clear x7 m7 k7 HV HV2 HC2
  go_wp2_with fail
  refine HC3.out.mono ?_
  rintro e w8 ⟨rfl, x8, m8, k8⟩
  have HX8 := Lib.hid x8
  have HM8 := Lib.hid m8
  clear x8 m8 k8 HC3
  go_wp2_with fail
  refine (NewInit_any _ _ _).mono ?_
  rintro e w9 ⟨rfl, hw9⟩
  have b9 : Below w8.heap.size w8 w9 := hw9 ▸ (Below.refl _ w8).alloc (Nat.le_refl _) _
  have y9 : InitAt w9 w8.heap.size a b 0 0 := hw9 ▸ Blk.made w8 _ _
  have m9 := HM8.out.alloc (.cells #[.int .u64 a, .int .u64 b, .int .i64 0, .int .u64 0] 127)
  rw [← hw9] at m9
  have HX9 := Lib.hid (blk_below HX8.out b9)
  have HY9 := Lib.hid y9
  have HM9 := Lib.hid m9
  clear hw9 b9 y9 m9 HX8 HM8
  generalize w8.heap.size = ky at *
  go_wp2_with fail
  refine (live9_any _).mono ?_
  rintro e wl ⟨rfl, bl⟩
  have xl := blk_below HX9.out bl
  have yl : InitAt wl ky a b 0 0 := blk_below HY9.out bl
  have ml := HM9.out.nil bl
  have HE := Lib.hid (Cas_Errno xl)
  have HD := Lib.hid (Cas_Done xl)
  have HI := Lib.hid (Init_0 (o := none) yl ml (.inr rfl) 0 rfl trivial)
  clear xl yl ml bl HX9 HY9 HM9
  go_wp2_with fail
  refine HE.out.mono ?_
  rintro e w' ⟨rfl, rfl⟩
  go_wp2_with fail
  refine HD.out.mono ?_
  rintro e w' ⟨rfl, rfl⟩
  go_wp2_with fail
  refine HI.out.mono ?_
  rintro e wa ⟨rfl, ya, ma, -⟩
  have HI2 := Lib.hid (Init_1 (o := none) ya ma (.inr rfl) ha 0 rfl trivial)
  clear ya ma HI HE HD
  go_wp2_with fail
  refine HI2.out.mono ?_
  rintro e wb ⟨rfl, yb, mb, -⟩
  have HI3 := Lib.hid (Init_2 (o := none) yb mb (.inr rfl) trivial)
  clear yb mb HI2
  go_wp2_with fail
  refine HI3.out.mono ?_
  rintro e wc ⟨rfl, yc, mc, -⟩
  have HB := Lib.hid mc.bel
  clear yc mc HI3
  go_wp2
  go_ret
  exact ⟨rfl, HB.out⟩
end Go.Proofs.Ytenlgfagfpaenaa

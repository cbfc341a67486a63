/-
  A store of the config that the laws use is made, and a store under a lock. No condition.
-/
import Derived.Test.YtfjilcneiaekaaaLkA
namespace Go.Proofs.Ytfjilcneiaekaaa
open Go Go.RowKit
set_option linter.unusedSimpArgs false
set_option linter.unusedVariables false
def cfg : Array Value := #[.int .i64 2000, .int .i64 2, .int .u64 100, .int .i64 4]
theorem isRight_cfg (w : World) : Calls Try.prog 46 #[.agg #[.int .i64 2000, .int .i64 2, .int .u64 100, .int .i64 4]] w fun e w' => e = .returned (.bool true) ∧ Below w.heap.size w w' := by
  go_enter Try.func46, Try.ntmps46
  go_wp2_with fail
  go_ret
  exact ⟨rfl, (Below.refl _ w).alloc (Nat.le_refl _) _⟩
theorem res_cell1 {P : Program} {fn : Func} {a t : Nat} {tmps : Array Value} {w : World} {ad : Addr} {x : Value} (hr : fn.results = #[.cell a t]) (ha : tmps.getD a undef = .pointer (some ad)) (hl : (loadVar t ad).run P w = .ok x w) :
    (results fn tmps).run P w = .ok x w := by
  have e : tmps[a]?.getD undef = .pointer (some ad) := by simpa using ha
  simp [results, hr, ha, hl, asAddr, e]
theorem config_any (w : World) : Calls Try.prog 11 #[] w fun e w' => e = .returned (.agg #[.int .i64 2000, .int .i64 2, .int .u64 100, .int .i64 4]) ∧ Below w.heap.size w w' := by
  go_enter Try.func11, Try.ntmps11
  go_wp2_with fail
  refine ⟨rfl, .agg #[.int .i64 2000, .int .i64 2, .int .u64 100, .int .i64 4], res_cell1 rfl rfl ?_, rfl, (Below.refl _ w).alloc (Nat.le_refl _) _⟩
  exact run_loadVar_row _ w.heap.size 47 47 _ (0, 0) _ (Blk.made w _ _) Try.underlying47 rfl (by decide +kernel)
theorem New_o (w : World) : Calls Try.prog 47 #[.int .i64 2000, .bool false] w fun e w' => ∃ bm, e = .returned (.tuple #[.pointer (some ⟨bm, 0, none⟩), .int .i64 0]) ∧ PM w' (fun b => w.heap.size ≤ b) bm K0 ∧ Below w.heap.size w w' := New_plain w 2000 (by decide) (by decide)
theorem View_o (w0 w : World) (bm : Nat) (hm : PM w (fun b => w0.heap.size ≤ b) bm K0) (hb : Below w0.heap.size w0 w) : Calls Try.prog 48 #[.pointer (some ⟨bm, 0, none⟩), .int .i64 (-1)] w fun e w' => ∃ v, e = .returned (.pointer (some ⟨v, 0, none⟩)) ∧ Sx w0 bm v K0 0 (fun _ => False) w' := by
  refine (View_any w bm (-1)).mono ?_
  rintro e w' ⟨rfl, rfl⟩
  have hb2 : Below w.heap.size w (w.alloc (.cells #[.pointer (some ⟨bm, 0, none⟩), .int .i64 (-1), .int .i64 0] 137)) := (Below.refl _ w).alloc (Nat.le_refl _) _
  have ho : Own w0 w (fun b => w0.heap.size ≤ b ∧ b < w.heap.size) bm K0 := ⟨Mine.start hm, hb⟩
  exact ⟨_, rfl, _, ho.bel hb2, Blk.made w _ _, fun e => by omega, hb.size, fun _ h => h.elim⟩
set_option maxRecDepth 100000 in
theorem made_any (w : World) : Calls Try.prog 34 #[.agg #[.int .i64 2000, .int .i64 2, .int .u64 100, .int .i64 4], .bool false] w fun e w' => ∃ q, e = .returned (.tuple #[.pointer (some q), .int .i64 0]) ∧ Below w.heap.size w w' := by
  have HR : Hid (Calls Try.prog 46 #[.agg #[.int .i64 2000, .int .i64 2, .int .u64 100, .int .i64 4]] (w.alloc (.cells #[.int .i64 2000, .int .i64 2, .int .u64 100, .int .i64 4] 47)) _) := Lib.hid (isRight_cfg _)
  go_enter Try.func34, Try.ntmps34
  go_wp2_with fail
  refine HR.out.mono ?_
  rintro e w1 ⟨rfl, hb1⟩
  have hbw : Below w.heap.size w w1 := ((Below.refl _ w).alloc (Nat.le_refl _) _).trans (hb1.mono (by simp))
  have HW := Lib.hid hbw
  have hB := (Blk.made w 47 #[.int .i64 2000, .int .i64 2, .int .u64 100, .int .i64 4]).below hb1
  have e0 : w1.cell? ⟨w.heap.size, 0, none⟩ = some (.int .i64 2000) := hB.cell 0
  have HN := Lib.hid (New_o w1)
  have HBk := Lib.hid hB
  clear hb1 HR hB hbw
  go_wp2_with fail
  refine HN.out.mono ?_
  rintro e w2 ⟨bm, rfl, hm, hb2⟩
  have HV := Lib.hid (View_o w1 w2 bm hm hb2)
  clear hm hb2 HN
  go_wp2_with fail
  refine HV.out.mono ?_
  rintro e w3 ⟨v, rfl, hs3⟩
  have HT := Lib.hid (trieMake hs3 (by decide))
  clear hs3 HV
  go_wp2_with fail
  refine HT.out.mono ?_
  rintro e w4 ⟨rfl, hs4, -⟩
  have hs5 := hs4.alloc (.cells #[.int .u64 1, .int .u64 2] 100)
  have hBc := (HBk.out.below hs5.bel)
  have hBt := Blk.made w4 100 #[.int .u64 1, .int .u64 2]
  have HA := Lib.hid (annMake hs5 (by decide))
  have HBt := Lib.hid hBt
  have g1 : (w4.alloc (.cells #[.int .u64 1, .int .u64 2] 100)).cell? ⟨w.heap.size, 1, none⟩ = some (.int .i64 2) := hBc.cell 1
  have g2 : (w4.alloc (.cells #[.int .u64 1, .int .u64 2] 100)).cell? ⟨w.heap.size, 2, none⟩ = some (.int .u64 100) := hBc.cell 2
  clear hs4 hs5 hBc hBt HT
  go_wp2_with fail
  refine HA.out.mono ?_
  rintro e w5 ⟨rfl, hs5, k5⟩
  have b1 := (HBk.out.below hs5.bel)
  have b2 := k5.blk HBt.out (.inr rfl)
  have HS := Lib.hid hs5
  have b1 := b1.alloc (.cells #[.int .u64 1, .int .u64 66, .int .i64 2, .int .u64 100] 104)
  have b2 := b2.alloc (.cells #[.int .u64 1, .int .u64 66, .int .i64 2, .int .u64 100] 104)
  have r0 : (w5.alloc (.cells #[.int .u64 1, .int .u64 66, .int .i64 2, .int .u64 100] 104)).cell? ⟨w.heap.size, 0, none⟩ = some (.int .i64 2000) := b1.cell 0
  have r1 : (w5.alloc (.cells #[.int .u64 1, .int .u64 66, .int .i64 2, .int .u64 100] 104)).cell? ⟨w.heap.size, 1, none⟩ = some (.int .i64 2) := b1.cell 1
  have r2 : (w5.alloc (.cells #[.int .u64 1, .int .u64 66, .int .i64 2, .int .u64 100] 104)).cell? ⟨w.heap.size, 2, none⟩ = some (.int .u64 100) := b1.cell 2
  have r3 : (w5.alloc (.cells #[.int .u64 1, .int .u64 66, .int .i64 2, .int .u64 100] 104)).cell? ⟨w.heap.size, 3, none⟩ = some (.int .i64 4) := b1.cell 3
  have t0 : (w5.alloc (.cells #[.int .u64 1, .int .u64 66, .int .i64 2, .int .u64 100] 104)).cell? ⟨w4.heap.size, 0, none⟩ = some (.int .u64 1) := b2.cell 0
  have t1 : (w5.alloc (.cells #[.int .u64 1, .int .u64 66, .int .i64 2, .int .u64 100] 104)).cell? ⟨w4.heap.size, 1, none⟩ = some (.int .u64 2) := b2.cell 1
  clear hs5 k5 b1 b2 HA HBt HBk g1 g2 e0
  go_wp2_with fail
  go_ret2
  refine ⟨_, rfl, ((HW.out.trans (HS.out.bel.mono HW.out.size)).alloc (Nat.le_trans HW.out.size HS.out.bel.size) _).alloc (Nat.le_trans HW.out.size (Nat.le_trans HS.out.bel.size (by simp))) _⟩
theorem SNew_any (w : World) : Calls Try.prog 19 #[.agg #[.int .i64 2000, .int .i64 2, .int .u64 100, .int .i64 4]] w fun e w' => ∃ q, e = .returned (.tuple #[.pointer (some q), .int .i64 0]) ∧ Below w.heap.size w w' := by
  have HR := Lib.hid (made_any (w.alloc (.cells #[.int .i64 2000, .int .i64 2, .int .u64 100, .int .i64 4] 47)))
  go_enter Try.func19, Try.ntmps19
  go_wp2_with fail
  refine HR.out.mono ?_
  rintro e w1 ⟨q, rfl, hb1⟩
  have hbw : Below w.heap.size w w1 := ((Below.refl _ w).alloc (Nat.le_refl _) _).trans (hb1.mono (by simp))
  go_wp2_with fail
  go_ret2
  exact ⟨_, rfl, hbw⟩
end Go.Proofs.Ytfjilcneiaekaaa

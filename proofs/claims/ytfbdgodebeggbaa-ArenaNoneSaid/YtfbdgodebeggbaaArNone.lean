/-
  ArenaNone: nil memories and views. No condition.
-/
import Derived.Test.YtfbdgodebeggbaaArLive
namespace Go.Proofs.Ytfbdgodebeggbaa
open Go Go.RowKit
set_option linter.unusedSimpArgs false
set_option linter.unusedVariables false
set_option maxHeartbeats 4000000 in
set_option maxRecDepth 100000 in
theorem ArenaNone_any (k wh th a x y : Int) (p : Option Addr) (n c : Nat) (w : World) : Calls Try.prog 13 #[.agg #[.int .i64 k, .int .i64 wh, .int .i64 th, .int .u64 a, .int .u64 x, .int .u64 y, .slice p n c]] w fun e w' => e = .returned (.bool true) ∧ Below w.heap.size w w' := by
  go_enter Try.func13, Try.ntmps13
  go_wp2_with fail
  have hb := Blk.made w 92 #[.int .i64 k, .int .i64 wh, .int .i64 th, .int .u64 a, .int .u64 x, .int .u64 y, .slice p n c]
  have b1 := (Below.refl w.heap.size w).alloc (Nat.le_refl _) (.cells #[.int .i64 k, .int .i64 wh, .int .i64 th, .int .u64 a, .int .u64 x, .int .u64 y, .slice p n c] 92)
  generalize hw1 : w.alloc _ = w1 at *
  clear hw1
  generalize hB : w.heap.size = B at *
  have c2 : w1.cell? ⟨B, 2, none⟩ = some _ := hb.cell 2
  have c3 : w1.cell? ⟨B, 3, none⟩ = some _ := hb.cell 3
  have c4 : w1.cell? ⟨B, 4, none⟩ = some _ := hb.cell 4
  have c5 : w1.cell? ⟨B, 5, none⟩ = some _ := hb.cell 5
  have c6 : w1.cell? ⟨B, 6, none⟩ = some _ := hb.cell 6
  go_wp2_with fail
  refine (Store_nil _ _ _).mono ?_
  rintro e w' ⟨rfl, rfl⟩
  go_wp2_with fail
  refine (live3_any _).mono ?_
  rintro e w2 ⟨rfl, bl⟩
  have hb2 := hb.below bl
  have b2 := b1.trans (bl.mono (by have := b1.size; omega))
  clear c2 c3 c4 c5 c6 hb bl b1
  have c2 : w2.cell? ⟨B, 2, none⟩ = some _ := hb2.cell 2
  have c3 : w2.cell? ⟨B, 3, none⟩ = some _ := hb2.cell 3
  have c4 : w2.cell? ⟨B, 4, none⟩ = some _ := hb2.cell 4
  have c5 : w2.cell? ⟨B, 5, none⟩ = some _ := hb2.cell 5
  have c6 : w2.cell? ⟨B, 6, none⟩ = some _ := hb2.cell 6
  go_wp2_with fail
  refine (MView_nil _ _).mono ?_
  rintro e w' ⟨rfl, rfl⟩
  go_wp2_with fail
  refine (MCells_nil _).mono ?_
  rintro e w' ⟨rfl, rfl⟩
  go_wp2_with fail
  refine (MLeft_nil _).mono ?_
  rintro e w' ⟨rfl, rfl⟩
  go_wp2_with fail
  refine (MPeek_nil _ _).mono ?_
  rintro e w' ⟨rfl, rfl⟩
  go_wp2_with fail
  refine (MTrace_nil _).mono ?_
  rintro e w' ⟨rfl, rfl⟩
  go_wp2_with fail
  refine (MMade_nil _).mono ?_
  rintro e w' ⟨rfl, rfl⟩
  go_wp2_with fail
  refine (MFork_nil _).mono ?_
  rintro e w' ⟨rfl, rfl⟩
  go_wp2_with fail
  refine (MLive_nil _).mono ?_
  rintro e w' ⟨rfl, rfl⟩
  go_wp2_with fail
  refine (Load_nil _ _).mono ?_
  rintro e w' ⟨rfl, rfl⟩
  go_wp2_with fail
  refine (Cas_nil _ _ _ _).mono ?_
  rintro e w' ⟨rfl, rfl⟩
  go_wp2_with fail
  refine (Add_nil _ _ _).mono ?_
  rintro e w' ⟨rfl, rfl⟩
  go_wp2_with fail
  refine (Alloc_nil _ _).mono ?_
  rintro e w' ⟨rfl, rfl⟩
  go_wp2_with fail
  refine (Accesses_nil _).mono ?_
  rintro e w' ⟨rfl, rfl⟩
  go_wp2_with fail
  refine (Thread_nil _).mono ?_
  rintro e w' ⟨rfl, rfl⟩
  go_wp2
  go_ret
  exact ⟨rfl, by rw [← hB] at b2; exact b2⟩
end Go.Proofs.Ytfbdgodebeggbaa

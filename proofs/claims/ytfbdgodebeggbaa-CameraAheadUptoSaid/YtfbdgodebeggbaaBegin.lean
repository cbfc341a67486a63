/-
  A call that has not begun. No condition.
-/
import Derived.Test.YtfbdgodebeggbaaCamStep
namespace Go.Proofs.Ytfbdgodebeggbaa
open Go Go.RowKit
set_option linter.unusedSimpArgs false
set_option linter.unusedVariables false
section
variable {w w' : World} {lab : Nat → Nat}
/-- a call that has not begun -/
def CS.fresh (c : Int) (b : Bool) (m : Int) : CS := ⟨b, m, ⟨0, c, 0⟩, ⟨0, c, m, 0, 0, 0, false⟩, -1, -1⟩
set_option maxRecDepth 100000 in
theorem begin_any (w : World) (c m : Int) (b : Bool) : Calls Try.prog 53 #[.int .u64 c, .agg #[.bool b, .int .u64 m]] w fun e w' => ∃ pb np tp, e = .returned (.pointer (some ⟨pb, 0, none⟩)) ∧ CAt w' (fun k => w.heap.size ≤ k) pb np tp (CS.fresh c b m) ∧ Below w.heap.size w w' := by
  go_enter Try.func53, Try.ntmps53
  go_wp2_with fail
  have hb := Blk.made w 48 #[.bool b, .int .u64 m]
  have hs1 : (w.alloc (Obj.cells #[Value.bool b, Value.int IntKind.u64 m] 48)).heap.size = w.heap.size + 1 := by simp
  have hB := (Below.refl w.heap.size w).alloc (Nat.le_refl _) (Obj.cells #[Value.bool b, Value.int IntKind.u64 m] 48)
  generalize w.alloc _ = w1 at *
  generalize hbx : w.heap.size = bx at *
  have c0 : w1.cell? ⟨bx, 0, none⟩ = some (.bool b) := hb.cell 0
  have c1 : w1.cell? ⟨bx, 1, none⟩ = some (.int .u64 m) := hb.cell 1
  have SX : ∀ w', Blk w' bx 48 #[.bool b, .int .u64 m] → w'.cell? ⟨bx, 0, none⟩ = some (.bool b) ∧ w'.cell? ⟨bx, 1, none⟩ = some (.int .u64 m) := fun w' h => ⟨h.cell 0, h.cell 1⟩
  have HSX := Lib.hid SX
  have HS1 := Lib.hid hs1
  have HBX := Lib.hid hbx
  clear SX hs1 hbx
  go_region_held3 (fun w' => w'.cell? ⟨bx, 0, none⟩ = some (.bool b) ∧ w'.cell? ⟨bx, 1, none⟩ = some (.int .u64 m))
    (first | exact HSX.out _ hb | exact HSX.out _ (Blk.alloc hb _) | exact HSX.out _ (Blk.alloc (Blk.alloc hb _) _) | exact HSX.out _ (Blk.alloc (Blk.alloc (Blk.alloc hb _) _) _))
    (first | ((with_reducible refine (NewNow_any _ _).mono ?_); rintro e w2 ⟨rfl, rfl⟩) | ((with_reducible refine (NewTake_any _ _ _).mono ?_); rintro e w2 ⟨rfl, rfl⟩))
  have e1 := HS1.out
  have e2 := HBX.out
  have bn := Blk.made w1 132 (NowS.cs ⟨0, c, 0⟩)
  have bt := Blk.made (w1.alloc (.cells (NowS.cs ⟨0, c, 0⟩) 132)) 134 (TakeS.cs ⟨0, c, m, 0, 0, 0, false⟩)
  have bp := Blk.made ((w1.alloc (.cells (NowS.cs ⟨0, c, 0⟩) 132)).alloc (.cells (TakeS.cs ⟨0, c, m, 0, 0, 0, false⟩) 134)) 54 ((CS.fresh c b m).ps w1.heap.size (w1.heap.size + 1)).cs
  simp only [World.size_alloc] at bt bp
  have hB3 := ((hB.alloc (by omega) (.cells (NowS.cs ⟨0, c, 0⟩) 132)).alloc (by simp; omega) (.cells (TakeS.cs ⟨0, c, m, 0, 0, 0, false⟩) 134)).alloc (by simp; omega) (.cells ((CS.fresh c b m).ps w1.heap.size (w1.heap.size + 1)).cs 54)
  have HE : Hid (CAt (((w1.alloc (.cells (NowS.cs ⟨0, c, 0⟩) 132)).alloc (.cells (TakeS.cs ⟨0, c, m, 0, 0, 0, false⟩) 134)).alloc (.cells ((CS.fresh c b m).ps w1.heap.size (w1.heap.size + 1)).cs 54)) (fun k => bx ≤ k) (w1.heap.size + 1 + 1) w1.heap.size (w1.heap.size + 1) (CS.fresh c b m)) :=
    ⟨bp, (bn.alloc _).alloc _, bt.alloc _, by show bx ≤ _; omega, by show bx ≤ _; omega, by show bx ≤ _; omega⟩
  have HB3 := Lib.hid hB3
  clear bn bt bp hB3 e1 e2 c0 c1
  go_wp2
  go_ret
  rw [HBX.out]
  exact ⟨_, _, _, rfl, HE.out.fr ((Fr.refl (fun _ => False) _).drawn 1) (fun _ _ e => e), HB3.out.drew⟩
end
end Go.Proofs.Ytfbdgodebeggbaa

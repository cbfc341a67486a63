/-
  begin: a call that has not begun. No condition.
-/
import Derived.Test.YtenlgfagfpaenaaVrB
import Derived.Laws.ResultCell
namespace Go.Proofs.Ytenlgfagfpaenaa
open Go Go.RowKit
set_option linter.unusedSimpArgs false
set_option linter.unusedVariables false
def prA (k : Nat) (c : Cl) : Array Value := #[.int .i64 c.kind, if c.kind = 0 then pp k else pn, if c.kind = 1 then pp k else pn, if c.kind = 2 then pp k else pn, if c.kind = 3 then pp k else pn, pn]
section
variable {w w' : World} {cam : Int} {c : Cl}
theorem NewTk_any (w : World) (c m : Int) : Calls Try.prog 74 #[.int .u64 c, .int .u64 m] w fun e w' => e = .returned (.pointer (some ⟨w.heap.size, 0, none⟩)) ∧ w' = w.alloc (.cells #[.int .i64 0, .int .u64 c, .int .u64 m, .int .u64 0, .int .u64 0, .int .i64 0, .bool false] 186) := by
  go_enter Try.func74, Try.ntmps74
  go_wp2
  go_ret
  exact ⟨rfl, rfl⟩
theorem cell_load {w : World} {g : Nat} {cs : Array Value} (h : Blk w g 80 cs) (hs : cs.size = 6 := by rfl) : (loadVar 80 ⟨g, 0, none⟩).run Try.prog w = .ok (.agg cs) w :=
  run_loadVar_row (P := Try.prog) w g 80 80 cs (0, 0) _ h Try.underlying80 rfl (by rw [hs]; kernel_rfl)
set_option maxHeartbeats 2000000 in
set_option maxRecDepth 100000 in
theorem begin_any (w : World) (cam : Int) (c : Cl) (h0 : 0 ≤ c.kind) (h3 : c.kind ≤ 3) :
    Calls Try.prog 61 #[.int .u64 cam, .agg #[.int .i64 c.kind, .int .u64 c.obj, .int .u64 c.a, .int .u64 c.b]] w fun e w' => ∃ k, e = .returned (.tuple #[.agg (prA k c), procV k c]) ∧ w.heap.size ≤ k ∧ VpAt w' cam c k 0 0 .new ∧ Below w.heap.size w w' := by
  obtain ⟨w1, hw1⟩ : ∃ w1, w1 = (w.alloc (.cells #[.int .i64 c.kind, .int .u64 c.obj, .int .u64 c.a, .int .u64 c.b] 76)).alloc (.cells #[.int .i64 0, pn, pn, pn, pn, pn] 80) := ⟨_, rfl⟩
  have hb1 : Below w.heap.size w w1 := hw1 ▸ ((Below.refl _ _).alloc (Nat.le_refl _) _).alloc (by simp) _
  have hz1 : w1.heap.size = w.heap.size + 2 := by rw [hw1]; simp
  have hB0 : Blk w1 w.heap.size 76 #[.int .i64 c.kind, .int .u64 c.obj, .int .u64 c.a, .int .u64 c.b] := hw1 ▸ (Blk.made w _ _).alloc _
  have hB1 : Blk w1 (w.heap.size + 1) 80 #[.int .i64 0, pn, pn, pn, pn, pn] := by
    have := Blk.made (w.alloc (.cells #[.int .i64 c.kind, .int .u64 c.obj, .int .u64 c.a, .int .u64 c.b] 76)) 80 #[.int .i64 0, pn, pn, pn, pn, pn]
    rw [← hw1] at this
    simpa using this
  obtain ⟨kd, co, ca, cb⟩ := c
  have hcase : kd = 0 ∨ kd = 1 ∨ kd = 2 ∨ kd = 3 := by simp only at h0 h3; omega
  simp only at hw1 hB0 ⊢
  rcases hcase with rfl | rfl | rfl | rfl
  · have a0 : w1.cell? ⟨w.heap.size, 0, none⟩ = some (.int .i64 0) := hB0.cell 0
    have a1 : w1.cell? ⟨w.heap.size, 1, none⟩ = some (.int .u64 co) := hB0.cell 1
    have a2 : w1.cell? ⟨w.heap.size, 2, none⟩ = some (.int .u64 ca) := hB0.cell 2
    have a3 : w1.cell? ⟨w.heap.size, 3, none⟩ = some (.int .u64 cb) := hB0.cell 3
    go_enter Try.func61, Try.ntmps61
    go_upto_region 1 with fail
    rw [show (w.alloc (.cells #[.int .i64 0, .int .u64 co, .int .u64 ca, .int .u64 cb] 76)).alloc (.cells #[.int .i64 0, .pointer none, .pointer none, .pointer none, .pointer none, .pointer none] 80) = w1 from hw1.symm]
    clear hw1
    go_wp2_with fail
    refine (NewRead_any _ _ _).mono ?_
    rintro e w2 ⟨rfl, hw2⟩

    have hb2 : Blk w2 (w.heap.size + 1) 80 #[.int .i64 0, pn, pn, pn, pn, pn] := hw2 ▸ hB1.alloc _
    have hk2 : Blk w2 w1.heap.size _ _ := hw2 ▸ Blk.made w1 _ _
    rw [hz1] at hk2
    have hbb : Below w.heap.size w w2 := hw2 ▸ hb1.alloc (by omega) _
    have t0 : w2.cell? ⟨w.heap.size + 1, 0, none⟩ = some (.int .i64 0) := hb2.cell 0
    have t1 : w2.cell? ⟨w.heap.size + 1, 1, none⟩ = some (.pointer none) := hb2.cell 1
    have t2 : w2.cell? ⟨w.heap.size + 1, 2, none⟩ = some (.pointer none) := hb2.cell 2
    have t3 : w2.cell? ⟨w.heap.size + 1, 3, none⟩ = some (.pointer none) := hb2.cell 3
    have t4 : w2.cell? ⟨w.heap.size + 1, 4, none⟩ = some (.pointer none) := hb2.cell 4
    have t5 : w2.cell? ⟨w.heap.size + 1, 5, none⟩ = some (.pointer none) := hb2.cell 5
    have f0 := hb2.cold 0
    have f1 := hb2.cold 1
    have f2 := hb2.cold 2
    have f3 := hb2.cold 3
    have f4 := hb2.cold 4
    have f5 := hb2.cold 5
    clear hw2 a0 a1 a2 a3
    go_wp2
    have hne : w.heap.size + 2 ≠ w.heap.size + 1 := by omega
    have h9 : Blk ((((((w2.setCell ⟨w.heap.size + 1, 0, none⟩ (.int .i64 0)).setCell ⟨w.heap.size + 1, 1, none⟩ (.pointer (some ⟨w.heap.size + 2, 0, none⟩))).setCell ⟨w.heap.size + 1, 2, none⟩ (.pointer none)).setCell ⟨w.heap.size + 1, 3, none⟩ (.pointer none)).setCell ⟨w.heap.size + 1, 4, none⟩ (.pointer none)).setCell ⟨w.heap.size + 1, 5, none⟩ (.pointer none)) (w.heap.size + 1) 80 #[.int .i64 0, .pointer (some ⟨w.heap.size + 2, 0, none⟩), .pointer none, .pointer none, .pointer none, .pointer none] := ((((((hb2.put 0 (.int .i64 0)).put 1 (.pointer (some ⟨w.heap.size + 2, 0, none⟩))).put 2 (.pointer none)).put 3 (.pointer none)).put 4 (.pointer none)).put 5 (.pointer none))
    have h10 : VpAt ((((((w2.setCell ⟨w.heap.size + 1, 0, none⟩ (.int .i64 0)).setCell ⟨w.heap.size + 1, 1, none⟩ (.pointer (some ⟨w.heap.size + 2, 0, none⟩))).setCell ⟨w.heap.size + 1, 2, none⟩ (.pointer none)).setCell ⟨w.heap.size + 1, 3, none⟩ (.pointer none)).setCell ⟨w.heap.size + 1, 4, none⟩ (.pointer none)).setCell ⟨w.heap.size + 1, 5, none⟩ (.pointer none)) cam ⟨0, co, ca, cb⟩ (w.heap.size + 2) 0 0 .new := .inl ⟨rfl, (Blk.far (Blk.far (Blk.far (Blk.far (Blk.far (Blk.far hk2 (p := ⟨w.heap.size + 1, 0, none⟩) hne (.int .i64 0)) (p := ⟨w.heap.size + 1, 1, none⟩) hne (.pointer (some ⟨w.heap.size + 2, 0, none⟩))) (p := ⟨w.heap.size + 1, 2, none⟩) hne (.pointer none)) (p := ⟨w.heap.size + 1, 3, none⟩) hne (.pointer none)) (p := ⟨w.heap.size + 1, 4, none⟩) hne (.pointer none)) (p := ⟨w.heap.size + 1, 5, none⟩) hne (.pointer none))⟩
    have h11 : Below w.heap.size w ((((((w2.setCell ⟨w.heap.size + 1, 0, none⟩ (.int .i64 0)).setCell ⟨w.heap.size + 1, 1, none⟩ (.pointer (some ⟨w.heap.size + 2, 0, none⟩))).setCell ⟨w.heap.size + 1, 2, none⟩ (.pointer none)).setCell ⟨w.heap.size + 1, 3, none⟩ (.pointer none)).setCell ⟨w.heap.size + 1, 4, none⟩ (.pointer none)).setCell ⟨w.heap.size + 1, 5, none⟩ (.pointer none)) := ((((((hbb.setCell (p := ⟨w.heap.size + 1, 0, none⟩) (by show w.heap.size ≤ w.heap.size + 1; omega) (.int .i64 0)).setCell (p := ⟨w.heap.size + 1, 1, none⟩) (by show w.heap.size ≤ w.heap.size + 1; omega) (.pointer (some ⟨w.heap.size + 2, 0, none⟩))).setCell (p := ⟨w.heap.size + 1, 2, none⟩) (by show w.heap.size ≤ w.heap.size + 1; omega) (.pointer none)).setCell (p := ⟨w.heap.size + 1, 3, none⟩) (by show w.heap.size ≤ w.heap.size + 1; omega) (.pointer none)).setCell (p := ⟨w.heap.size + 1, 4, none⟩) (by show w.heap.size ≤ w.heap.size + 1; omega) (.pointer none)).setCell (p := ⟨w.heap.size + 1, 5, none⟩) (by show w.heap.size ≤ w.heap.size + 1; omega) (.pointer none))
    clear hbb hb2 hk2 t0 t1 t2 t3 t4 t5 f0 f1 f2 f3 f4 f5 hB0 hB1 hb1 hz1
    generalize ((((((w2.setCell ⟨w.heap.size + 1, 0, none⟩ (.int .i64 0)).setCell ⟨w.heap.size + 1, 1, none⟩ (.pointer (some ⟨w.heap.size + 2, 0, none⟩))).setCell ⟨w.heap.size + 1, 2, none⟩ (.pointer none)).setCell ⟨w.heap.size + 1, 3, none⟩ (.pointer none)).setCell ⟨w.heap.size + 1, 4, none⟩ (.pointer none)).setCell ⟨w.heap.size + 1, 5, none⟩ (.pointer none)) = w9 at h9 h10 h11 ⊢
    have hl9 := cell_load h9
    refine bodyPost_ret (v := .tuple #[.agg #[.int .i64 0, .pointer (some ⟨w.heap.size + 2, 0, none⟩), .pointer none, .pointer none, .pointer none, .pointer none], .iface 42 (.pointer (some ⟨w.heap.size + 2, 0, none⟩))]) ?_ rfl ?_
    · refine (results_cell_tmp rfl _ _ _).trans ?_
      simp [asAddr, hl9, Result.andThen]
    · exact ⟨_, rfl, by omega, h10, h11⟩
  · have a0 : w1.cell? ⟨w.heap.size, 0, none⟩ = some (.int .i64 1) := hB0.cell 0
    have a1 : w1.cell? ⟨w.heap.size, 1, none⟩ = some (.int .u64 co) := hB0.cell 1
    have a2 : w1.cell? ⟨w.heap.size, 2, none⟩ = some (.int .u64 ca) := hB0.cell 2
    have a3 : w1.cell? ⟨w.heap.size, 3, none⟩ = some (.int .u64 cb) := hB0.cell 3
    go_enter Try.func61, Try.ntmps61
    go_upto_region 1 with fail
    rw [show (w.alloc (.cells #[.int .i64 1, .int .u64 co, .int .u64 ca, .int .u64 cb] 76)).alloc (.cells #[.int .i64 0, .pointer none, .pointer none, .pointer none, .pointer none, .pointer none] 80) = w1 from hw1.symm]
    clear hw1
    go_wp2_with fail
    refine (NewCas_any _ _ _ _ _).mono ?_
    rintro e w2 ⟨rfl, hw2⟩

    have hb2 : Blk w2 (w.heap.size + 1) 80 #[.int .i64 0, pn, pn, pn, pn, pn] := hw2 ▸ hB1.alloc _
    have hk2 : Blk w2 w1.heap.size _ _ := hw2 ▸ Blk.made w1 _ _
    rw [hz1] at hk2
    have hbb : Below w.heap.size w w2 := hw2 ▸ hb1.alloc (by omega) _
    have t0 : w2.cell? ⟨w.heap.size + 1, 0, none⟩ = some (.int .i64 0) := hb2.cell 0
    have t1 : w2.cell? ⟨w.heap.size + 1, 1, none⟩ = some (.pointer none) := hb2.cell 1
    have t2 : w2.cell? ⟨w.heap.size + 1, 2, none⟩ = some (.pointer none) := hb2.cell 2
    have t3 : w2.cell? ⟨w.heap.size + 1, 3, none⟩ = some (.pointer none) := hb2.cell 3
    have t4 : w2.cell? ⟨w.heap.size + 1, 4, none⟩ = some (.pointer none) := hb2.cell 4
    have t5 : w2.cell? ⟨w.heap.size + 1, 5, none⟩ = some (.pointer none) := hb2.cell 5
    have f0 := hb2.cold 0
    have f1 := hb2.cold 1
    have f2 := hb2.cold 2
    have f3 := hb2.cold 3
    have f4 := hb2.cold 4
    have f5 := hb2.cold 5
    clear hw2 a0 a1 a2 a3
    go_wp2
    have hne : w.heap.size + 2 ≠ w.heap.size + 1 := by omega
    have h9 : Blk ((((((w2.setCell ⟨w.heap.size + 1, 0, none⟩ (.int .i64 1)).setCell ⟨w.heap.size + 1, 1, none⟩ (.pointer none)).setCell ⟨w.heap.size + 1, 2, none⟩ (.pointer (some ⟨w.heap.size + 2, 0, none⟩))).setCell ⟨w.heap.size + 1, 3, none⟩ (.pointer none)).setCell ⟨w.heap.size + 1, 4, none⟩ (.pointer none)).setCell ⟨w.heap.size + 1, 5, none⟩ (.pointer none)) (w.heap.size + 1) 80 #[.int .i64 1, .pointer none, .pointer (some ⟨w.heap.size + 2, 0, none⟩), .pointer none, .pointer none, .pointer none] := ((((((hb2.put 0 (.int .i64 1)).put 1 (.pointer none)).put 2 (.pointer (some ⟨w.heap.size + 2, 0, none⟩))).put 3 (.pointer none)).put 4 (.pointer none)).put 5 (.pointer none))
    have h10 : VpAt ((((((w2.setCell ⟨w.heap.size + 1, 0, none⟩ (.int .i64 1)).setCell ⟨w.heap.size + 1, 1, none⟩ (.pointer none)).setCell ⟨w.heap.size + 1, 2, none⟩ (.pointer (some ⟨w.heap.size + 2, 0, none⟩))).setCell ⟨w.heap.size + 1, 3, none⟩ (.pointer none)).setCell ⟨w.heap.size + 1, 4, none⟩ (.pointer none)).setCell ⟨w.heap.size + 1, 5, none⟩ (.pointer none)) cam ⟨1, co, ca, cb⟩ (w.heap.size + 2) 0 0 .new := .inr (.inl ⟨rfl, (Blk.far (Blk.far (Blk.far (Blk.far (Blk.far (Blk.far hk2 (p := ⟨w.heap.size + 1, 0, none⟩) hne (.int .i64 1)) (p := ⟨w.heap.size + 1, 1, none⟩) hne (.pointer none)) (p := ⟨w.heap.size + 1, 2, none⟩) hne (.pointer (some ⟨w.heap.size + 2, 0, none⟩))) (p := ⟨w.heap.size + 1, 3, none⟩) hne (.pointer none)) (p := ⟨w.heap.size + 1, 4, none⟩) hne (.pointer none)) (p := ⟨w.heap.size + 1, 5, none⟩) hne (.pointer none))⟩)
    have h11 : Below w.heap.size w ((((((w2.setCell ⟨w.heap.size + 1, 0, none⟩ (.int .i64 1)).setCell ⟨w.heap.size + 1, 1, none⟩ (.pointer none)).setCell ⟨w.heap.size + 1, 2, none⟩ (.pointer (some ⟨w.heap.size + 2, 0, none⟩))).setCell ⟨w.heap.size + 1, 3, none⟩ (.pointer none)).setCell ⟨w.heap.size + 1, 4, none⟩ (.pointer none)).setCell ⟨w.heap.size + 1, 5, none⟩ (.pointer none)) := ((((((hbb.setCell (p := ⟨w.heap.size + 1, 0, none⟩) (by show w.heap.size ≤ w.heap.size + 1; omega) (.int .i64 1)).setCell (p := ⟨w.heap.size + 1, 1, none⟩) (by show w.heap.size ≤ w.heap.size + 1; omega) (.pointer none)).setCell (p := ⟨w.heap.size + 1, 2, none⟩) (by show w.heap.size ≤ w.heap.size + 1; omega) (.pointer (some ⟨w.heap.size + 2, 0, none⟩))).setCell (p := ⟨w.heap.size + 1, 3, none⟩) (by show w.heap.size ≤ w.heap.size + 1; omega) (.pointer none)).setCell (p := ⟨w.heap.size + 1, 4, none⟩) (by show w.heap.size ≤ w.heap.size + 1; omega) (.pointer none)).setCell (p := ⟨w.heap.size + 1, 5, none⟩) (by show w.heap.size ≤ w.heap.size + 1; omega) (.pointer none))
    clear hbb hb2 hk2 t0 t1 t2 t3 t4 t5 f0 f1 f2 f3 f4 f5 hB0 hB1 hb1 hz1
    generalize ((((((w2.setCell ⟨w.heap.size + 1, 0, none⟩ (.int .i64 1)).setCell ⟨w.heap.size + 1, 1, none⟩ (.pointer none)).setCell ⟨w.heap.size + 1, 2, none⟩ (.pointer (some ⟨w.heap.size + 2, 0, none⟩))).setCell ⟨w.heap.size + 1, 3, none⟩ (.pointer none)).setCell ⟨w.heap.size + 1, 4, none⟩ (.pointer none)).setCell ⟨w.heap.size + 1, 5, none⟩ (.pointer none)) = w9 at h9 h10 h11 ⊢
    have hl9 := cell_load h9
    refine bodyPost_ret (v := .tuple #[.agg #[.int .i64 1, .pointer none, .pointer (some ⟨w.heap.size + 2, 0, none⟩), .pointer none, .pointer none, .pointer none], .iface 43 (.pointer (some ⟨w.heap.size + 2, 0, none⟩))]) ?_ rfl ?_
    · refine (results_cell_tmp rfl _ _ _).trans ?_
      simp [asAddr, hl9, Result.andThen]
    · exact ⟨_, rfl, by omega, h10, h11⟩
  · have a0 : w1.cell? ⟨w.heap.size, 0, none⟩ = some (.int .i64 2) := hB0.cell 0
    have a1 : w1.cell? ⟨w.heap.size, 1, none⟩ = some (.int .u64 co) := hB0.cell 1
    have a2 : w1.cell? ⟨w.heap.size, 2, none⟩ = some (.int .u64 ca) := hB0.cell 2
    have a3 : w1.cell? ⟨w.heap.size, 3, none⟩ = some (.int .u64 cb) := hB0.cell 3
    go_enter Try.func61, Try.ntmps61
    go_upto_region 1 with fail
    rw [show (w.alloc (.cells #[.int .i64 2, .int .u64 co, .int .u64 ca, .int .u64 cb] 76)).alloc (.cells #[.int .i64 0, .pointer none, .pointer none, .pointer none, .pointer none, .pointer none] 80) = w1 from hw1.symm]
    clear hw1
    go_wp2_with fail
    refine (NewAt_any _ _ _ _).mono ?_
    rintro e w2 ⟨rfl, hw2⟩

    have hb2 : Blk w2 (w.heap.size + 1) 80 #[.int .i64 0, pn, pn, pn, pn, pn] := hw2 ▸ hB1.alloc _
    have hk2 : Blk w2 w1.heap.size _ _ := hw2 ▸ Blk.made w1 _ _
    rw [hz1] at hk2
    have hbb : Below w.heap.size w w2 := hw2 ▸ hb1.alloc (by omega) _
    have t0 : w2.cell? ⟨w.heap.size + 1, 0, none⟩ = some (.int .i64 0) := hb2.cell 0
    have t1 : w2.cell? ⟨w.heap.size + 1, 1, none⟩ = some (.pointer none) := hb2.cell 1
    have t2 : w2.cell? ⟨w.heap.size + 1, 2, none⟩ = some (.pointer none) := hb2.cell 2
    have t3 : w2.cell? ⟨w.heap.size + 1, 3, none⟩ = some (.pointer none) := hb2.cell 3
    have t4 : w2.cell? ⟨w.heap.size + 1, 4, none⟩ = some (.pointer none) := hb2.cell 4
    have t5 : w2.cell? ⟨w.heap.size + 1, 5, none⟩ = some (.pointer none) := hb2.cell 5
    have f0 := hb2.cold 0
    have f1 := hb2.cold 1
    have f2 := hb2.cold 2
    have f3 := hb2.cold 3
    have f4 := hb2.cold 4
    have f5 := hb2.cold 5
    clear hw2 a0 a1 a2 a3
    go_wp2
    have hne : w.heap.size + 2 ≠ w.heap.size + 1 := by omega
    have h9 : Blk ((((((w2.setCell ⟨w.heap.size + 1, 0, none⟩ (.int .i64 2)).setCell ⟨w.heap.size + 1, 1, none⟩ (.pointer none)).setCell ⟨w.heap.size + 1, 2, none⟩ (.pointer none)).setCell ⟨w.heap.size + 1, 3, none⟩ (.pointer (some ⟨w.heap.size + 2, 0, none⟩))).setCell ⟨w.heap.size + 1, 4, none⟩ (.pointer none)).setCell ⟨w.heap.size + 1, 5, none⟩ (.pointer none)) (w.heap.size + 1) 80 #[.int .i64 2, .pointer none, .pointer none, .pointer (some ⟨w.heap.size + 2, 0, none⟩), .pointer none, .pointer none] := ((((((hb2.put 0 (.int .i64 2)).put 1 (.pointer none)).put 2 (.pointer none)).put 3 (.pointer (some ⟨w.heap.size + 2, 0, none⟩))).put 4 (.pointer none)).put 5 (.pointer none))
    have h10 : VpAt ((((((w2.setCell ⟨w.heap.size + 1, 0, none⟩ (.int .i64 2)).setCell ⟨w.heap.size + 1, 1, none⟩ (.pointer none)).setCell ⟨w.heap.size + 1, 2, none⟩ (.pointer none)).setCell ⟨w.heap.size + 1, 3, none⟩ (.pointer (some ⟨w.heap.size + 2, 0, none⟩))).setCell ⟨w.heap.size + 1, 4, none⟩ (.pointer none)).setCell ⟨w.heap.size + 1, 5, none⟩ (.pointer none)) cam ⟨2, co, ca, cb⟩ (w.heap.size + 2) 0 0 .new := .inr (.inr (.inl ⟨rfl, (Blk.far (Blk.far (Blk.far (Blk.far (Blk.far (Blk.far hk2 (p := ⟨w.heap.size + 1, 0, none⟩) hne (.int .i64 2)) (p := ⟨w.heap.size + 1, 1, none⟩) hne (.pointer none)) (p := ⟨w.heap.size + 1, 2, none⟩) hne (.pointer none)) (p := ⟨w.heap.size + 1, 3, none⟩) hne (.pointer (some ⟨w.heap.size + 2, 0, none⟩))) (p := ⟨w.heap.size + 1, 4, none⟩) hne (.pointer none)) (p := ⟨w.heap.size + 1, 5, none⟩) hne (.pointer none))⟩))
    have h11 : Below w.heap.size w ((((((w2.setCell ⟨w.heap.size + 1, 0, none⟩ (.int .i64 2)).setCell ⟨w.heap.size + 1, 1, none⟩ (.pointer none)).setCell ⟨w.heap.size + 1, 2, none⟩ (.pointer none)).setCell ⟨w.heap.size + 1, 3, none⟩ (.pointer (some ⟨w.heap.size + 2, 0, none⟩))).setCell ⟨w.heap.size + 1, 4, none⟩ (.pointer none)).setCell ⟨w.heap.size + 1, 5, none⟩ (.pointer none)) := ((((((hbb.setCell (p := ⟨w.heap.size + 1, 0, none⟩) (by show w.heap.size ≤ w.heap.size + 1; omega) (.int .i64 2)).setCell (p := ⟨w.heap.size + 1, 1, none⟩) (by show w.heap.size ≤ w.heap.size + 1; omega) (.pointer none)).setCell (p := ⟨w.heap.size + 1, 2, none⟩) (by show w.heap.size ≤ w.heap.size + 1; omega) (.pointer none)).setCell (p := ⟨w.heap.size + 1, 3, none⟩) (by show w.heap.size ≤ w.heap.size + 1; omega) (.pointer (some ⟨w.heap.size + 2, 0, none⟩))).setCell (p := ⟨w.heap.size + 1, 4, none⟩) (by show w.heap.size ≤ w.heap.size + 1; omega) (.pointer none)).setCell (p := ⟨w.heap.size + 1, 5, none⟩) (by show w.heap.size ≤ w.heap.size + 1; omega) (.pointer none))
    clear hbb hb2 hk2 t0 t1 t2 t3 t4 t5 f0 f1 f2 f3 f4 f5 hB0 hB1 hb1 hz1
    generalize ((((((w2.setCell ⟨w.heap.size + 1, 0, none⟩ (.int .i64 2)).setCell ⟨w.heap.size + 1, 1, none⟩ (.pointer none)).setCell ⟨w.heap.size + 1, 2, none⟩ (.pointer none)).setCell ⟨w.heap.size + 1, 3, none⟩ (.pointer (some ⟨w.heap.size + 2, 0, none⟩))).setCell ⟨w.heap.size + 1, 4, none⟩ (.pointer none)).setCell ⟨w.heap.size + 1, 5, none⟩ (.pointer none)) = w9 at h9 h10 h11 ⊢
    have hl9 := cell_load h9
    refine bodyPost_ret (v := .tuple #[.agg #[.int .i64 2, .pointer none, .pointer none, .pointer (some ⟨w.heap.size + 2, 0, none⟩), .pointer none, .pointer none], .iface 44 (.pointer (some ⟨w.heap.size + 2, 0, none⟩))]) ?_ rfl ?_
    · refine (results_cell_tmp rfl _ _ _).trans ?_
      simp [asAddr, hl9, Result.andThen]
    · exact ⟨_, rfl, by omega, h10, h11⟩
  · have a0 : w1.cell? ⟨w.heap.size, 0, none⟩ = some (.int .i64 3) := hB0.cell 0
    have a1 : w1.cell? ⟨w.heap.size, 1, none⟩ = some (.int .u64 co) := hB0.cell 1
    have a2 : w1.cell? ⟨w.heap.size, 2, none⟩ = some (.int .u64 ca) := hB0.cell 2
    have a3 : w1.cell? ⟨w.heap.size, 3, none⟩ = some (.int .u64 cb) := hB0.cell 3
    go_enter Try.func61, Try.ntmps61
    go_upto_region 1 with fail
    rw [show (w.alloc (.cells #[.int .i64 3, .int .u64 co, .int .u64 ca, .int .u64 cb] 76)).alloc (.cells #[.int .i64 0, .pointer none, .pointer none, .pointer none, .pointer none, .pointer none] 80) = w1 from hw1.symm]
    clear hw1
    go_wp2_with fail
    refine (NewTk_any _ _ _).mono ?_
    rintro e w2 ⟨rfl, hw2⟩

    have hb2 : Blk w2 (w.heap.size + 1) 80 #[.int .i64 0, pn, pn, pn, pn, pn] := hw2 ▸ hB1.alloc _
    have hk2 : Blk w2 w1.heap.size _ _ := hw2 ▸ Blk.made w1 _ _
    rw [hz1] at hk2
    have hbb : Below w.heap.size w w2 := hw2 ▸ hb1.alloc (by omega) _
    have t0 : w2.cell? ⟨w.heap.size + 1, 0, none⟩ = some (.int .i64 0) := hb2.cell 0
    have t1 : w2.cell? ⟨w.heap.size + 1, 1, none⟩ = some (.pointer none) := hb2.cell 1
    have t2 : w2.cell? ⟨w.heap.size + 1, 2, none⟩ = some (.pointer none) := hb2.cell 2
    have t3 : w2.cell? ⟨w.heap.size + 1, 3, none⟩ = some (.pointer none) := hb2.cell 3
    have t4 : w2.cell? ⟨w.heap.size + 1, 4, none⟩ = some (.pointer none) := hb2.cell 4
    have t5 : w2.cell? ⟨w.heap.size + 1, 5, none⟩ = some (.pointer none) := hb2.cell 5
    have f0 := hb2.cold 0
    have f1 := hb2.cold 1
    have f2 := hb2.cold 2
    have f3 := hb2.cold 3
    have f4 := hb2.cold 4
    have f5 := hb2.cold 5
    clear hw2 a0 a1 a2 a3
    go_wp2
    have hne : w.heap.size + 2 ≠ w.heap.size + 1 := by omega
    have h9 : Blk ((((((w2.setCell ⟨w.heap.size + 1, 0, none⟩ (.int .i64 3)).setCell ⟨w.heap.size + 1, 1, none⟩ (.pointer none)).setCell ⟨w.heap.size + 1, 2, none⟩ (.pointer none)).setCell ⟨w.heap.size + 1, 3, none⟩ (.pointer none)).setCell ⟨w.heap.size + 1, 4, none⟩ (.pointer (some ⟨w.heap.size + 2, 0, none⟩))).setCell ⟨w.heap.size + 1, 5, none⟩ (.pointer none)) (w.heap.size + 1) 80 #[.int .i64 3, .pointer none, .pointer none, .pointer none, .pointer (some ⟨w.heap.size + 2, 0, none⟩), .pointer none] := ((((((hb2.put 0 (.int .i64 3)).put 1 (.pointer none)).put 2 (.pointer none)).put 3 (.pointer none)).put 4 (.pointer (some ⟨w.heap.size + 2, 0, none⟩))).put 5 (.pointer none))
    have h10 : VpAt ((((((w2.setCell ⟨w.heap.size + 1, 0, none⟩ (.int .i64 3)).setCell ⟨w.heap.size + 1, 1, none⟩ (.pointer none)).setCell ⟨w.heap.size + 1, 2, none⟩ (.pointer none)).setCell ⟨w.heap.size + 1, 3, none⟩ (.pointer none)).setCell ⟨w.heap.size + 1, 4, none⟩ (.pointer (some ⟨w.heap.size + 2, 0, none⟩))).setCell ⟨w.heap.size + 1, 5, none⟩ (.pointer none)) cam ⟨3, co, ca, cb⟩ (w.heap.size + 2) 0 0 .new := .inr (.inr (.inr ⟨rfl, (Blk.far (Blk.far (Blk.far (Blk.far (Blk.far (Blk.far hk2 (p := ⟨w.heap.size + 1, 0, none⟩) hne (.int .i64 3)) (p := ⟨w.heap.size + 1, 1, none⟩) hne (.pointer none)) (p := ⟨w.heap.size + 1, 2, none⟩) hne (.pointer none)) (p := ⟨w.heap.size + 1, 3, none⟩) hne (.pointer none)) (p := ⟨w.heap.size + 1, 4, none⟩) hne (.pointer (some ⟨w.heap.size + 2, 0, none⟩))) (p := ⟨w.heap.size + 1, 5, none⟩) hne (.pointer none))⟩))
    have h11 : Below w.heap.size w ((((((w2.setCell ⟨w.heap.size + 1, 0, none⟩ (.int .i64 3)).setCell ⟨w.heap.size + 1, 1, none⟩ (.pointer none)).setCell ⟨w.heap.size + 1, 2, none⟩ (.pointer none)).setCell ⟨w.heap.size + 1, 3, none⟩ (.pointer none)).setCell ⟨w.heap.size + 1, 4, none⟩ (.pointer (some ⟨w.heap.size + 2, 0, none⟩))).setCell ⟨w.heap.size + 1, 5, none⟩ (.pointer none)) := ((((((hbb.setCell (p := ⟨w.heap.size + 1, 0, none⟩) (by show w.heap.size ≤ w.heap.size + 1; omega) (.int .i64 3)).setCell (p := ⟨w.heap.size + 1, 1, none⟩) (by show w.heap.size ≤ w.heap.size + 1; omega) (.pointer none)).setCell (p := ⟨w.heap.size + 1, 2, none⟩) (by show w.heap.size ≤ w.heap.size + 1; omega) (.pointer none)).setCell (p := ⟨w.heap.size + 1, 3, none⟩) (by show w.heap.size ≤ w.heap.size + 1; omega) (.pointer none)).setCell (p := ⟨w.heap.size + 1, 4, none⟩) (by show w.heap.size ≤ w.heap.size + 1; omega) (.pointer (some ⟨w.heap.size + 2, 0, none⟩))).setCell (p := ⟨w.heap.size + 1, 5, none⟩) (by show w.heap.size ≤ w.heap.size + 1; omega) (.pointer none))
    clear hbb hb2 hk2 t0 t1 t2 t3 t4 t5 f0 f1 f2 f3 f4 f5 hB0 hB1 hb1 hz1
    generalize ((((((w2.setCell ⟨w.heap.size + 1, 0, none⟩ (.int .i64 3)).setCell ⟨w.heap.size + 1, 1, none⟩ (.pointer none)).setCell ⟨w.heap.size + 1, 2, none⟩ (.pointer none)).setCell ⟨w.heap.size + 1, 3, none⟩ (.pointer none)).setCell ⟨w.heap.size + 1, 4, none⟩ (.pointer (some ⟨w.heap.size + 2, 0, none⟩))).setCell ⟨w.heap.size + 1, 5, none⟩ (.pointer none)) = w9 at h9 h10 h11 ⊢
    have hl9 := cell_load h9
    refine bodyPost_ret (v := .tuple #[.agg #[.int .i64 3, .pointer none, .pointer none, .pointer none, .pointer (some ⟨w.heap.size + 2, 0, none⟩), .pointer none], .iface 78 (.pointer (some ⟨w.heap.size + 2, 0, none⟩))]) ?_ rfl ?_
    · refine (results_cell_tmp rfl _ _ _).trans ?_
      simp [asAddr, hl9, Result.andThen]
    · exact ⟨_, rfl, by omega, h10, h11⟩
end
end Go.Proofs.Ytenlgfagfpaenaa

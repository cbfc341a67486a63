/-
  A store under a lock is made. No condition.
-/
import Derived.Test.YtfjilcneiaekaaaLkB
import Derived.Maps.OwnSet
import Derived.Deep.Cut
import Derived.Deep.DeepCutAuto
import Derived.Deep.RegionHeld3
import Derived.Deep.QuietTactic
namespace Go.Proofs.Ytfjilcneiaekaaa
open Go Go.RowKit Go.Maps
set_option linter.unusedSimpArgs false
set_option linter.unusedVariables false
/-- the cells of a store that has done d operations -/
def lcs (bm : Nat) (hv gv tv : Value) (d : Nat) : Array Value := #[.int .i32 0, .int .u32 0, .int .i64 2000, .int .i64 2, .int .u64 100, .int .i64 4, .map (some bm), hv, gv, tv, .int .i64 (d : Int), .int .u64 0]
/-- a store made behind w0: its map holds D, at most n entries -/
def LSt (w0 w : World) (q bm n : Nat) (D : DataW Unit) (d : Nat) : Prop := (∃ hv gv tv, Blk w q 52 (lcs bm hv gv tv d)) ∧ w.ownsMap Try.prog 23 (plainElem Try.prog 23) bm n D ∧ w0.heap.size ≤ q ∧ w0.heap.size ≤ bm ∧ Below w0.heap.size w0 w
theorem five (w : World) (o1 o2 o3 o4 o5 : Obj) : (((((w.alloc o1).alloc o2).alloc o3).alloc o4).alloc o5).heap[w.heap.size]? = some o1 ∧ (((((w.alloc o1).alloc o2).alloc o3).alloc o4).alloc o5).heap[w.heap.size + 1]? = some o2 ∧ (((((w.alloc o1).alloc o2).alloc o3).alloc o4).alloc o5).heap[w.heap.size + 1 + 1]? = some o3 ∧ (((((w.alloc o1).alloc o2).alloc o3).alloc o4).alloc o5).heap[w.heap.size + 1 + 1 + 1]? = some o4 ∧ (((((w.alloc o1).alloc o2).alloc o3).alloc o4).alloc o5).heap[w.heap.size + 1 + 1 + 1 + 1]? = some o5 := by
  have a1 : ∀ {u : World} {o : Obj} {k : Nat} {x : Option Obj}, k < u.heap.size → u.heap[k]? = x → (u.alloc o).heap[k]? = x := fun h e => (Below.heap_alloc _ _ _ h).trans e
  have n2 := heap_alloc_new (w.alloc o1) o2
  have n3 := heap_alloc_new ((w.alloc o1).alloc o2) o3
  have n4 := heap_alloc_new (((w.alloc o1).alloc o2).alloc o3) o4
  have n5 := heap_alloc_new ((((w.alloc o1).alloc o2).alloc o3).alloc o4) o5
  simp only [World.size_alloc] at n2 n3 n4 n5
  exact ⟨a1 (by simp <;> omega) (a1 (by simp <;> omega) (a1 (by simp <;> omega) (a1 (by simp) (heap_alloc_new w o1)))), a1 (by simp <;> omega) (a1 (by simp <;> omega) (a1 (by simp) n2)), a1 (by simp <;> omega) (a1 (by simp) n3), a1 (by simp) n4, n5⟩
theorem lnew {w0 w : World} {o1 o2 o3 o4 : Obj} {bm : Nat} {hv gv tv : Value} (hb : Below w0.heap.size w0 w) (hbm : w.heap.size ≤ bm)
    (h : (((((w.alloc o1).alloc o2).alloc o3).alloc o4).alloc (.cells (lcs bm hv gv tv 0) 52)).heap[bm]? = some (.map #[] 0)) :
    LSt w0 ((((((w.alloc o1).alloc o2).alloc o3).alloc o4).alloc (.cells (lcs bm hv gv tv 0) 52)).drew) (w.heap.size + 1 + 1 + 1 + 1) bm 0 (.map []) 0 := by
  refine ⟨⟨hv, gv, tv, (five w o1 o2 o3 o4 _).2.2.2.2⟩, ⟨#[], 0, h, ⟨by simp, MapKept.stamped_empty 0, by simp⟩, Nat.le_refl _, rfl⟩, ?_, ?_, ?_⟩
  · have := hb.size; omega
  · have := hb.size; omega
  · have k : ∀ {u : World} (o : Obj), Below w0.heap.size w0 u → Below w0.heap.size w0 (u.alloc o) := fun o h => h.alloc h.size o
    have := k (.cells (lcs bm hv gv tv 0) 52) (k o4 (k o3 (k o2 (k o1 hb))))
    exact this.drew
theorem infoB : (Try.prog.info? 4).map (fun i => (i.zero, i.size, i.bytes)) = some (some (.bool false), 1, 1) := by kernel_rfl
theorem zero_bools (u : World) : (Instr.makeSlice 50 (.int .i64 2) (.int .i64 2)).run Try.prog u = .ok (.slice (some ⟨u.heap.size, 0, none⟩) 2 2) (u.alloc (.cells #[.bool false, .bool false] 4)) := by
  obtain ⟨i0, hi, hz0, hz1, hz2⟩ := info_parts infoB
  have h := run_make (P := Try.prog) u 50 4 i0 (.bool false) Try.underlying50 hi hz0 .i64 .i64 2 2 (by omega) (Int.le_refl _) (by rw [hz2]; simp [maxLen]) (by omega)
  have e : madeCells #[Value.bool false] 2 = #[.bool false, .bool false] := Array.toList_inj.1 (by rw [toList_madeCells_one]; rfl)
  simpa [hz1, Value.cells, e] using h
theorem Sal {w u : World} (o : Obj) (h : Below w.heap.size w u) : Below w.heap.size w (u.alloc o) := h.alloc h.size o
theorem Sdr {B : Nat} {w u : World} (h : Below B w u) : Below B w u.drew := h.drew
set_option maxHeartbeats 2000000 in
set_option maxRecDepth 100000 in
theorem LNew_any (w : World) : Calls Try.prog 10 #[.agg #[.int .i64 2000, .int .i64 2, .int .u64 100, .int .i64 4]] w fun e w' => ∃ q bm, e = .returned (.tuple #[.pointer (some ⟨q, 0, none⟩), .int .i64 0]) ∧ LSt w w' q bm 0 (.map []) 0 := by
  have HR := Lib.hid (SNew_any (w.alloc (.cells #[.int .i64 2000, .int .i64 2, .int .u64 100, .int .i64 4] 47)))
  have hmk2 : ∀ u : World, (Instr.makeSlice 26 (.int .i64 2) (.int .i64 2)).run Try.prog u = .ok (.slice (some ⟨u.heap.size, 0, none⟩) 2 2) (u.alloc (.cells #[.int .u64 0, .int .u64 0] 23)) := by
    intro u; exact run_zeros 2 (by decide) u
  have hmk3 := zero_bools
  have hmm := @run_makeMap Try.prog
  have hB := (Blk.made w 47 #[.int .i64 2000, .int .i64 2, .int .u64 100, .int .i64 4])
  have HB := Lib.hid hB
  clear hB
  go_enter Try.func10, Try.ntmps10
  go_wp2_with fail
  refine HR.out.mono ?_
  rintro e w1 ⟨q, rfl, hb1⟩
  have hbw : Below w.heap.size w w1 := ((Below.refl _ w).alloc (Nat.le_refl _) _).trans (hb1.mono (by simp))
  have b1 := HB.out.below hb1
  have HBW := Lib.hid hbw
  have r0 : w1.cell? ⟨w.heap.size, 0, none⟩ = some (.int .i64 2000) := b1.cell 0
  have r1 : w1.cell? ⟨w.heap.size, 1, none⟩ = some (.int .i64 2) := b1.cell 1
  have r2 : w1.cell? ⟨w.heap.size, 2, none⟩ = some (.int .u64 100) := b1.cell 2
  have r3 : w1.cell? ⟨w.heap.size, 3, none⟩ = some (.int .i64 4) := b1.cell 3
  have hlt : w.heap.size < w1.heap.size := b1.lt
  have HS : Hid (∀ wx : World, Below w1.heap.size w1 wx → wx.cell? ⟨w.heap.size, 0, none⟩ = some (.int .i64 2000) ∧ wx.cell? ⟨w.heap.size, 1, none⟩ = some (.int .i64 2) ∧ wx.cell? ⟨w.heap.size, 2, none⟩ = some (.int .u64 100) ∧ wx.cell? ⟨w.heap.size, 3, none⟩ = some (.int .i64 4)) := Lib.hid (fun wx hb => ⟨(b1.below hb).cell 0, (b1.below hb).cell 1, (b1.below hb).cell 2, (b1.below hb).cell 3⟩)
  clear hb1 b1 hbw HB HR
  go_upto_region 9 with fail
  go_cut [2, 3] (fun s2 s3 wx => ∃ q bm, s2 = .pointer (some ⟨q, 0, none⟩) ∧ s3 = .int .i64 0 ∧ Hid (LSt w wx q bm 0 (.map []) 0))
  case first =>
    have H5 := Lib.hid (five w1)
    have HL := Lib.hid (fun o1 o2 o3 o4 bm hv gv tv => @lnew w w1 o1 o2 o3 o4 bm hv gv tv HBW.out)
    go_region_held3 (fun wx => wx.cell? ⟨w.heap.size, 0, none⟩ = some (.int .i64 2000) ∧ wx.cell? ⟨w.heap.size, 1, none⟩ = some (.int .i64 2) ∧ wx.cell? ⟨w.heap.size, 2, none⟩ = some (.int .u64 100) ∧ wx.cell? ⟨w.heap.size, 3, none⟩ = some (.int .i64 4))
      ((refine HS.out _ ?_; repeat' (first | exact Below.refl _ _ | apply Sal | apply Sdr))) (fail)
    all_goals
      go_wp2_with fail
      go_meet
      refine ⟨_, _, rfl, rfl, HL.out _ _ _ _ _ _ _ _ ?_ ?_⟩
      · omega
      · first | exact (H5.out _ _ _ _ _).1 | exact (H5.out _ _ _ _ _).2.1 | exact (H5.out _ _ _ _ _).2.2.1 | exact (H5.out _ _ _ _ _).2.2.2.1
  case rest =>
    obtain ⟨q, bm, rfl, rfl, HZ⟩ := hcut
    go_wp2_with fail
    go_ret2
    exact ⟨_, _, rfl, HZ.out⟩
end Go.Proofs.Ytfjilcneiaekaaa

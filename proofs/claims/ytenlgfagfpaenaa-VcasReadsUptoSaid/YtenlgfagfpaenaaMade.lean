/-
  A plain memory that is made; its views, and what they and the memory tell of themselves. No condition.
-/
import Derived.Test.YtenlgfagfpaenaaView
namespace Go.Proofs.Ytenlgfagfpaenaa
open Go Go.RowKit
set_option linter.unusedSimpArgs false
set_option linter.unusedVariables false
/-- a new memory of n cells -/
def Mem.made (n : Nat) : Mem := ⟨List.replicate n 0, 1, []⟩
theorem made_zeros (n : Nat) : madeCells #[Value.int .u64 0] n = (us (List.replicate n 0)).toArray := by
  apply Array.toList_inj.1
  rw [toList_madeCells_one]
  simp [us]
theorem run_zeros (n : Nat) (h : n ≤ 4194304) (u : World) : (Instr.makeSlice 22 (.int .i64 (n : Int)) (.int .i64 (n : Int))).run Try.prog u =
      .ok (.slice (some ⟨u.heap.size, 0, none⟩) n n) (u.alloc (.cells (us (List.replicate n 0)).toArray 23)) := by
  obtain ⟨i0, hi, hz0, hz1, hz2⟩ := info_parts infoU
  have h := run_make (P := Try.prog) u 22 23 i0 (.int .u64 0) Try.underlying22 hi hz0 .i64 .i64 (n : Int) (n : Int) (by omega) (Int.le_refl _) (by rw [hz2]; omega) (by omega)
  rw [← made_zeros]
  simpa [hz1, Value.cells] using h
theorem plain_made (w : World) (n : Nat) :
    PM (((w.alloc (.cells (us (Mem.made n).cells).toArray 23)).alloc (.cells #[.slice (some ⟨w.heap.size, 0, none⟩) n n, .int .i64 1] 117)).alloc
      (.cells #[.iface 115 (.pointer (some ⟨w.heap.size + 1, 0, none⟩)), .bool false, .slice none 0 0] 114)) (fun b => w.heap.size ≤ b) (w.heap.size + 1 + 1) (Mem.made n) ∧
    Below w.heap.size w (((w.alloc (.cells (us (Mem.made n).cells).toArray 23)).alloc (.cells #[.slice (some ⟨w.heap.size, 0, none⟩) n n, .int .i64 1] 117)).alloc
      (.cells #[.iface 115 (.pointer (some ⟨w.heap.size + 1, 0, none⟩)), .bool false, .slice none 0 0] 114)) := by
  refine ⟨⟨w.heap.size + 1, w.heap.size, .slice none 0 0, [], ⟨?_, ?_, ?_, ?_, rfl, ?_, ?_, ?_, ?_, ?_⟩⟩, (((Below.refl _ _).alloc (Nat.le_refl _) _).alloc (by simp) _).alloc (by simp; omega) _⟩
  · have := Blk.made ((w.alloc (.cells (us (Mem.made n).cells).toArray 23)).alloc (.cells #[.slice (some ⟨w.heap.size, 0, none⟩) n n, .int .i64 1] 117)) 114 #[.iface 115 (.pointer (some ⟨w.heap.size + 1, 0, none⟩)), .bool false, .slice none 0 0]
    simpa using this
  · have := (Blk.made (w.alloc (.cells (us (Mem.made n).cells).toArray 23)) 117 #[.slice (some ⟨w.heap.size, 0, none⟩) n n, .int .i64 1]).alloc (.cells #[.iface 115 (.pointer (some ⟨w.heap.size + 1, 0, none⟩)), .bool false, .slice none 0 0] 114)
    exact ⟨n, by simp [Mem.made], by simpa [Mem.made] using this⟩
  · exact ⟨[], by simpa using ((Blk.made w 23 (us (Mem.made n).cells).toArray).alloc (.cells #[.slice (some ⟨w.heap.size, 0, none⟩) n n, .int .i64 1] 117)).alloc (.cells #[.iface 115 (.pointer (some ⟨w.heap.size + 1, 0, none⟩)), .bool false, .slice none 0 0] 114)⟩
  · exact World.ownsRow_nil _ _ _ _
  · intro x hx; cases hx
  · show w.heap.size ≤ _; omega
  · show w.heap.size ≤ _; omega
  · show w.heap.size ≤ _; omega
  · intro g e; cases e
set_option maxRecDepth 100000 in
theorem New_plain (w : World) (n : Nat) (h0 : 128 ≤ n) (h1 : n ≤ 4194304) : Calls Try.prog 10 #[.int .i64 (n : Int), .bool false] w fun e w' => ∃ bm, e = .returned (.tuple #[.pointer (some ⟨bm, 0, none⟩), .int .i64 0]) ∧ PM w' (fun b => w.heap.size ≤ b) bm (Mem.made n) ∧ Below w.heap.size w w' := by
  have hmk := run_zeros n h1
  have h2 : decide ((n : Int) < 128) = false := by simp; omega
  have h3 : decide ((4194304 : Int) < (n : Int)) = false := by simp; omega
  have h3' : decide (4194304 < n) = false := by simp; omega
  have h2' : decide (n < 128) = false := by simp; omega
  clear h0 h1
  have HP := Lib.hid (plain_made w n)
  unfold Mem.made at HP ⊢
  generalize List.replicate n (0 : Int) = cs at *
  go_enter Try.func10, Try.ntmps10
  go_wp2
  go_ret2
  exact ⟨_, rfl, HP.out.1, HP.out.2⟩
theorem New_out (w : World) (n : Int) (b : Bool) (h : n < 128 ∨ 4194304 < n) : Calls Try.prog 10 #[.int .i64 n, .bool b] w fun e w' => e = .returned (.tuple #[.pointer none, .int .i64 2]) ∧ w = w' := by
  rcases h with h | h
  · have h2 : decide (n < 128) = true := by simp; omega
    clear h
    go_enter Try.func10, Try.ntmps10
    go_wp2
    go_ret2
    exact ⟨rfl, rfl⟩
  · have h2 : decide (n < 128) = false := by simp; omega
    have h3 : decide (4194304 < n) = true := by simp; omega
    clear h
    go_enter Try.func10, Try.ntmps10
    go_wp2
    go_ret2
    exact ⟨rfl, rfl⟩
theorem View_any (w : World) (bm : Nat) (th : Int) : Calls Try.prog 12 #[.pointer (some ⟨bm, 0, none⟩), .int .i64 th] w fun e w' => e = .returned (.pointer (some ⟨w.heap.size, 0, none⟩)) ∧ w' = w.alloc (.cells #[.pointer (some ⟨bm, 0, none⟩), .int .i64 th, .int .i64 0] 119) := by
  go_enter Try.func12, Try.ntmps12
  go_wp2
  go_ret
  exact ⟨rfl, rfl⟩
theorem Accesses_any {w : World} {v bm : Nat} {th made : Int} (hv : VW w v bm th made) : Calls Try.prog 54 #[.pointer (some ⟨v, 0, none⟩)] w fun e w' => e = .returned (.int .i64 made) ∧ w = w' := by
  have c1 : w.cell? ⟨v, 2, none⟩ = some _ := Blk.cell hv 2
  go_enter Try.func54, Try.ntmps54
  go_wp2
  go_ret
  exact ⟨rfl, rfl⟩
end Go.Proofs.Ytenlgfagfpaenaa

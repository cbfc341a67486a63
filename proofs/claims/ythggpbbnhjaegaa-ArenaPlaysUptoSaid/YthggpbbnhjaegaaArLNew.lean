/-
  A live memory that is made, and what it tells of itself. No condition.
-/
import Derived.Test.YthggpbbnhjaegaaArLAlloc
namespace Go.Proofs.Ythggpbbnhjaegaa
open Go Go.RowKit
set_option linter.unusedSimpArgs false
set_option linter.unusedVariables false
section
variable {w w' w1 : World} {F G S : Nat → Prop} {bm q r v g : Nat} {A A' : Mem} {th made : Int} {vs : List Int} {av : Value}
theorem run_words (n : Nat) (h : n ≤ 4194304) (u : World) : (Instr.makeSlice 44 (.int .i64 (n : Int)) (.int .i64 (n : Int))).run Try.prog u =
      .ok (.slice (some ⟨u.heap.size, 0, none⟩) n n) (u.alloc (.cells (us (List.replicate n 0)).toArray 109)) := by
  have hi := infoT
  cases hq : Try.prog.info? 109 with
  | none => rw [hq] at hi; cases hi
  | some i0 =>
    rw [hq] at hi
    simp only [Option.map_some, Option.some.injEq, Prod.mk.injEq] at hi
    obtain ⟨hz, hs, hb⟩ := hi
    obtain ⟨z, hz0, hz1⟩ := Option.map_eq_some_iff.1 hz
    have h := run_make (P := Try.prog) u 44 109 i0 z Try.underlying44 hq hz0 .i64 .i64 (n : Int) (n : Int) (by omega) (Int.le_refl _) (by rw [hb]; omega) (by omega)
    rw [← made_zeros]
    simpa [hs, hz1] using h
theorem I_Store {a : Addr} {y : Int} {u : Value} (hc : w.cell? a = some u) (hz : w.frozen? a = false) : Calls Try.prog 12 #[.pointer (some a), .int .i64 y] w fun e w' => e = .returned (.tuple #[]) ∧ w' = w.setCell a (.int .i64 y) := by
  have h := at_storei (y := y) hc hz
  go_enter Try.func12, Try.ntmps12
  go_wp2
  go_end0
  exact ⟨rfl, rfl⟩
set_option maxRecDepth 100000 in
theorem New_live (w : World) (n : Nat) (h0 : 128 ≤ n) (h1 : n ≤ 4194304) : Calls Try.prog 4 #[.int .i64 (n : Int), .bool true] w fun e w' => ∃ bm q r, e = .returned (.tuple #[.pointer (some ⟨bm, 0, none⟩), .int .i64 0]) ∧
    SMx w' (fun b => w.heap.size ≤ b ∧ b < w'.heap.size) bm q r (Mem.made n) ∧ Below w.heap.size w w' := by
  have hmk := run_words n h1
  have h2 : decide ((n : Int) < 128) = false := by simp; omega
  have h3 : decide ((4194304 : Int) < (n : Int)) = false := by simp; omega
  have h3' : decide (4194304 < n) = false := by simp; omega
  have h2' : decide (n < 128) = false := by simp; omega
  clear h0 h1
  unfold Mem.made
  have hcl : (List.replicate n (0 : Int)).length = n := by simp
  generalize List.replicate n (0 : Int) = cs at *
  go_enter Try.func4, Try.ntmps4
  go_wp2_with fail
  have bR0 : Blk ((w.alloc (Obj.cells (us cs).toArray 109)).alloc (Obj.cells #[.slice (some ⟨w.heap.size, 0, none⟩) n n, .int .i64 0] 51)) w.heap.size 109 (us cs).toArray := (Blk.made w _ _).alloc _
  have bQ0 : Blk ((w.alloc (Obj.cells (us cs).toArray 109)).alloc (Obj.cells #[.slice (some ⟨w.heap.size, 0, none⟩) n n, .int .i64 0] 51)) (w.heap.size + 1) 51 #[.slice (some ⟨w.heap.size, 0, none⟩) n n, .int .i64 0] := by
    have := Blk.made (w.alloc (Obj.cells (us cs).toArray 109)) 51 #[.slice (some ⟨w.heap.size, 0, none⟩) n n, .int .i64 0]
    simpa using this
  have b0 : Below w.heap.size w ((w.alloc (Obj.cells (us cs).toArray 109)).alloc (Obj.cells #[.slice (some ⟨w.heap.size, 0, none⟩) n n, .int .i64 0] 51)) := ((Below.refl _ _).alloc (Nat.le_refl _) _).alloc (by simp) _
  have hz0 : ((w.alloc (Obj.cells (us cs).toArray 109)).alloc (Obj.cells #[.slice (some ⟨w.heap.size, 0, none⟩) n n, .int .i64 0] 51)).heap.size = w.heap.size + 1 + 1 := by simp
  generalize (w.alloc (Obj.cells (us cs).toArray 109)).alloc _ = w2 at *
  refine (I_Store (y := 1) (bQ0.cell 1) (bQ0.cold 1)).mono ?_
  rintro e w3 ⟨rfl, hw3⟩
  have bR1 : Blk w3 w.heap.size 109 (us cs).toArray := hw3 ▸ bR0.far (p := ⟨w.heap.size + 1, 1, none⟩) (by simp) _
  have bQ1 : Blk w3 (w.heap.size + 1) 51 #[.slice (some ⟨w.heap.size, 0, none⟩) n n, .int .i64 1] := hw3 ▸ (bQ0.put 1 (.int .i64 1)).eq rfl
  have b1 : Below w.heap.size w w3 := hw3 ▸ b0.setCell (p := ⟨w.heap.size + 1, 1, none⟩) (by simp) _
  have hz1 : w3.heap.size = w.heap.size + 1 + 1 := by rw [hw3]; simpa [World.setCell] using hz0
  have HH : Hid (SMx (w3.alloc (Obj.cells #[.iface 43 (.pointer (some ⟨w.heap.size + 1, 0, none⟩)), .bool true, .slice none 0 0] 57)) (fun b => w.heap.size ≤ b ∧ b < (w3.alloc (Obj.cells #[.iface 43 (.pointer (some ⟨w.heap.size + 1, 0, none⟩)), .bool true, .slice none 0 0] 57)).heap.size) w3.heap.size (w.heap.size + 1) w.heap.size ⟨cs, 1, []⟩ ∧
      Below w.heap.size w (w3.alloc (Obj.cells #[.iface 43 (.pointer (some ⟨w.heap.size + 1, 0, none⟩)), .bool true, .slice none 0 0] 57))) := by
    refine ⟨⟨Blk.made w3 _ _, ?_, bR1.alloc _, ?_, ?_, ?_⟩, b1.alloc (by omega) _⟩
    · rw [hcl]; exact bQ1.alloc _
    · simp [hz1]; try omega
    · simp [hz1]; try omega
    · simp [hz1]; try omega
  clear hw3 hz0 hz1 b0 b1 bR0 bR1 bQ0 bQ1 hmk hcl
  go_wp2
  go_ret2
  exact ⟨_, _, _, rfl, HH.out⟩
theorem L_next (h : SMx w F bm q r A) (hA : A.next ≤ A.cells.length) (hn : A.cells.length ≤ 4194304) : Calls Try.prog 13 #[.pointer (some ⟨bm, 0, none⟩)] w fun e w' => e = .returned (.int .i64 ((A.cells.length : Int) - A.next)) ∧ ∃ k, w' = w.drewN k := by
  have c1 : w.cell? ⟨bm, 0, none⟩ = some _ := h.bM.cell 0
  have d1 : w.drew.cell? ⟨bm, 0, none⟩ = some _ := h.bM.cell 0
  have hs := Lib.hid (s_size (w := w.drew) (h.fr ((Fr.refl (fun _ => False) w).drawn 1) (fun _ _ e => e)))
  have hx := Lib.hid (s_next (w := w.drew) (h.fr ((Fr.refl (fun _ => False) w).drawn 1) (fun _ _ e => e)))
  generalize A.cells.length = m at *
  generalize A.next = x at *
  have t2 : IntKind.i64.wrap ((m : Int) - (x : Int)) = (m : Int) - (x : Int) := IntWalk.i64_in _ (by omega)
  clear h hA hn
  go_enter Try.func13, Try.ntmps13
  go_wp2_with fail
  go_region_held3 (fun w' => w'.cell? ⟨bm, 0, none⟩ = some (.iface 43 (.pointer (some ⟨q, 0, none⟩)))) (exact d1) (first | ((with_reducible refine hs.out.mono ?_); rintro e w1 ⟨rfl, rfl⟩) | ((with_reducible refine hx.out.mono ?_); rintro e w1 ⟨rfl, rfl⟩))
  all_goals
    go_wp2
    go_ret
    exact ⟨rfl, 1, rfl⟩
theorem L_live (h : SMx w F bm q r A) : Calls Try.prog 34 #[.pointer (some ⟨bm, 0, none⟩)] w fun e w' => e = .returned (.bool true) ∧ w = w' := by
  have c1 : w.cell? ⟨bm, 1, none⟩ = some _ := h.bM.cell 1
  go_enter Try.func34, Try.ntmps34
  go_wp2
  go_ret
  exact ⟨rfl, rfl⟩
set_option maxRecDepth 100000 in
theorem L_trace (h : SMx w F bm q r A) : Calls Try.prog 20 #[.pointer (some ⟨bm, 0, none⟩)] w fun e w' => e = .returned (.slice none 0 0) ∧ w = w' := by
  have c1 : w.cell? ⟨bm, 2, none⟩ = some (.slice none 0 0) := h.bM.cell 2
  have HN := Lib.hid (CloneA_nil w)
  clear h
  go_enter Try.func20, Try.ntmps20
  go_wp2_with fail
  refine HN.out.mono ?_
  rintro e w1 ⟨rfl, rfl⟩
  go_wp2_with fail
  go_loop [14] (fun i => i = .int .i64 0) (fun _ => 0)
  case atStart => rfl
  case round =>
    obtain rfl := hrel
    go_wp2
    go_ret
    exact ⟨rfl, rfl⟩
end
end Go.Proofs.Ythggpbbnhjaegaa

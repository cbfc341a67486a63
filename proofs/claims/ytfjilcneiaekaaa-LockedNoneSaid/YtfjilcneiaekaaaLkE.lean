/-
  An operation of a store under a lock. No condition.
-/
import Derived.Test.YtfjilcneiaekaaaLkD
namespace Go.Proofs.Ytfjilcneiaekaaa
open Go Go.RowKit Go.Maps
open Go.MuLone
set_option linter.unusedSimpArgs false
set_option linter.unusedVariables false
section
variable {w0 w : World} {q bm n d : Nat} {D : DataW Unit}
theorem LIn.set {cs : Array Value} (h : LIn w0 w q bm n D cs) (j : Nat) (u : Value) : LIn w0 (w.setCell ⟨q, j, none⟩ u) q bm n D (cs.setIfInBounds j u) :=
  ⟨h.1.put j u, h.2.1.setCell (a := ⟨q, j, none⟩) h.ne u, h.2.2.1, h.2.2.2.1, ((Fr.refl (fun b => b = q) w).put (p := ⟨q, j, none⟩) (.inl rfl) u).to_below h.2.2.2.2.size (fun b hb e => by have := h.2.2.1; omega) |> h.2.2.2.2.trans⟩
theorem LIn.eq {cs cs' : Array Value} (h : LIn w0 w q bm n D cs) (e : cs = cs') : LIn w0 w q bm n D cs' := e ▸ h
set_option maxHeartbeats 2000000 in
set_option maxRecDepth 100000 in
theorem Do_any {k x : Int} {n' : Nat} {D' : DataW Unit} (hd : d < 1000)
    (hdo : ∀ (w1 : World) (hv gv tv : Value), LIn w0 w1 q bm n D #[.int .i32 1, .int .u32 0, .int .i64 2000, .int .i64 2, .int .u64 100, .int .i64 4, .map (some bm), hv, gv, tv, .int .i64 (((d : Int) + 1) : Int), .int .u64 0] → Calls Try.prog 9 #[.pointer (some ⟨q, 0, none⟩), .agg #[.int .u8 k, .int .u64 7, .int .u64 x, .int .u64 0, .int .u64 0, .bool false, .int .i64 0, .int .i64 0, .slice none 0 0, .int .u64 0, .int .u64 0]] w1 fun e w' => (∃ c, e = .returned (.agg #[.int .i64 0, .bool (Maps.has D (.int .u64 7)), .int .u64 c, .bool false, .int .u64 0, .slice none 0 0, .int .u64 0]) ∧ D.atKey (.int .u64 7) (.lit (.int .u64 0)) = .lit (.int .u64 c)) ∧ LIn w0 w' q bm n' D' #[.int .i32 1, .int .u32 0, .int .i64 2000, .int .i64 2, .int .u64 100, .int .i64 4, .map (some bm), hv, gv, tv, .int .i64 (((d : Int) + 1) : Int), .int .u64 0] ∧ ∀ k' t ds, Blk w1 k' t ds → Blk w' k' t ds)
    (h : LSt w0 w q bm n D d) :
    Calls Try.prog 4 #[.pointer (some ⟨q, 0, none⟩), .agg #[.int .u8 k, .int .u64 7, .int .u64 x, .int .u64 0, .int .u64 0, .bool false, .int .i64 0, .int .i64 0, .slice none 0 0, .int .u64 0, .int .u64 0]] w fun e w' => (∃ c, e = .returned (.tuple #[.agg #[.int .i64 0, .bool (Maps.has D (.int .u64 7)), .int .u64 c, .bool false, .int .u64 0, .slice none 0 0, .int .u64 0], .int .i64 (d : Int)]) ∧ D.atKey (.int .u64 7) (.lit (.int .u64 0)) = .lit (.int .u64 c)) ∧ LSt w0 w' q bm n' D' (d + 1) := by
  obtain ⟨⟨hv, gv, tv, hB⟩, ho, h1, h2, h3⟩ := h
  have hin : LIn w0 w q bm n D #[.int .i32 0, .int .u32 0, .int .i64 2000, .int .i64 2, .int .u64 100, .int .i64 4, .map (some bm), hv, gv, tv, .int .i64 ((d : Int) : Int), .int .u64 0] := ⟨hB, ho, h1, h2, h3⟩
  have hsz := h3.size
  have hin2 := (hin.alloc (.cells #[.int .u8 k, .int .u64 7, .int .u64 x, .int .u64 0, .int .u64 0, .bool false, .int .i64 0, .int .i64 0, .slice none 0 0, .int .u64 0, .int .u64 0] 28)).alloc (.cells #[.int .i64 0, .bool false, .int .u64 0, .bool false, .int .u64 0, .slice none 0 0, .int .u64 0] 33)
  have br := Blk.made (w.alloc (.cells #[.int .u8 k, .int .u64 7, .int .u64 x, .int .u64 0, .int .u64 0, .bool false, .int .i64 0, .int .i64 0, .slice none 0 0, .int .u64 0, .int .u64 0] 28)) 33 #[.int .i64 0, .bool false, .int .u64 0, .bool false, .int .u64 0, .slice none 0 0, .int .u64 0]
  have bo := (Blk.made w 28 #[.int .u8 k, .int .u64 7, .int .u64 x, .int .u64 0, .int .u64 0, .bool false, .int .i64 0, .int .i64 0, .slice none 0 0, .int .u64 0, .int .u64 0]).alloc (.cells #[.int .i64 0, .bool false, .int .u64 0, .bool false, .int .u64 0, .slice none 0 0, .int .u64 0] 33)
  rw [World.size_alloc] at br
  clear hB ho h1 h2 h3 hin
  go_enter_defers Try.func4, Try.ntmps4
  go_wp2_with fail
  generalize ((w.alloc (.cells #[.int .u8 k, .int .u64 7, .int .u64 x, .int .u64 0, .int .u64 0, .bool false, .int .i64 0, .int .i64 0, .slice none 0 0, .int .u64 0, .int .u64 0] 28)).alloc (.cells #[.int .i64 0, .bool false, .int .u64 0, .bool false, .int .u64 0, .slice none 0 0, .int .u64 0] 33)) = W at *
  have hqo : w.heap.size ≠ q := fun e => Blk.ne bo hin2.1 (by decide) e
  have hqr : w.heap.size + 1 ≠ q := fun e => Blk.ne br hin2.1 (by decide) e
  refine (lock_free Try.muLib ⟨q, 0, none⟩ W (hin2.1.cell 0) (hin2.1.cold 0)).mono ?_
  rintro e W1 ⟨rfl, rfl⟩
  have h4 := (hin2.set 0 (.int .i32 1))
  have bo := bo.far (p := ⟨q, 0, none⟩) hqo (.int .i32 1)
  have br := br.far (p := ⟨q, 0, none⟩) hqr (.int .i32 1)
  generalize W.setCell ⟨q, 0, none⟩ (.int .i32 1) = W1 at *
  clear hin2
  have c10 : W1.cell? ⟨q, 10, none⟩ = some (.int .i64 (d : Int)) := h4.1.cell 10
  have f10 := h4.1.cold 10
  have h5 := h4.set 10 (.int .i64 ((d : Int) + 1))
  have bo := bo.far (p := ⟨q, 10, none⟩) hqo (.int .i64 ((d : Int) + 1))
  have br := br.far (p := ⟨q, 10, none⟩) hqr (.int .i64 ((d : Int) + 1))
  have o0 : (W1.setCell ⟨q, 10, none⟩ (.int .i64 ((d : Int) + 1))).cell? ⟨w.heap.size, 0, none⟩ = some (.int .u8 k) := bo.cell 0
  have o1 : (W1.setCell ⟨q, 10, none⟩ (.int .i64 ((d : Int) + 1))).cell? ⟨w.heap.size, 1, none⟩ = some (.int .u64 7) := bo.cell 1
  have o2 : (W1.setCell ⟨q, 10, none⟩ (.int .i64 ((d : Int) + 1))).cell? ⟨w.heap.size, 2, none⟩ = some (.int .u64 x) := bo.cell 2
  have o3 : (W1.setCell ⟨q, 10, none⟩ (.int .i64 ((d : Int) + 1))).cell? ⟨w.heap.size, 3, none⟩ = some (.int .u64 0) := bo.cell 3
  have o4 : (W1.setCell ⟨q, 10, none⟩ (.int .i64 ((d : Int) + 1))).cell? ⟨w.heap.size, 4, none⟩ = some (.int .u64 0) := bo.cell 4
  have o5 : (W1.setCell ⟨q, 10, none⟩ (.int .i64 ((d : Int) + 1))).cell? ⟨w.heap.size, 5, none⟩ = some (.bool false) := bo.cell 5
  have o6 : (W1.setCell ⟨q, 10, none⟩ (.int .i64 ((d : Int) + 1))).cell? ⟨w.heap.size, 6, none⟩ = some (.int .i64 0) := bo.cell 6
  have o7 : (W1.setCell ⟨q, 10, none⟩ (.int .i64 ((d : Int) + 1))).cell? ⟨w.heap.size, 7, none⟩ = some (.int .i64 0) := bo.cell 7
  have o8 : (W1.setCell ⟨q, 10, none⟩ (.int .i64 ((d : Int) + 1))).cell? ⟨w.heap.size, 8, none⟩ = some (.slice none 0 0) := bo.cell 8
  have o9 : (W1.setCell ⟨q, 10, none⟩ (.int .i64 ((d : Int) + 1))).cell? ⟨w.heap.size, 9, none⟩ = some (.int .u64 0) := bo.cell 9
  have o10 : (W1.setCell ⟨q, 10, none⟩ (.int .i64 ((d : Int) + 1))).cell? ⟨w.heap.size, 10, none⟩ = some (.int .u64 0) := bo.cell 10
  have HC := Lib.hid (hdo _ hv gv tv (h5.eq (by simp)))
  have H4 := Lib.hid h4
  have HR := Lib.hid br
  clear h4 h5 bo br hdo
  go_wp2_with fail
  refine HC.out.mono ?_
  rintro e W6 ⟨⟨c, rfl, hat⟩, h6, k6⟩
  have b6 := k6 _ _ _ HR.out
  have r0 : W6.cell? ⟨w.heap.size + 1, 0, none⟩ = some (.int .i64 0) := b6.cell 0
  have f0 := b6.cold 0
  have r1 : W6.cell? ⟨w.heap.size + 1, 1, none⟩ = some (.bool false) := b6.cell 1
  have f1 := b6.cold 1
  have r2 : W6.cell? ⟨w.heap.size + 1, 2, none⟩ = some (.int .u64 0) := b6.cell 2
  have f2 := b6.cold 2
  have r3 : W6.cell? ⟨w.heap.size + 1, 3, none⟩ = some (.bool false) := b6.cell 3
  have f3 := b6.cold 3
  have r4 : W6.cell? ⟨w.heap.size + 1, 4, none⟩ = some (.int .u64 0) := b6.cell 4
  have f4 := b6.cold 4
  have r5 : W6.cell? ⟨w.heap.size + 1, 5, none⟩ = some (.slice none 0 0) := b6.cell 5
  have f5 := b6.cold 5
  have r6 : W6.cell? ⟨w.heap.size + 1, 6, none⟩ = some (.int .u64 0) := b6.cell 6
  have f6 := b6.cold 6
  have H6 := Lib.hid (And.intro h6 b6)
  clear h6 b6 k6 HC H4 HR
  go_wp2_with fail
  obtain ⟨a1, a2, -⟩ := ans7 H6.out.1 H6.out.2 (by omega) (.int .i64 0) (.bool (Maps.has D (.int .u64 7))) (.int .u64 c) (.bool false) (.int .u64 0) (.slice none 0 0) (.int .u64 0)
  refine leaves_cons (f := 8) (args := #[.pointer (some ⟨q, 0, none⟩)]) (by simp) (by simp [go_sem]) ?_
  refine (unlock_deferred Try.muLib ⟨q, 0, none⟩ .returning _ (a2.1.cell 0) (a2.1.cold 0)).mono ?_
  rintro e u' w'' ⟨rfl, rfl, rfl⟩
  have a3 := a1.far (p := ⟨q, 0, none⟩) hqr (.int .i32 0)
  have a4 := a2.set 0 (.int .i32 0)
  have hl := run_loadVar_row _ (w.heap.size + 1) 33 33 _ (0, 0) _ a3 Try.underlying33 rfl infoAns
  exact ⟨_, res_cell2 rfl rfl rfl hl, ⟨c, rfl, hat⟩, ⟨hv, gv, tv, a4.1.eq (by simp [lcs])⟩, a4.2.1, a4.2.2.1, a4.2.2.2.1, a4.2.2.2.2⟩
end
end Go.Proofs.Ytfjilcneiaekaaa

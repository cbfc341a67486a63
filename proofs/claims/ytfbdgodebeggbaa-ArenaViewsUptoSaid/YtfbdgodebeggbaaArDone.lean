/-
  What an access does to cells, by the trace alone. No condition.
-/
import Derived.Test.YtfbdgodebeggbaaArOps
import Derived.Deep.QuietTactic
import Derived.BigQuiet
import Derived.Deep.Cut
import Derived.IntWalk
namespace Go.Proofs.Ytfbdgodebeggbaa
open Go Go.RowKit
set_option linter.unusedSimpArgs false
set_option linter.unusedVariables false
/-- the cells that are gone through, and what is told -/
def Does (w w' : World) (g : Nat) (e : Ending) (A : Mem) : Prop := e = .returned (.tuple #[.int .i64 A.next, .bool true]) ∧ Blk w' g 22 (us A.cells).toArray ∧ Fr (fun b => b = g) w w'
section
variable {w w' : World} {g : Nat} {A : Mem} {x t y z : Int} {u : Value} {up : Option Addr} {un uc : Nat} {vs : List Int}
theorem Blk.rowAt (h : Blk w g 22 (us A.cells).toArray) {i : Nat} (hi : i < A.cells.length) : w.cell? ⟨g, i, none⟩ = some (.int .u64 (A.cells.getD i 0)) := by
  rw [h.cell i]; simp [us, hi, List.getD_eq_getElem?_getD]
theorem us_put (A : Mem) (i : Nat) (v : Int) : (us A.cells).toArray.setIfInBounds i (.int .u64 v) = (us (A.put i v).cells).toArray := by simp [us, Mem.put, List.map_set]
set_option maxHeartbeats 4000000 in
set_option maxRecDepth 100000 in
theorem done_load (h : Blk w g 22 (us A.cells).toArray) (h0 : 0 ≤ x) (hn0 : 1 ≤ A.cells.length) (hn : A.cells.length ≤ 4194304) :
    Calls Try.prog 40 #[.slice (some ⟨g, 0, none⟩) A.cells.length A.cells.length, .int .i64 A.next, .agg #[.int .i64 t, .int .u8 1, .int .u64 x, .int .u64 0, .int .u64 0, .slice up un uc, .int .u64 (A.peek x), .bool false]] w fun e w' => Does w w' g e (A.load t x) := by
  have hb1 := h.alloc (.cells #[.int .i64 t, .int .u8 1, .int .u64 x, .int .u64 0, .int .u64 0, .slice up un uc, .int .u64 (A.peek x), .bool false] 87)
  have hf1 := (Fr.refl (fun b => b = g) w).alloc (.cells #[.int .i64 t, .int .u8 1, .int .u64 x, .int .u64 0, .int .u64 0, .slice up un uc, .int .u64 (A.peek x), .bool false] 87)
  have hob := Blk.made w 87 #[.int .i64 t, .int .u8 1, .int .u64 x, .int .u64 0, .int .u64 0, .slice up un uc, .int .u64 (A.peek x), .bool false]
  have hm : x.tmod A.cells.length = x % A.cells.length := Int.tmod_eq_emod_of_nonneg h0
  have hr0 := Int.emod_nonneg x (show (A.cells.length : Int) ≠ 0 by omega)
  have hr1 := Int.emod_lt_of_pos x (show (0 : Int) < A.cells.length by omega)
  go_enter Try.func40, Try.ntmps40
  go_upto_region 1 with fail
  generalize w.alloc _ = w1 at *
  generalize w.heap.size = bx at *
  have k1 : w1.cell? ⟨bx, 1, none⟩ = some (.int .u8 1) := hob.cell 1
  have k2 : w1.cell? ⟨bx, 2, none⟩ = some (.int .u64 x) := hob.cell 2
  have k3 : w1.cell? ⟨bx, 3, none⟩ = some (.int .u64 0) := hob.cell 3
  have k4 : w1.cell? ⟨bx, 4, none⟩ = some (.int .u64 0) := hob.cell 4
  have k5 : w1.cell? ⟨bx, 5, none⟩ = some (.slice up un uc) := hob.cell 5
  have k6 : w1.cell? ⟨bx, 6, none⟩ = some (.int .u64 (A.peek x)) := hob.cell 6
  have k7 : w1.cell? ⟨bx, 7, none⟩ = some (.bool false) := hob.cell 7
  cases hx : A.has x
  · have hp := peek_past A hx
    have t1 : decide (x < (A.cells.length : Int)) = false := by simpa [Mem.has] using hx
    rw [hp] at k6
    generalize x % (A.cells.length : Int) = r at *
    go_wp2_with fail
    go_quiet (fail)
    all_goals
      go_wp2_with fail
      go_ret2
      exact ⟨rfl, hb1.drawn _, hf1.drawn _⟩
  · obtain ⟨i, rfl, hi⟩ := has_nat h0 hx
    have t1 : decide ((i : Int) < (A.cells.length : Int)) = true := by simp; omega
    have t1' : decide (i < A.cells.length) = true := by simp; omega
    have hmi : (i : Int) % (A.cells.length : Int) = i := Int.emod_eq_of_lt (by omega) (by omega)
    rw [hmi] at hm
    have r1 := hb1.rowAt hi
    have rf := hb1.cold i
    have hp : A.peek i = A.cells.getD i 0 := by simp [Mem.peek]
    rw [← hp] at r1
    clear hmi hr0 hr1 hp
    generalize A.peek i = pk at *
    go_wp2_with fail
    go_quiet (fail)
    all_goals
      go_wp2_with fail
      go_ret2
      exact ⟨rfl, hb1.drawn _, hf1.drawn _⟩
set_option maxHeartbeats 4000000 in
set_option maxRecDepth 100000 in
theorem done_store (h : Blk w g 22 (us A.cells).toArray) (h0 : 0 ≤ x) (hn0 : 1 ≤ A.cells.length) (hn : A.cells.length ≤ 4194304) :
    Calls Try.prog 40 #[.slice (some ⟨g, 0, none⟩) A.cells.length A.cells.length, .int .i64 A.next, .agg #[.int .i64 t, .int .u8 2, .int .u64 x, .int .u64 y, .int .u64 0, .slice up un uc, .int .u64 0, .bool false]] w fun e w' => Does w w' g e (A.store t x y) := by
  have hb1 := h.alloc (.cells #[.int .i64 t, .int .u8 2, .int .u64 x, .int .u64 y, .int .u64 0, .slice up un uc, .int .u64 0, .bool false] 87)
  have hf1 := (Fr.refl (fun b => b = g) w).alloc (.cells #[.int .i64 t, .int .u8 2, .int .u64 x, .int .u64 y, .int .u64 0, .slice up un uc, .int .u64 0, .bool false] 87)
  have hob := Blk.made w 87 #[.int .i64 t, .int .u8 2, .int .u64 x, .int .u64 y, .int .u64 0, .slice up un uc, .int .u64 0, .bool false]
  have hm : x.tmod A.cells.length = x % A.cells.length := Int.tmod_eq_emod_of_nonneg h0
  have hr0 := Int.emod_nonneg x (show (A.cells.length : Int) ≠ 0 by omega)
  have hr1 := Int.emod_lt_of_pos x (show (0 : Int) < A.cells.length by omega)
  go_enter Try.func40, Try.ntmps40
  go_upto_region 1 with fail
  generalize w.alloc _ = w1 at *
  generalize w.heap.size = bx at *
  have k1 : w1.cell? ⟨bx, 1, none⟩ = some (.int .u8 2) := hob.cell 1
  have k2 : w1.cell? ⟨bx, 2, none⟩ = some (.int .u64 x) := hob.cell 2
  have k3 : w1.cell? ⟨bx, 3, none⟩ = some (.int .u64 y) := hob.cell 3
  have k4 : w1.cell? ⟨bx, 4, none⟩ = some (.int .u64 0) := hob.cell 4
  have k5 : w1.cell? ⟨bx, 5, none⟩ = some (.slice up un uc) := hob.cell 5
  have k6 : w1.cell? ⟨bx, 6, none⟩ = some (.int .u64 0) := hob.cell 6
  have k7 : w1.cell? ⟨bx, 7, none⟩ = some (.bool false) := hob.cell 7
  cases hx : A.has x
  · have hp := peek_past A hx
    have t1 : decide (x < (A.cells.length : Int)) = false := by simpa [Mem.has] using hx
    generalize x % (A.cells.length : Int) = r at *
    have hres : (A.store t x y).cells = A.cells := by simp [Mem.store, Mem.note, put_past A hx]
    have HR := Lib.hid hres
    clear hres
    go_wp2_with fail
    go_ret2
    exact ⟨rfl, by rw [HR.out]; exact hb1, hf1⟩
  · obtain ⟨i, rfl, hi⟩ := has_nat h0 hx
    have t1 : decide ((i : Int) < (A.cells.length : Int)) = true := by simp; omega
    have t1' : decide (i < A.cells.length) = true := by simp; omega
    have hmi : (i : Int) % (A.cells.length : Int) = i := Int.emod_eq_of_lt (by omega) (by omega)
    rw [hmi] at hm
    have r1 := hb1.rowAt hi
    have rf := hb1.cold i
    have hp : A.peek i = A.cells.getD i 0 := by simp [Mem.peek]
    rw [← hp] at r1
    clear hmi hr0 hr1 hp
    generalize A.peek i = pk at *
    have HR := Lib.hid (us_put A i y)
    go_wp2_with fail
    go_ret2
    exact ⟨rfl, (hb1.put i (.int .u64 y)).eq HR.out, hf1.put (p := ⟨g, i, none⟩) (.inl rfl) _⟩
set_option maxHeartbeats 4000000 in
set_option maxRecDepth 100000 in
theorem done_cas (h : Blk w g 22 (us A.cells).toArray) (h0 : 0 ≤ x) (hn0 : 1 ≤ A.cells.length) (hn : A.cells.length ≤ 4194304) :
    Calls Try.prog 40 #[.slice (some ⟨g, 0, none⟩) A.cells.length A.cells.length, .int .i64 A.next, .agg #[.int .i64 t, .int .u8 3, .int .u64 x, .int .u64 y, .int .u64 z, .slice up un uc, .int .u64 0, .bool (A.hit x y)]] w fun e w' => Does w w' g e (A.cas t x y z) := by
  have hb1 := h.alloc (.cells #[.int .i64 t, .int .u8 3, .int .u64 x, .int .u64 y, .int .u64 z, .slice up un uc, .int .u64 0, .bool (A.hit x y)] 87)
  have hf1 := (Fr.refl (fun b => b = g) w).alloc (.cells #[.int .i64 t, .int .u8 3, .int .u64 x, .int .u64 y, .int .u64 z, .slice up un uc, .int .u64 0, .bool (A.hit x y)] 87)
  have hob := Blk.made w 87 #[.int .i64 t, .int .u8 3, .int .u64 x, .int .u64 y, .int .u64 z, .slice up un uc, .int .u64 0, .bool (A.hit x y)]
  have hm : x.tmod A.cells.length = x % A.cells.length := Int.tmod_eq_emod_of_nonneg h0
  have hr0 := Int.emod_nonneg x (show (A.cells.length : Int) ≠ 0 by omega)
  have hr1 := Int.emod_lt_of_pos x (show (0 : Int) < A.cells.length by omega)
  go_enter Try.func40, Try.ntmps40
  go_upto_region 1 with fail
  generalize w.alloc _ = w1 at *
  generalize w.heap.size = bx at *
  have k1 : w1.cell? ⟨bx, 1, none⟩ = some (.int .u8 3) := hob.cell 1
  have k2 : w1.cell? ⟨bx, 2, none⟩ = some (.int .u64 x) := hob.cell 2
  have k3 : w1.cell? ⟨bx, 3, none⟩ = some (.int .u64 y) := hob.cell 3
  have k4 : w1.cell? ⟨bx, 4, none⟩ = some (.int .u64 z) := hob.cell 4
  have k5 : w1.cell? ⟨bx, 5, none⟩ = some (.slice up un uc) := hob.cell 5
  have k6 : w1.cell? ⟨bx, 6, none⟩ = some (.int .u64 0) := hob.cell 6
  have k7 : w1.cell? ⟨bx, 7, none⟩ = some (.bool (A.hit x y)) := hob.cell 7
  cases hx : A.has x
  · have hp := peek_past A hx
    have t1 : decide (x < (A.cells.length : Int)) = false := by simpa [Mem.has] using hx
    generalize x % (A.cells.length : Int) = r at *
    have hh : A.hit x y = false := by simp [Mem.hit, hx]
    have HR : Hid ((A.cas t x y z).cells = A.cells ∧ (A.cas t x y z).next = A.next) := by simp [Hid, Mem.cas, Mem.note, hh]
    rw [hh] at k7
    clear hh
    go_wp2_with fail
    go_quiet (fail)
    all_goals
      go_wp2_with fail
      go_ret2
      exact ⟨by rw [HR.out.2]; rfl, by rw [HR.out.1]; exact hb1.drawn _, hf1.drawn _⟩
  · obtain ⟨i, rfl, hi⟩ := has_nat h0 hx
    have t1 : decide ((i : Int) < (A.cells.length : Int)) = true := by simp; omega
    have t1' : decide (i < A.cells.length) = true := by simp; omega
    have hmi : (i : Int) % (A.cells.length : Int) = i := Int.emod_eq_of_lt (by omega) (by omega)
    rw [hmi] at hm
    have r1 := hb1.rowAt hi
    have rf := hb1.cold i
    have hp : A.peek i = A.cells.getD i 0 := by simp [Mem.peek]
    rw [← hp] at r1
    clear hmi hr0 hr1 hp
    by_cases hpy : A.peek i = y
    · have hh : A.hit i y = true := by simp [Mem.hit, hx, hpy]
      have HR : Hid ((A.cas t i y z).cells = (A.put i z).cells ∧ (A.cas t i y z).next = A.next) := by simp [Hid, Mem.cas, Mem.note, hh, Mem.put]
      have HU := Lib.hid (us_put A i z)
      rw [hh] at k7
      rw [hpy] at r1
      clear hh hpy
      go_wp2_with fail
      go_ret2
      exact ⟨by rw [HR.out.2]; rfl, by rw [HR.out.1]; exact (hb1.put i (.int .u64 z)).eq HU.out, hf1.put (p := ⟨g, i, none⟩) (.inl rfl) _⟩
    · have hh : A.hit i y = false := by simp [Mem.hit, hpy]
      have HR : Hid ((A.cas t i y z).cells = A.cells ∧ (A.cas t i y z).next = A.next) := by simp [Hid, Mem.cas, Mem.note, hh]
      rw [hh] at k7
      have t2 : (A.peek i != y) = true := by simpa using hpy
      have t3 : (A.peek i == y) = false := by simpa using hpy
      generalize A.peek i = pk at *
      clear hh hpy
      go_wp2_with fail
      go_quiet (fail)
      all_goals
        go_wp2_with fail
        go_ret2
        exact ⟨by rw [HR.out.2]; rfl, by rw [HR.out.1]; exact hb1.drawn _, hf1.drawn _⟩
set_option maxHeartbeats 4000000 in
set_option maxRecDepth 100000 in
theorem done_add (h : Blk w g 22 (us A.cells).toArray) (h0 : 0 ≤ x) (hn0 : 1 ≤ A.cells.length) (hn : A.cells.length ≤ 4194304) :
    Calls Try.prog 40 #[.slice (some ⟨g, 0, none⟩) A.cells.length A.cells.length, .int .i64 A.next, .agg #[.int .i64 t, .int .u8 4, .int .u64 x, .int .u64 y, .int .u64 0, .slice up un uc, .int .u64 (A.peek x), .bool false]] w fun e w' => Does w w' g e (A.add t x y) := by
  have hb1 := h.alloc (.cells #[.int .i64 t, .int .u8 4, .int .u64 x, .int .u64 y, .int .u64 0, .slice up un uc, .int .u64 (A.peek x), .bool false] 87)
  have hf1 := (Fr.refl (fun b => b = g) w).alloc (.cells #[.int .i64 t, .int .u8 4, .int .u64 x, .int .u64 y, .int .u64 0, .slice up un uc, .int .u64 (A.peek x), .bool false] 87)
  have hob := Blk.made w 87 #[.int .i64 t, .int .u8 4, .int .u64 x, .int .u64 y, .int .u64 0, .slice up un uc, .int .u64 (A.peek x), .bool false]
  have hm : x.tmod A.cells.length = x % A.cells.length := Int.tmod_eq_emod_of_nonneg h0
  have hr0 := Int.emod_nonneg x (show (A.cells.length : Int) ≠ 0 by omega)
  have hr1 := Int.emod_lt_of_pos x (show (0 : Int) < A.cells.length by omega)
  go_enter Try.func40, Try.ntmps40
  go_upto_region 1 with fail
  generalize w.alloc _ = w1 at *
  generalize w.heap.size = bx at *
  have k1 : w1.cell? ⟨bx, 1, none⟩ = some (.int .u8 4) := hob.cell 1
  have k2 : w1.cell? ⟨bx, 2, none⟩ = some (.int .u64 x) := hob.cell 2
  have k3 : w1.cell? ⟨bx, 3, none⟩ = some (.int .u64 y) := hob.cell 3
  have k4 : w1.cell? ⟨bx, 4, none⟩ = some (.int .u64 0) := hob.cell 4
  have k5 : w1.cell? ⟨bx, 5, none⟩ = some (.slice up un uc) := hob.cell 5
  have k6 : w1.cell? ⟨bx, 6, none⟩ = some (.int .u64 (A.peek x)) := hob.cell 6
  have k7 : w1.cell? ⟨bx, 7, none⟩ = some (.bool false) := hob.cell 7
  cases hx : A.has x
  · have hp := peek_past A hx
    have t1 : decide (x < (A.cells.length : Int)) = false := by simpa [Mem.has] using hx
    rw [hp] at k6
    generalize x % (A.cells.length : Int) = r at *
    have HR : Hid ((A.add t x y).cells = A.cells) := by show _ = _; simp [Mem.add, Mem.note, put_past A hx]
    go_wp2_with fail
    go_quiet (fail)
    all_goals
      go_wp2_with fail
      go_ret2
      exact ⟨rfl, by rw [HR.out]; exact hb1.drawn _, hf1.drawn _⟩
  · obtain ⟨i, rfl, hi⟩ := has_nat h0 hx
    have t1 : decide ((i : Int) < (A.cells.length : Int)) = true := by simp; omega
    have t1' : decide (i < A.cells.length) = true := by simp; omega
    have hmi : (i : Int) % (A.cells.length : Int) = i := Int.emod_eq_of_lt (by omega) (by omega)
    rw [hmi] at hm
    have r1 := hb1.rowAt hi
    have rf := hb1.cold i
    have hp : A.peek i = A.cells.getD i 0 := by simp [Mem.peek]
    rw [← hp] at r1
    clear hmi hr0 hr1 hp
    have HR := Lib.hid (us_put A i (IntKind.u64.wrap (A.peek i + y)))
    have HC : Hid ((A.add t i y).cells = (A.put i (IntKind.u64.wrap (A.peek i + y))).cells) := rfl
    generalize A.peek i = pk at *
    have hbg : bx ≠ g := fun e => by subst e; exact Blk.ne hob hb1 (by decide) rfl
    have j1 : ∀ v, (w1.setCell ⟨g, i, none⟩ v).cell? ⟨bx, 6, none⟩ = some (.int .u64 pk) := fun v => (Blk.far hob (p := ⟨g, i, none⟩) hbg v).cell 6
    go_wp2_with fail
    go_quiet (fail)
    all_goals
      go_wp2_with fail
      go_ret2
      exact ⟨rfl, by rw [HC.out]; exact ((hb1.put i _).eq HR.out).drawn _, (hf1.put (p := ⟨g, i, none⟩) (.inl rfl) _).drawn _⟩
theorem splice_step {α : Type} (L : List α) (o : Nat) (xs : List α) {k : Nat} {y : α} (hy : xs[k]? = some y) (ho : o + xs.length ≤ L.length) : splice L o (xs.take (k + 1)) = (splice L o (xs.take k)).set (o + k) y := by
  have hk : k < xs.length := (List.getElem?_eq_some_iff.1 hy).1
  have hl : (xs.take k).length = k := by rw [List.length_take]; omega
  have hl1 : (xs.take (k + 1)).length = k + 1 := by rw [List.length_take]; omega
  have ht : (L.take o).length = o := by rw [List.length_take]; omega
  have hd : L.drop (o + k) = L[o + k]'(by omega) :: L.drop (o + (k + 1)) := List.drop_eq_getElem_cons (by omega)
  unfold splice
  rw [hl, hl1, hd, List.set_append_right _ _ (by omega), ht, show o + k - o = k by omega, List.set_append_right _ _ (by omega), hl, Nat.sub_self, List.set_cons_zero, List.take_add_one, hy]
  simp
theorem us_set (L : List Int) (i : Nat) (v : Int) : (us L).toArray.setIfInBounds i (.int .u64 v) = (us (L.set i v)).toArray := by simp [us, List.map_set]
set_option maxHeartbeats 4000000 in
set_option maxRecDepth 100000 in
theorem done_alloc_no (h : Blk w g 22 (us A.cells).toArray) (hn0 : 1 ≤ A.cells.length) (hn : A.cells.length ≤ 4194304) (hl : vs.length ≤ 1000000000) (hA : A.next ≤ A.cells.length) (hf : A.fits vs = false) :
    Calls Try.prog 40 #[.slice (some ⟨g, 0, none⟩) A.cells.length A.cells.length, .int .i64 A.next, .agg #[.int .i64 t, .int .u8 5, .int .u64 0, .int .u64 0, .int .u64 0, .slice up vs.length uc, .int .u64 0, .bool false]] w fun e w' => Does w w' g e (A.alloc t vs) := by
  have hb1 := h.alloc (.cells #[.int .i64 t, .int .u8 5, .int .u64 0, .int .u64 0, .int .u64 0, .slice up vs.length uc, .int .u64 0, .bool false] 87)
  have hf1 := (Fr.refl (fun b => b = g) w).alloc (.cells #[.int .i64 t, .int .u8 5, .int .u64 0, .int .u64 0, .int .u64 0, .slice up vs.length uc, .int .u64 0, .bool false] 87)
  have hob := Blk.made w 87 #[.int .i64 t, .int .u8 5, .int .u64 0, .int .u64 0, .int .u64 0, .slice up vs.length uc, .int .u64 0, .bool false]
  go_enter Try.func40, Try.ntmps40
  go_upto_region 1 with fail
  generalize w.alloc _ = w1 at *
  generalize w.heap.size = bx at *
  have k1 : w1.cell? ⟨bx, 1, none⟩ = some (.int .u8 5) := hob.cell 1
  have k2 : w1.cell? ⟨bx, 2, none⟩ = some (.int .u64 0) := hob.cell 2
  have k3 : w1.cell? ⟨bx, 3, none⟩ = some (.int .u64 0) := hob.cell 3
  have k4 : w1.cell? ⟨bx, 4, none⟩ = some (.int .u64 0) := hob.cell 4
  have k5 : w1.cell? ⟨bx, 5, none⟩ = some (.slice up vs.length uc) := hob.cell 5
  have k6 : w1.cell? ⟨bx, 6, none⟩ = some (.int .u64 0) := hob.cell 6
  have k7 : w1.cell? ⟨bx, 7, none⟩ = some (.bool false) := hob.cell 7
  have hi : 0 < A.cells.length := by omega
  have t1 : decide ((0 : Int) < (A.cells.length : Int)) = true := by simp; omega
  have t1' : decide (0 < A.cells.length) = true := by simp; omega
  have r1 := hb1.rowAt hi
  have hm : (0 : Int).tmod (A.cells.length : Int) = 0 := by simp
  have HR : Hid ((A.alloc t vs).cells = A.cells ∧ (A.alloc t vs).next = A.next) := by simp [Hid, Mem.alloc, Mem.note, hf]
  have hc : vs.length = 0 ∨ A.cells.length - A.next < vs.length := by
    simp [Mem.fits] at hf
    by_cases h0 : vs = []
    · left; simp [h0]
    · right; have := hf h0; omega
  generalize A.cells.getD 0 0 = pk at *
  by_cases hz : vs.length = 0
  · have t2 : ((vs.length : Int) == 0) = true := by simp [hz]
    go_wp2_with fail
    go_quiet (fail)
    all_goals
      go_wp2_with fail
      go_ret2
      exact ⟨by rw [HR.out.2]; rfl, by rw [HR.out.1]; exact hb1.drawn _, hf1.drawn _⟩
  · have t2 : ((vs.length : Int) == 0) = false := by simpa using hz
    have t3 : decide (((A.cells.length : Int) - (A.next : Int)) < (vs.length : Int)) = true := by simp; omega
    have ow : wrap64 ((A.cells.length : Int) - (A.next : Int)) = (A.cells.length : Int) - (A.next : Int) := by unfold wrap64; omega
    have ow2 : IntKind.i64.wrap ((A.cells.length : Int) - (A.next : Int)) = (A.cells.length : Int) - (A.next : Int) := IntWalk.i64_in _ (by omega)
    go_wp2_with fail
    go_quiet (fail)
    all_goals
      go_wp2_with fail
      go_ret2
      exact ⟨by rw [HR.out.2]; rfl, by rw [HR.out.1]; exact hb1.drawn _, hf1.drawn _⟩
set_option maxHeartbeats 4000000 in
set_option maxRecDepth 100000 in
theorem done_alloc_yes (h : Blk w g 22 (us A.cells).toArray) (hn0 : 1 ≤ A.cells.length) (hn : A.cells.length ≤ 4194304) (hl : vs.length ≤ 1000000000) (hA1 : 1 ≤ A.next) (hf : A.fits vs = true) (hu : VR w (.slice up vs.length uc) vs) (hug : ∀ b, (Value.slice up vs.length uc).ownBlock = some b → b ≠ g) :
    Calls Try.prog 40 #[.slice (some ⟨g, 0, none⟩) A.cells.length A.cells.length, .int .i64 A.next, .agg #[.int .i64 t, .int .u8 5, .int .u64 (A.next : Int), .int .u64 0, .int .u64 0, .slice up vs.length uc, .int .u64 0, .bool false]] w fun e w' => Does w w' g e (A.alloc t vs) := by
  have hb1 := h.alloc (.cells #[.int .i64 t, .int .u8 5, .int .u64 (A.next : Int), .int .u64 0, .int .u64 0, .slice up vs.length uc, .int .u64 0, .bool false] 87)
  have hf1 := (Fr.refl (fun b => b = g) w).alloc (.cells #[.int .i64 t, .int .u8 5, .int .u64 (A.next : Int), .int .u64 0, .int .u64 0, .slice up vs.length uc, .int .u64 0, .bool false] 87)
  have hob := Blk.made w 87 #[.int .i64 t, .int .u8 5, .int .u64 (A.next : Int), .int .u64 0, .int .u64 0, .slice up vs.length uc, .int .u64 0, .bool false]
  go_enter Try.func40, Try.ntmps40
  go_upto_region 1 with fail
  generalize w.alloc _ = w1 at *
  generalize w.heap.size = bx at *
  have k1 : w1.cell? ⟨bx, 1, none⟩ = some (.int .u8 5) := hob.cell 1
  have k2 : w1.cell? ⟨bx, 2, none⟩ = some (.int .u64 (A.next : Int)) := hob.cell 2
  have k3 : w1.cell? ⟨bx, 3, none⟩ = some (.int .u64 0) := hob.cell 3
  have k4 : w1.cell? ⟨bx, 4, none⟩ = some (.int .u64 0) := hob.cell 4
  have k5 : w1.cell? ⟨bx, 5, none⟩ = some (.slice up vs.length uc) := hob.cell 5
  have k6 : w1.cell? ⟨bx, 6, none⟩ = some (.int .u64 0) := hob.cell 6
  have k7 : w1.cell? ⟨bx, 7, none⟩ = some (.bool false) := hob.cell 7
  have hf' : vs ≠ [] ∧ A.next + vs.length ≤ A.cells.length := by simpa [Mem.fits] using hf
  have hpos : 0 < vs.length := List.length_pos_iff.2 hf'.1
  have hi : A.next < A.cells.length := by omega
  have t1 : decide ((A.next : Int) < (A.cells.length : Int)) = true := by simp; omega
  have t1' : decide (A.next < A.cells.length) = true := by simp; omega
  have r1 := hb1.rowAt hi
  have hm : (A.next : Int).tmod (A.cells.length : Int) = A.next := by rw [Int.tmod_eq_emod_of_nonneg (show (0 : Int) ≤ (A.next : Int) by omega)]; exact Int.emod_eq_of_lt (by omega) (by omega)
  have t2 : ((A.next : Int) == 0) = false := by simp; omega
  have t3 : ((A.next : Int) != (A.next : Int)) = false := by simp
  have t4 : decide (((A.cells.length : Int) - (A.next : Int)) < (vs.length : Int)) = false := by simp; omega
  have t5 : ((vs.length : Int) == 0) = false := by simpa using hf'.1
  have ow : wrap64 ((A.cells.length : Int) - (A.next : Int)) = (A.cells.length : Int) - (A.next : Int) := by unfold wrap64; omega
  have ow3 : wrap64 ((A.next : Int) + (vs.length : Int)) = (A.next : Int) + (vs.length : Int) := by unfold wrap64; omega
  have HR : Hid ((A.alloc t vs).cells = splice A.cells A.next vs ∧ ((A.alloc t vs).next : Int) = (A.next : Int) + vs.length) := by simp [Hid, Mem.alloc, Mem.note, hf, Mem.laid]
  obtain ⟨ub, hup, hubl, huc⟩ : ∃ ub, up = some ⟨ub, 0, none⟩ ∧ ub < w.heap.size ∧ ∀ j v, (us vs)[j]? = some v → w.cell? ⟨ub, j, none⟩ = some v := by
    rcases hu with ⟨p, c, e, e0⟩ | ⟨gb, c, e, e1, e2⟩
    · exact absurd e0 hf'.1
    · injection e with e _ _
      exact ⟨gb, e, e1, e2⟩
  subst hup
  have hubg : ub ≠ g := hug ub rfl
  have HUC : Hid (∀ (w' : World), Fr (fun b => b = g) w w' → ∀ j v, vs[j]? = some v → w'.cell? ⟨ub, j, none⟩ = some (.int .u64 v)) := by
    intro w' hfr j v hj
    have h1 := huc j (.int .u64 v) (by simp [us, hj])
    have h2 := hfr.block ub hubl hubg
    unfold World.cell? at h1 ⊢
    rw [h2]; exact h1
  have hbg : bx ≠ g := fun e => by subst e; exact Blk.ne hob hb1 (by decide) rfl
  have hlen := hf'.2
  generalize A.cells.getD A.next 0 = pk at *
  clear huc hu hf hf' hug
  go_wp2_with fail
  go_loopw [11] (fun i wr => ∃ k : Nat, i = .int .i64 k ∧ k ≤ vs.length ∧ Blk wr g 22 (us (splice A.cells A.next (vs.take k))).toArray ∧ Fr (fun b => b = g) w1 wr ∧ Fr (fun b => b = g) w wr) (fun i _ => vs.length - (intOf i).toNat)
  case atStart => exact ⟨0, rfl, Nat.zero_le _, hb1.eq (by simp [splice]), Fr.refl _ _, hf1⟩
  case round =>
    obtain ⟨k, rfl, hk, hB, hF1, hF⟩ := hrel
    have hob2 := hob.fr hF1 hbg
    have k5 : wr.cell? ⟨bx, 5, none⟩ = some (.slice (some ⟨ub, 0, none⟩) vs.length uc) := hob2.cell 5
    by_cases hlt : k < vs.length
    · obtain ⟨y, hy⟩ : ∃ y, vs[k]? = some y := ⟨_, List.getElem?_eq_getElem hlt⟩
      have d1 := HUC.out wr hF k y hy
      have hsl : (splice A.cells A.next (vs.take k)).length = A.cells.length := length_splice _ _ _ (by rw [List.length_take]; omega)
      have d2 : wr.cell? ⟨g, A.next + k, none⟩ = some (.int .u64 ((splice A.cells A.next (vs.take k)).getD (A.next + k) 0)) := by
        rw [hB.cell]
        have hlt2 : A.next + k < (splice A.cells A.next (vs.take k)).length := by omega
        simp [us, List.getD_eq_getElem?_getD, hlt2]
      have d3 := hB.cold (A.next + k)
      have HS := Lib.hid (splice_step A.cells A.next vs hy hlen)
      have HU := Lib.hid (us_set (splice A.cells A.next (vs.take k)) (A.next + k) y)
      have HB := Lib.hid hB
      generalize (splice A.cells A.next (vs.take k)).getD (A.next + k) 0 = old at *
      have ow4 : wrap64 ((A.next : Int) + (k : Int)) = (A.next : Int) + (k : Int) := by unfold wrap64; omega
      clear hB hsl
      go_wp2_with fail
      go_roundw
      case rel => exact ⟨k + 1, by go_num, by omega, by rw [HS.out]; exact (HB.out.put (A.next + k) (.int .u64 y)).eq HU.out, hF1.put (p := ⟨g, A.next + k, none⟩) (.inl rfl) _, hF.put (p := ⟨g, A.next + k, none⟩) (.inl rfl) _⟩
      case measure => simp [intOf]; omega
    · obtain rfl : k = vs.length := by omega
      rw [List.take_length] at hB
      go_wp2_with fail
      go_ret2
      exact ⟨by rw [HR.out.2]; rfl, by rw [HR.out.1]; exact hB, hF⟩
end
end Go.Proofs.Ytfbdgodebeggbaa

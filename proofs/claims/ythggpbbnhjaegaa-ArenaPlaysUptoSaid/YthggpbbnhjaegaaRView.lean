/-
  The document's memory, not a live one: Peek, Load, Store, Cas, Add, as the plain Lean memory answers. No condition.
-/
import Derived.Test.YthggpbbnhjaegaaRMem
namespace Go.Proofs.Ythggpbbnhjaegaa
open Go Go.RowKit
set_option linter.unusedSimpArgs false
set_option linter.unusedVariables false
section
variable {w w' : World} {F G S : Nat → Prop} {rm r : Nat} {tv v : Value} {rows : List (Acc × Value)} {A : Mem} {lv : Bool}
set_option maxRecDepth 100000 in
theorem RNew_any (w : World) (n : Nat) (h0 : 128 ≤ n) (h1 : n ≤ 4194304) (lv : Bool) : Calls Try.prog 5 #[.int .i64 (n : Int), .bool lv] w fun e w' => ∃ rm, e = .returned (.tuple #[.pointer (some ⟨rm, 0, none⟩), .int .i64 0]) ∧ RM w' (fun b => w.heap.size ≤ b) rm lv (Mem.made n) ∧ Below w.heap.size w w' := by
  have hmk := run_zeros n h1
  have h2 : decide ((n : Int) < 128) = false := by simp; omega
  have h3 : decide ((4194304 : Int) < (n : Int)) = false := by simp; omega
  have h3' : decide (4194304 < n) = false := by simp; omega
  have h2' : decide (n < 128) = false := by simp; omega
  clear h0 h1
  have HP : Hid (RM ((w.alloc (.cells (us (Mem.made n).cells).toArray 33)).alloc (.cells #[.slice (some ⟨w.heap.size, 0, none⟩) n n, .int .i64 1, .slice none 0 0, .bool lv] 62)) (fun b => w.heap.size ≤ b) (w.heap.size + 1) lv (Mem.made n)) := by
    refine ⟨w.heap.size, .slice none 0 0, [], ⟨⟨n, by simp [Mem.made], ?_⟩, ⟨[], by rw [List.append_nil]; exact (Blk.made w 33 _).alloc _⟩, World.ownsRow_nil _ _ _ _, rfl, (by intro x hx; cases hx), ?_, ?_, (by intro g e; cases e)⟩⟩
    · have := Blk.made (w.alloc (.cells (us (Mem.made n).cells).toArray 33)) 62 #[.slice (some ⟨w.heap.size, 0, none⟩) n n, .int .i64 1, .slice none 0 0, .bool lv]
      simpa [Mem.made] using this
    · show w.heap.size ≤ _; omega
    · show w.heap.size ≤ _; omega
  unfold Mem.made at *
  generalize List.replicate n (0 : Int) = cs at *
  go_enter Try.func5, Try.ntmps5
  go_wp2
  go_ret2
  exact ⟨_, rfl, HP.out, ((Below.refl _ _).alloc (Nat.le_refl _) _).alloc (by simp) _⟩
theorem RPeek_any (h : RMx w F rm r tv rows lv A) (x : Int) (h0 : 0 ≤ x) (hn : A.cells.length ≤ 4194304) : Calls Try.prog 31 #[.pointer (some ⟨rm, 0, none⟩), .int .u64 x] w fun e w' => e = .returned (.int .u64 (A.peek x)) ∧ w = w' := by
  obtain ⟨cp, c1⟩ : ∃ cp, w.cell? ⟨rm, 0, none⟩ = some (.slice (some ⟨r, 0, none⟩) A.cells.length cp) := ⟨_, h.bM.cell 0⟩
  cases hx : A.has x
  · have hp := peek_past A hx
    rw [hp]
    have t1 : (A.cells.length : Int) ≤ x := by simpa [Mem.has] using hx
    clear hx hp
    generalize A.cells.length = n at *
    have t2 : decide ((n : Int) ≤ x) = true := by simpa using t1
    have t3 : decide (x < (n : Int)) = false := by simpa using t1
    go_enter Try.func31, Try.ntmps31
    go_wp2
    go_ret
    exact ⟨rfl, rfl⟩
  · obtain ⟨i, rfl, hi⟩ := has_nat h0 hx
    have c2 := h.rowcell hi
    have hp : A.peek i = A.cells.getD i 0 := by simp [Mem.peek]
    rw [hp]
    generalize A.cells.getD i 0 = y at *
    generalize A.cells.length = n at *
    have t2 : decide ((n : Int) ≤ (i : Int)) = false := by simp; omega
    have t3 : decide (n ≤ i) = false := by simp; omega
    clear hx hp
    go_enter Try.func31, Try.ntmps31
    go_wp2
    go_ret
    exact ⟨rfl, rfl⟩
/-- set -/
theorem Rset_yes (h : RMx w F rm r tv rows lv A) {i : Nat} (hi : i < A.cells.length) (hn : A.cells.length ≤ 4194304) (u : Int) : Calls Try.prog 43 #[.pointer (some ⟨rm, 0, none⟩), .int .u64 i, .int .u64 u] w fun e w' => e = .returned (.tuple #[]) ∧ w' = w.setCell ⟨r, i, none⟩ (.int .u64 u) := by
  obtain ⟨cp, c1⟩ : ∃ cp, w.cell? ⟨rm, 0, none⟩ = some (.slice (some ⟨r, 0, none⟩) A.cells.length cp) := ⟨_, h.bM.cell 0⟩
  have c2 := h.rowcell hi
  have c3 := h.bR.cold i
  generalize A.cells.getD i 0 = y at *
  generalize A.cells.length = n at *
  go_enter Try.func43, Try.ntmps43
  go_wp2
  go_end0
  exact ⟨rfl, rfl⟩
theorem Rset_no (h : RMx w F rm r tv rows lv A) {x : Int} (hx : A.has x = false) (hn : A.cells.length ≤ 4194304) (u : Int) : Calls Try.prog 43 #[.pointer (some ⟨rm, 0, none⟩), .int .u64 x, .int .u64 u] w fun e w' => e = .returned (.tuple #[]) ∧ w = w' := by
  obtain ⟨cp, c1⟩ : ∃ cp, w.cell? ⟨rm, 0, none⟩ = some (.slice (some ⟨r, 0, none⟩) A.cells.length cp) := ⟨_, h.bM.cell 0⟩
  have t1 : (A.cells.length : Int) ≤ x := by simpa [Mem.has] using hx
  clear hx
  generalize A.cells.length = n at *
  have t3 : decide (x < (n : Int)) = false := by simpa using t1
  go_enter Try.func43, Try.ntmps43
  go_wp2
  go_end0
  exact ⟨rfl, rfl⟩
theorem RLoad_x (h : RMx w F rm r tv rows false A) (th x : Int) (h0 : 0 ≤ x) (hn : A.cells.length ≤ 4194304) (ht : A.trace.length ≤ 1000000000) :
    Calls Try.prog 23 #[.pointer (some ⟨rm, 0, none⟩), .int .i64 th, .int .u64 x] w fun e w' => e = .returned (.int .u64 (A.peek x)) ∧ RDid w w' F rm false (A.load th x) := by
  have hp := Lib.hid (RPeek_any h x h0 hn)
  have hno := Lib.hid (rnote_any h ⟨th, 1, x, 0, 0, [], A.peek x, false⟩ _ (vals_none w F r) (by have := h.len; omega))
  simp only [Mem.load, Mem.note] at *
  clear hn ht
  generalize A.peek x = y at *
  go_enter Try.func23, Try.ntmps23
  go_wp2_with fail
  refine hp.out.mono ?_
  rintro e w' ⟨rfl, rfl⟩
  go_wp2_with fail
  refine hno.out.mono ?_
  rintro e w' ⟨rfl, hN⟩
  go_wp2
  go_ret
  exact ⟨rfl, hN⟩
theorem RStore_x (h : RMx w F rm r tv rows false A) (th x u : Int) (h0 : 0 ≤ x) (hn : A.cells.length ≤ 4194304) (ht : A.trace.length ≤ 1000000000) :
    Calls Try.prog 25 #[.pointer (some ⟨rm, 0, none⟩), .int .i64 th, .int .u64 x, .int .u64 u] w fun e w' => e = .returned (.tuple #[]) ∧ RDid w w' F rm false (A.store th x u) := by
  simp only [Mem.store]
  cases hx : A.has x
  · have hno := Lib.hid (rnote_any h ⟨th, 2, x, u, 0, [], 0, false⟩ _ (vals_none w F r) (by have := h.len; omega))
    rw [put_past A hx]
    have Hs := Lib.hid (Rset_no h hx hn u)
    simp only [Mem.note] at *
    clear hx hn ht
    go_enter Try.func25, Try.ntmps25
    go_wp2_with fail
    refine Hs.out.mono ?_
    rintro e w' ⟨rfl, rfl⟩
    go_wp2_with fail
    refine hno.out.mono ?_
    rintro e w' ⟨rfl, hN⟩
    go_wp2_with fail
    go_end0
    exact ⟨rfl, hN⟩
  · obtain ⟨i, rfl, hi⟩ := has_nat h0 hx
    have Hs := Lib.hid (Rset_yes h hi hn u)
    obtain ⟨h2, f2⟩ := h.put i u
    have hno := Lib.hid (rnote_any h2 ⟨th, 2, i, u, 0, [], 0, false⟩ _ (vals_none _ F r) (by have := h.len; omega))
    simp only [Mem.note] at *
    clear hx hn ht
    go_enter Try.func25, Try.ntmps25
    go_wp2_with fail
    refine Hs.out.mono ?_
    rintro e w' ⟨rfl, rfl⟩
    go_wp2_with fail
    refine hno.out.mono ?_
    rintro e w' ⟨rfl, hN⟩
    go_wp2_with fail
    go_end0
    exact ⟨rfl, RDid.pre hN f2⟩
theorem RCas_x (h : RMx w F rm r tv rows false A) (th x o u : Int) (h0 : 0 ≤ x) (hn : A.cells.length ≤ 4194304) (ht : A.trace.length ≤ 1000000000) :
    Calls Try.prog 26 #[.pointer (some ⟨rm, 0, none⟩), .int .i64 th, .int .u64 x, .int .u64 o, .int .u64 u] w fun e w' => e = .returned (.bool (A.hit x o)) ∧ RDid w w' F rm false (A.cas th x o u) := by
  obtain ⟨cp, c1⟩ : ∃ cp, w.cell? ⟨rm, 0, none⟩ = some (.slice (some ⟨r, 0, none⟩) A.cells.length cp) := ⟨_, h.bM.cell 0⟩
  simp only [Mem.cas]
  cases hx : A.has x
  · have hno := Lib.hid (rnote_any h ⟨th, 3, x, o, u, [], 0, false⟩ _ (vals_none w F r) (by have := h.len; omega))
    have hit : A.hit x o = false := by simp [Mem.hit, hx]
    rw [hit]
    have t1 : (A.cells.length : Int) ≤ x := by simpa [Mem.has] using hx
    simp only [Mem.note] at *
    clear hx ht hit
    generalize A.cells.length = n at *
    have t3 : decide (x < (n : Int)) = false := by simpa using t1
    go_enter Try.func26, Try.ntmps26
    go_wp2_with fail
    refine hno.out.mono ?_
    rintro e w' ⟨rfl, hN⟩
    go_wp2
    go_ret
    exact ⟨rfl, hN⟩
  · obtain ⟨i, rfl, hi⟩ := has_nat h0 hx
    have hp : A.peek i = A.cells.getD i 0 := by simp [Mem.peek]
    have c2 := h.rowcell hi
    by_cases ho : A.cells.getD i 0 = o
    · have hit : A.hit i o = true := by rw [Mem.hit, hx, hp, ho]; simp
      rw [hit]
      rw [ho] at c2
      have Hs := Lib.hid (Rset_yes h hi hn u)
      obtain ⟨h2, f2⟩ := h.put i u
      have hno := Lib.hid (rnote_any h2 ⟨th, 3, i, o, u, [], 0, true⟩ _ (vals_none _ F r) (by have := h.len; omega))
      simp only [Mem.note] at *
      clear hx ht ho hit hp h2
      generalize A.cells.length = n at *
      go_enter Try.func26, Try.ntmps26
      go_wp2_with fail
      refine Hs.out.mono ?_
      rintro e w' ⟨rfl, rfl⟩
      go_wp2_with fail
      refine hno.out.mono ?_
      rintro e w' ⟨rfl, hN⟩
      go_wp2
      go_ret
      exact ⟨rfl, RDid.pre hN f2⟩
    · have hit : A.hit i o = false := by rw [Mem.hit, hp]; simp only [ho, decide_false, Bool.and_false]
      rw [hit]
      have hno := Lib.hid (rnote_any h ⟨th, 3, i, o, u, [], 0, false⟩ _ (vals_none _ F r) (by have := h.len; omega))
      generalize A.cells.getD i 0 = y at *
      have t2 : (y == o) = false := by simpa using ho
      have t4 : (y != o) = true := by simpa using ho
      simp only [Mem.note] at *
      clear hx ht ho hit hp
      generalize A.cells.length = n at *
      go_enter Try.func26, Try.ntmps26
      go_wp2_with fail
      refine hno.out.mono ?_
      rintro e w' ⟨rfl, hN⟩
      go_wp2
      go_ret
      exact ⟨rfl, hN⟩
end
end Go.Proofs.Ythggpbbnhjaegaa

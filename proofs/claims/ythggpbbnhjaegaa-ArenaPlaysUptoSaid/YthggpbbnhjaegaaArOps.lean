/-
  A script of calls: what one does to a memory, as plain Lean; how it is handed in; which. No condition.
-/
import Derived.Test.YthggpbbnhjaegaaArLive
namespace Go.Proofs.Ythggpbbnhjaegaa
open Go Go.RowKit
set_option linter.unusedSimpArgs false
set_option linter.unusedVariables false
/-- one call of a script -/
structure Opr where
  kind : Int
  which : Int
  thread : Int
  addr : Int
  a : Int
  b : Int
  vals : List Int
/-- a script that came in -/
def ScriptAt (w : World) (v : Value) (l : List Opr) : Prop :=
  ∃ p c, v = .slice p l.length c ∧ ∀ k x, l[k]? = some x → ∃ b o u, p = some ⟨b, o, none⟩ ∧ b < w.heap.size ∧ w.cell? ⟨b, o + k * 7, none⟩ = some (.int .i64 x.kind) ∧ w.cell? ⟨b, o + k * 7 + 1, none⟩ = some (.int .i64 x.which) ∧
    w.cell? ⟨b, o + k * 7 + 2, none⟩ = some (.int .i64 x.thread) ∧ w.cell? ⟨b, o + k * 7 + 3, none⟩ = some (.int .u64 x.addr) ∧ w.cell? ⟨b, o + k * 7 + 4, none⟩ = some (.int .u64 x.a) ∧ w.cell? ⟨b, o + k * 7 + 5, none⟩ = some (.int .u64 x.b) ∧
    w.cell? ⟨b, o + k * 7 + 6, none⟩ = some u ∧ VA w u x.vals
/-- numbers that fit -/
def Opr.fits (x : Opr) : Prop := 0 ≤ x.addr ∧ x.vals.length ≤ 1048576 ∧ -9223372036854775808 ≤ x.kind ∧ x.kind ≤ 9223372036854775807
def Opr.sort (x : Opr) : Int := x.kind % 5
/-- what it does -/
def Opr.does (x : Opr) (A : Mem) : Mem :=
  if x.sort = 0 then A.load x.thread x.addr else if x.sort = 1 then A.store x.thread x.addr x.a else if x.sort = 2 then A.cas x.thread x.addr x.a x.b else if x.sort = 3 then A.add x.thread x.addr x.a else A.alloc x.thread x.vals
def doAll (A : Mem) (l : List Opr) : Mem := l.foldl (fun A x => x.does A) A
section
variable {w w' w1 w0 : World} {F G S : Nat → Prop} {bm q r v p B : Nat} {A : Mem} {th made : Int} {tv av : Value} {rows : List (Acc × Value)} {vs : List Int} {l : List Opr} {x : Opr}
theorem VA.below (h : VA w av vs) (hb : Below w.heap.size w w') : VA w' av vs := by
  obtain ⟨p, c, rfl, h⟩ := h
  refine ⟨p, c, rfl, ?_⟩
  rcases h with h | ⟨ad, rfl, hl, hc⟩
  · exact .inl h
  · refine .inr ⟨ad, rfl, Nat.lt_of_lt_of_le hl hb.size, fun j u hu => ?_⟩
    rw [← hc j u hu]
    exact hb.cell (by rw [add_block]; exact hl)
theorem VA.off (h : VA w av vs) (hF : ∀ b, F b → w.heap.size ≤ b) : vs ≠ [] → Off av F := by
  intro h0 ad n c e hk
  obtain ⟨p, c', rfl, h⟩ := h
  rcases h with h | ⟨ad', rfl, hl, _⟩
  · exact h0 h
  · injection e with e1 _ _
    injection e1 with e1
    subst e1
    have := hF _ hk
    omega
theorem ScriptAt.below (h : ScriptAt w av l) (hb : Below w.heap.size w w') : ScriptAt w' av l := by
  obtain ⟨p, c, rfl, h⟩ := h
  refine ⟨p, c, rfl, fun k x hk => ?_⟩
  obtain ⟨b, o, u, h1, h2, c0, c1, c2, c3, c4, c5, c6, hv⟩ := h k x hk
  exact ⟨b, o, u, h1, Nat.lt_of_lt_of_le h2 hb.size, (hb.cell (p := ⟨b, _, none⟩) h2).trans c0, (hb.cell (p := ⟨b, _, none⟩) h2).trans c1, (hb.cell (p := ⟨b, _, none⟩) h2).trans c2, (hb.cell (p := ⟨b, _, none⟩) h2).trans c3, (hb.cell (p := ⟨b, _, none⟩) h2).trans c4, (hb.cell (p := ⟨b, _, none⟩) h2).trans c5, (hb.cell (p := ⟨b, _, none⟩) h2).trans c6, hv.below hb⟩
theorem does_trace (x : Opr) (A : Mem) : ∃ y, (x.does A).trace = A.trace ++ [y] ∧ (y.vals = [] ∨ y.vals = x.vals) := by
  unfold Opr.does
  split
  · exact ⟨_, rfl, .inl rfl⟩
  split
  · exact ⟨_, rfl, .inl rfl⟩
  split
  · refine ⟨⟨x.thread, 3, x.addr, x.a, x.b, [], 0, A.hit x.addr x.a⟩, ?_, .inl rfl⟩
    simp only [Mem.cas, Mem.note]; split <;> rfl
  split
  · exact ⟨_, rfl, .inl rfl⟩
  · refine ⟨⟨x.thread, 5, A.spot x.vals, 0, 0, x.vals, 0, false⟩, ?_, .inr rfl⟩
    simp only [Mem.alloc, Mem.note]; split <;> rfl
theorem does_cells (x : Opr) (A : Mem) : (x.does A).cells.length = A.cells.length := by
  unfold Opr.does
  split
  · rfl
  split
  · simp [Mem.store, Mem.note, Mem.put]
  split
  · simp only [Mem.cas, Mem.note]; split <;> simp [Mem.put]
  split
  · simp [Mem.add, Mem.note, Mem.put]
  · simp only [Mem.alloc, Mem.note]
    split
    · rename_i h
      simp [Mem.fits] at h
      exact length_splice _ _ _ h.2
    · rfl
theorem does_next (x : Opr) (A : Mem) (h : A.next ≤ A.cells.length) : (x.does A).next ≤ (x.does A).cells.length := by
  rw [does_cells]
  unfold Opr.does
  split
  · exact h
  split
  · exact h
  split
  · simp only [Mem.cas, Mem.note]; split <;> exact h
  split
  · exact h
  · simp only [Mem.alloc, Mem.note]
    split
    · rename_i h2
      simp [Mem.fits] at h2
      exact h2.2
    · exact h
theorem does_fit (h : A.Fit) (ht : A.trace.length < 1000000000) : (x.does A).Fit := by
  obtain ⟨y, hy, _⟩ := does_trace x A
  exact ⟨by rw [does_cells]; exact h.n, by rw [hy]; simp; omega, does_next x A h.x⟩
theorem doAll_snoc (A : Mem) (l : List Opr) (x : Opr) : doAll A (l ++ [x]) = x.does (doAll A l) := by
  unfold doAll; rw [List.foldl_append]; rfl
theorem doAll_len (A : Mem) : ∀ l : List Opr, (doAll A l).trace.length = A.trace.length + l.length ∧ (doAll A l).cells.length = A.cells.length ∧ (A.next ≤ A.cells.length → (doAll A l).next ≤ (doAll A l).cells.length) := by
  intro l
  induction l generalizing A with
  | nil => exact ⟨rfl, rfl, fun h => h⟩
  | cons x l ih =>
    obtain ⟨y, hy, _⟩ := does_trace x A
    obtain ⟨i1, i2, i3⟩ := ih (x.does A)
    refine ⟨?_, ?_, fun h => i3 (does_next x A h)⟩
    · show (doAll (x.does A) l).trace.length = _
      rw [i1, hy]; simp; omega
    · show (doAll (x.does A) l).cells.length = _
      rw [i2, does_cells]
theorem which_any (w : World) (k n : Int) (hn : 0 < n) (hn2 : n ≤ 1000000000) (h0 : -9223372036854775808 ≤ k) (h1 : k ≤ 9223372036854775807) : Calls Try.prog 7 #[.int .i64 k, .int .i64 n] w fun e w' => e = .returned (.int .i64 (k % n)) ∧ w = w' := by
  have hlt : k.tmod n < n := Int.tmod_lt_of_pos k hn
  have hgt : -n < k.tmod n := Int.lt_tmod_of_pos k hn
  have hr : k % n = if k.tmod n < 0 then k.tmod n + n else k.tmod n := by
    have e1 : n * k.tdiv n + k.tmod n = k := Int.mul_tdiv_add_tmod k n
    have e2 : k % n = (k.tmod n) % n := by
      conv => lhs; rw [← e1]
      exact Int.mul_add_emod_self_left n (k.tdiv n) (k.tmod n)
    rw [e2]
    split
    · rw [← Int.add_emod_right, Int.emod_eq_of_lt (by omega) (by omega)]
    · rw [Int.emod_eq_of_lt (by omega) (by omega)]
  rw [hr]
  clear hr h0 h1
  go_enter Try.func7, Try.ntmps7
  go_wp2
  · go_ret
    exact ⟨rfl, rfl⟩
  · go_ret
    exact ⟨rfl, rfl⟩
end
end Go.Proofs.Ythggpbbnhjaegaa

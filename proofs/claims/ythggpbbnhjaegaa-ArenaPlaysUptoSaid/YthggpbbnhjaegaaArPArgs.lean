/-
  What an argument script holds: calls, with the values that they hand in; a nil row of values has no room. No condition.
-/
import Derived.Test.YthggpbbnhjaegaaArArgs
import Derived.Test.YthggpbbnhjaegaaArPlays
namespace Go.Proofs.Ythggpbbnhjaegaa.sargs
open Go Go.Joins Go.ChangeShapes Go.WideShapes Go.RowKit Go.Deep
set_option linter.unusedVariables false
set_option maxRecDepth 100000
section
variable {H : Type} {enc : TypeId × Value → H} {W : World}
theorem vals_nil {n : Nat} {u : Value} {x : DataW H × List MemPlace} (h : DataW.trod enc Try.prog W 0 (fun _ => true) true n 34 [u] = some x) (m d : Nat) (hu : u = .slice none m d) : d = 0 := by
  rcases open_ints Try.underlying34 Try.underlying33 (by kernel_rfl) h with ⟨h0, rfl⟩ | ⟨a, len, cap, zs, h0, _⟩
  · injection h0 with h0
    rw [hu] at h0
    injection h0
  · injection h0 with h0
    rw [hu] at h0
    injection h0 with h0
    cases h0
theorem script_all {v : Value} {d : DataW H} {p : List MemPlace} (hv : ∃ a n c, v = .slice a n c) (h : DataW.Trod enc Try.prog W 0 (fun _ => true) true 22 v d p) (hb : Rows.uptoBulk d ≤ 1048576) :
    ∃ l : List Opr, ScriptAt W v l ∧ (∀ x ∈ l, x.fits) ∧ l.length ≤ 1048576 ∧ (∀ x ∈ l, x.words) ∧ (∀ x ∈ l, -9223372036854775808 ≤ x.which ∧ x.which ≤ 9223372036854775807) ∧ NilAt W v l := by
  obtain ⟨va, vn, vc, rfl⟩ := hv
  obtain ⟨fuel, h⟩ := h
  have h : DataW.trod enc Try.prog W 0 (fun _ => true) true fuel 22 [.slice va vn vc] = some (d, p) := by simpa [Value.cells] using h
  rcases open_slice_fields Try.underlying22 Try.underlying36 (by kernel_rfl) (by kernel_rfl) h with ⟨hu, he⟩ | ⟨a, len, cap, m, D, Pl, hu, _, hl, _, hm, he, hi⟩
  · injection hu with hu
    rw [hu]
    refine ⟨[], ⟨none, 0, rfl, ?_⟩, ?_, by simp, ?_, ?_, ?_⟩
    · intro k x hk; simp at hk
    · intro x hx; cases hx
    · intro x hx; cases hx
    · intro x hx; cases hx
    · intro k x hk; simp at hk
  · injection hu with hu
    rw [hu]
    simp only [if_true] at hm
    simp only [Prod.mk.injEq] at he
    obtain ⟨rfl, rfl⟩ := he
    simp only [Rows.uptoBulk] at hb
    have hq : ∀ i, i < len → ∃ x : Opr, (∃ b o u, some a = some (⟨b, o, none⟩ : Addr) ∧ b < W.heap.size ∧ W.cell? ⟨b, o + i * 7, none⟩ = some (.int .i64 x.kind) ∧ W.cell? ⟨b, o + i * 7 + 1, none⟩ = some (.int .i64 x.which) ∧
        W.cell? ⟨b, o + i * 7 + 2, none⟩ = some (.int .i64 x.thread) ∧ W.cell? ⟨b, o + i * 7 + 3, none⟩ = some (.int .u64 x.addr) ∧ W.cell? ⟨b, o + i * 7 + 4, none⟩ = some (.int .u64 x.a) ∧ W.cell? ⟨b, o + i * 7 + 5, none⟩ = some (.int .u64 x.b) ∧
        W.cell? ⟨b, o + i * 7 + 6, none⟩ = some u ∧ VA W u x.vals) ∧ x.fits ∧ x.words ∧ (-9223372036854775808 ≤ x.which ∧ x.which ≤ 9223372036854775807) ∧ ∀ m d, W.cell? ⟨a.block, a.off + i * 7 + 6, none⟩ = some (.slice none m d) → d = 0 := by
      intro i hlt
      obtain ⟨ys, n', hD, _, hyl, hf⟩ := hi i (by omega)
      obtain ⟨v0, y0, c0, _, t0⟩ := hf 0 _ rfl
      obtain ⟨v1, y1, c1, _, t1⟩ := hf 1 _ rfl
      obtain ⟨v2, y2, c2, _, t2⟩ := hf 2 _ rfl
      obtain ⟨v3, y3, c3, _, t3⟩ := hf 3 _ rfl
      obtain ⟨v4, y4, c4, _, t4⟩ := hf 4 _ rfl
      obtain ⟨v5, y5, c5, _, t5⟩ := hf 5 _ rfl
      obtain ⟨v6, y6, c6, hy6, t6⟩ := hf 6 _ rfl
      obtain ⟨z0, e0, _, w0⟩ := DataW.trod_int Try.underlying3 t0
      obtain ⟨z1, e1, _, w1⟩ := DataW.trod_int Try.underlying3 t1
      obtain ⟨z2, e2, _, w2⟩ := DataW.trod_int Try.underlying3 t2
      obtain ⟨z3, e3, _, w3⟩ := DataW.trod_int Try.underlying33 t3
      obtain ⟨z4, e4, _, w4⟩ := DataW.trod_int Try.underlying33 t4
      obtain ⟨z5, e5, _, w5⟩ := DataW.trod_int Try.underlying33 t5
      injection e0 with e0; injection e1 with e1; injection e2 with e2; injection e3 with e3; injection e4 with e4; injection e5 with e5
      subst e0 e1 e2 e3 e4 e5
      obtain ⟨vs, hva, hvl, hvw⟩ := vals_words t6
      have hd : Rows.uptoBulk (D i) ≤ Rows.uptoBulkAll ((List.range len).map D) := part_le (List.mem_map.2 ⟨i, List.mem_range.2 hlt, rfl⟩)
      have hd6 : Rows.uptoBulk y6.1 ≤ Rows.uptoBulk (D i) := by
        rw [hD]
        have := part_le (List.mem_map.2 ⟨y6, List.mem_of_getElem? hy6, rfl⟩ : y6.1 ∈ ys.map (·.1))
        simp only [Rows.uptoBulk]; omega
      obtain ⟨ys', n'', _, _, _, hf'⟩ := hi 0 (by omega)
      obtain ⟨v', y', c', _, _⟩ := hf' 0 _ rfl
      obtain ⟨ea, hbk⟩ := cell_form (show W.cell? a = some v' from by simpa [Addr.add] using c')
      rw [ea] at c0 c1 c2 c3 c4 c5 c6
      rw [add_none] at c0 c1 c2 c3 c4 c5 c6
      simp [Lit.wf, IntKind.min, IntKind.max, IntKind.bits, IntKind.signed] at w0 w1 w3 w4 w5
      refine ⟨⟨z0, z1, z2, z3, z4, z5, vs⟩, ⟨a.block, a.off, v6, by rw [← ea], hbk, by simpa using c0, by simpa [Nat.add_assoc] using c1, by simpa [Nat.add_assoc] using c2, by simpa [Nat.add_assoc] using c3, by simpa [Nat.add_assoc] using c4, by simpa [Nat.add_assoc] using c5, by simpa [Nat.add_assoc] using c6, hva⟩, ⟨?_, ?_, ?_, ?_⟩, ⟨⟨?_, ?_⟩, ⟨?_, ?_⟩, hvw⟩, ⟨?_, ?_⟩, ?_⟩
      · show 0 ≤ z3; omega
      · show vs.length ≤ _; omega
      · show _ ≤ z0; omega
      · show z0 ≤ _; omega
      · show 0 ≤ z4; omega
      · show z4 ≤ _; omega
      · show 0 ≤ z5; omega
      · show z5 ≤ _; omega
      · show _ ≤ z1; omega
      · show z1 ≤ _; omega
      · intro m d hc
        have hc6 : W.cell? ⟨a.block, a.off + i * 7 + 6, none⟩ = some v6 := by simpa [Nat.add_assoc] using c6
        rw [hc6] at hc
        injection hc with hc
        exact vals_nil t6 m d hc
    obtain ⟨L, hL, hLq⟩ := choose_list hq
    refine ⟨L, ⟨some a, cap, by rw [hL], fun k x hk => (hLq k x hk).1⟩, ?_, ?_, ?_, ?_, ?_⟩
    · intro x hx
      obtain ⟨k, hk, rfl⟩ := List.getElem_of_mem hx
      exact (hLq k _ (List.getElem?_eq_getElem hk)).2.1
    · have := length_le ((List.range len).map D)
      simp only [List.length_map, List.length_range] at this
      omega
    · intro x hx
      obtain ⟨k, hk, rfl⟩ := List.getElem_of_mem hx
      exact (hLq k _ (List.getElem?_eq_getElem hk)).2.2.1
    · intro x hx
      obtain ⟨k, hk, rfl⟩ := List.getElem_of_mem hx
      exact (hLq k _ (List.getElem?_eq_getElem hk)).2.2.2.1
    · intro k x hk b o n c e m d hc
      injection e with e _ _
      injection e with e
      subst e
      exact (hLq k x hk).2.2.2.2 m d hc
end
end Go.Proofs.Ythggpbbnhjaegaa.sargs

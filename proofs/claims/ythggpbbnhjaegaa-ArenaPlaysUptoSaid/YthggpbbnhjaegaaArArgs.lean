/-
  What an argument script holds: calls, with the values that they hand in. No condition.
-/
import Derived.Test.YthggpbbnhjaegaaArOps
import Derived.Deep.Slices
import Derived.Deep.Fields
import Derived.ChangeSame
import Derived.Lib.SmallJoins
import Derived.ProofKit
import Derived.OpenShut
namespace Go.Proofs.Ythggpbbnhjaegaa.sargs
open Go Go.Joins Go.ChangeShapes Go.WideShapes Go.RowKit Go.Deep
set_option linter.unusedVariables false
set_option maxRecDepth 100000
theorem one_le {H : Type} (d : DataW H) : 1 ≤ Rows.uptoBulk d := by
  cases d with
  | lit l => cases l <;> simp [Rows.uptoBulk]
  | nil => simp [Rows.uptoBulk]
  | ptr d => simp [Rows.uptoBulk]
  | slice elems spare => simp [Rows.uptoBulk]
  | agg parts => simp [Rows.uptoBulk]
  | iface t d => simp [Rows.uptoBulk]
  | map entries => simp [Rows.uptoBulk]
  | held h => simp [Rows.uptoBulk]
theorem part_le {H : Type} {d : DataW H} {l : List (DataW H)} (h : d ∈ l) : Rows.uptoBulk d ≤ Rows.uptoBulkAll l := by
  induction l with
  | nil => cases h
  | cons x r ih =>
    simp only [Rows.uptoBulkAll]
    cases List.mem_cons.1 h with
    | inl e => subst e; omega
    | inr e => have := ih e; omega
theorem length_le {H : Type} (l : List (DataW H)) : l.length ≤ Rows.uptoBulkAll l := by
  induction l with
  | nil => simp [Rows.uptoBulkAll]
  | cons x r ih => have := one_le x; simp only [Rows.uptoBulkAll, List.length_cons]; omega
section
variable {H : Type} {enc : TypeId × Value → H} {P : Program} {w : World} {base : Nat} {spare : Nat → Bool} {held : Bool}
theorem open_slice_fields {t e : TypeId} {fs : Array Field} {fuel : Nat} {cs : List Value} {x : DataW H × List MemPlace} (ht : P.underlying t = some (.slice e)) (he : P.underlying e = some (.struct fs))
    (hone : oneCellFields P fs = true) (hC : P.cellsOf e = fs.size) (h : DataW.trod enc P w base spare held fuel t cs = some x) :
    (cs = [.slice none 0 0] ∧ x = (.nil, [])) ∨
    ∃ (a : Addr) (len cap m : Nat) (D : Nat → DataW H) (Pl : Nat → List MemPlace), cs = [.slice (some a) len cap] ∧ base ≤ a.block ∧ len ≤ cap ∧ cap ≤ maxLen ∧ m = (if spare a.block then cap else len) ∧
      x = (.slice ((List.range len).map D) ((List.range (m - len)).map fun j => D (len + j)), MemPlace.row a (m * fs.size) ++ (List.range m).flatMap Pl) ∧
      ∀ i, i < m → ∃ (ys : List (DataW H × List MemPlace)) (n : Nat), D i = .agg (ys.map (·.1)) ∧ Pl i = ys.flatMap (·.2) ∧ ys.length = fs.size ∧
        ∀ (j : Nat) (f : Field), fs[j]? = some f → ∃ (v : Value) (y : DataW H × List MemPlace), w.cell? (a.add (i * fs.size + j)) = some v ∧ ys[j]? = some y ∧ DataW.trod enc P w base spare held n f.type [v] = some y := by
  rcases open_slice ht h with h0 | ⟨a, len, cap, m, n, D, Pl, hcs, hb, hl, hm, hmm, hx, hi⟩
  · exact .inl h0
  · refine .inr ⟨a, len, cap, m, D, Pl, hcs, hb, hl, hm, hmm, by rw [hC] at hx; exact hx, fun i him => ?_⟩
    obtain ⟨cs', hc, ht'⟩ := hi i him
    rw [hC] at hc
    obtain ⟨ys, n', hn', hy, hlen, hyl, hf⟩ := DataW.trod_struct he ht'
    obtain ⟨_, hcl, hat⟩ := World.cells?_some hc
    simp only [Prod.mk.injEq] at hy
    refine ⟨ys, n', hy.1, hy.2, hyl, fun j f hj => ?_⟩
    obtain ⟨ho, hk⟩ := hone_of hone j f hj
    have hjl : j < fs.size := (Array.getElem?_eq_some_iff.1 hj).1
    have hcell := hat j hjl
    have hv : cs'[j]? = some (cs'[j]'(by omega)) := List.getElem?_eq_getElem (by omega)
    have h1 := hf j f hj
    rw [ho, hk] at h1
    have hone' : (cs'.drop j).take 1 = [cs'[j]'(by omega)] := by
      rw [List.drop_eq_getElem_cons (by omega)]
      rfl
    rw [hone'] at h1
    have hys : ys[j]? = some (ys[j]'(by omega)) := List.getElem?_eq_getElem (by omega)
    refine ⟨_, _, ?_, hys, h1.trans hys⟩
    rw [← Go.Deep.add_add, hcell, hv]
end
theorem add_none (b o i : Nat) : (⟨b, o, none⟩ : Addr).add i = ⟨b, o + i, none⟩ := by
  unfold Addr.add; split <;> simp_all
theorem cell_form {w : World} {a : Addr} {v : Value} (h : w.cell? a = some v) : a = ⟨a.block, a.off, none⟩ ∧ a.block < w.heap.size := by
  refine ⟨?_, ?_⟩
  · obtain ⟨b, o, s⟩ := a
    have hs : s = none := by simpa using World.cell?_spot h
    subst hs; rfl
  · rcases Nat.lt_or_ge a.block w.heap.size with h1 | h1
    · exact h1
    · simp [World.cell?, Array.getElem?_eq_none h1] at h
theorem choose_list {α : Type} {n : Nat} {Q : Nat → α → Prop} (h : ∀ i, i < n → ∃ x, Q i x) : ∃ L : List α, L.length = n ∧ ∀ (i : Nat) (x : α), L[i]? = some x → Q i x := by
  induction n with
  | zero => exact ⟨[], rfl, fun i x hx => by simp at hx⟩
  | succ n ih =>
    obtain ⟨L, hl, hL⟩ := ih (fun i hi => h i (by omega))
    obtain ⟨x, hx⟩ := h n (by omega)
    refine ⟨L ++ [x], by simp [hl], fun i y hy => ?_⟩
    by_cases hi : i < n
    · rw [List.getElem?_append_left (by omega)] at hy
      exact hL i y hy
    · have := (List.getElem?_eq_some_iff.1 hy).1
      obtain rfl : i = n := by simp at this; omega
      rw [List.getElem?_append_right (by omega), hl] at hy
      simp at hy
      subst hy; exact hx
section
variable {H : Type} {enc : TypeId × Value → H} {W : World}
theorem vals_words {n : Nat} {u : Value} {x : DataW H × List MemPlace} (h : DataW.trod enc Try.prog W 0 (fun _ => true) true n 34 [u] = some x) : ∃ vs : List Int, VA W u vs ∧ vs.length + 1 ≤ Rows.uptoBulk x.1 ∧ ∀ y ∈ vs, 0 ≤ y ∧ y ≤ 18446744073709551615 := by
  rcases open_ints Try.underlying34 Try.underlying33 (by kernel_rfl) h with ⟨hu, rfl⟩ | ⟨a, len, cap, zs, hu, _, hl, _, hz, rfl, hcell, hwf⟩
  · injection hu with hu; subst hu
    exact ⟨[], ⟨none, 0, rfl, .inl rfl⟩, by simp [Rows.uptoBulk], by intro y hy; cases hy⟩
  · injection hu with hu; subst hu
    simp only [if_true] at hz
    refine ⟨zs.take len, ⟨some a, cap, by simp; omega, ?_⟩, ?_, ?_⟩
    · by_cases h0 : len = 0
      · left; subst h0; simp
      · right
        have hc0 := hcell 0 (by omega)
        obtain ⟨ea, hbl⟩ := cell_form (show W.cell? a = _ from by simpa [Addr.add] using hc0)
        refine ⟨a, rfl, hbl, fun j v hj => ?_⟩
        have hjl := (List.getElem?_eq_some_iff.1 hj).1
        simp [us] at hjl
        have hc := hcell j (by omega)
        rw [hc, ← hj]
        simp [us, List.getD_eq_getElem?_getD, List.getElem?_take_of_lt (show j < len by omega), show j < zs.length by omega]
    · have := length_le (lits (H := H) .u64 (zs.take len))
      simp only [Rows.uptoBulk]
      simp only [lits, List.length_map, List.length_take] at this ⊢
      omega
    · intro y hy
      have := hwf y (List.mem_of_mem_take hy)
      simp [Lit.wf, IntKind.min, IntKind.max, IntKind.bits, IntKind.signed] at this
      omega
theorem vals_of {n : Nat} {u : Value} {x : DataW H × List MemPlace} (h : DataW.trod enc Try.prog W 0 (fun _ => true) true n 34 [u] = some x) : ∃ vs : List Int, VA W u vs ∧ vs.length + 1 ≤ Rows.uptoBulk x.1 := by
  rcases open_ints Try.underlying34 Try.underlying33 (by kernel_rfl) h with ⟨hu, rfl⟩ | ⟨a, len, cap, zs, hu, _, hl, _, hz, rfl, hcell, _⟩
  · injection hu with hu; subst hu
    exact ⟨[], ⟨none, 0, rfl, .inl rfl⟩, by simp [Rows.uptoBulk]⟩
  · injection hu with hu; subst hu
    simp only [if_true] at hz
    refine ⟨zs.take len, ⟨some a, cap, by simp; omega, ?_⟩, ?_⟩
    · by_cases h0 : len = 0
      · left; subst h0; simp
      · right
        have hc0 := hcell 0 (by omega)
        obtain ⟨ea, hbl⟩ := cell_form (show W.cell? a = _ from by simpa [Addr.add] using hc0)
        refine ⟨a, rfl, hbl, fun j v hj => ?_⟩
        have hjl := (List.getElem?_eq_some_iff.1 hj).1
        simp [us] at hjl
        have hc := hcell j (by omega)
        rw [hc, ← hj]
        simp [us, List.getD_eq_getElem?_getD, List.getElem?_take_of_lt (show j < len by omega), show j < zs.length by omega]
    · have := length_le (lits (H := H) .u64 (zs.take len))
      simp only [Rows.uptoBulk]
      simp only [lits, List.length_map, List.length_take] at this ⊢
      omega
theorem script_words {v : Value} {d : DataW H} {p : List MemPlace} (hv : ∃ a n c, v = .slice a n c) (h : DataW.Trod enc Try.prog W 0 (fun _ => true) true 22 v d p) (hb : Rows.uptoBulk d ≤ 1048576) :
    ∃ l : List Opr, ScriptAt W v l ∧ (∀ x ∈ l, x.fits) ∧ l.length ≤ 1048576 ∧ ∀ x ∈ l, (0 ≤ x.a ∧ x.a ≤ 18446744073709551615) ∧ (0 ≤ x.b ∧ x.b ≤ 18446744073709551615) ∧ ∀ y ∈ x.vals, 0 ≤ y ∧ y ≤ 18446744073709551615 := by
  obtain ⟨va, vn, vc, rfl⟩ := hv
  obtain ⟨fuel, h⟩ := h
  have h : DataW.trod enc Try.prog W 0 (fun _ => true) true fuel 22 [.slice va vn vc] = some (d, p) := by simpa [Value.cells] using h
  rcases open_slice_fields Try.underlying22 Try.underlying36 (by kernel_rfl) (by kernel_rfl) h with ⟨hu, he⟩ | ⟨a, len, cap, m, D, Pl, hu, _, hl, _, hm, he, hi⟩
  · injection hu with hu
    rw [hu]
    refine ⟨[], ⟨none, 0, rfl, ?_⟩, ?_, by simp, ?_⟩
    · intro k x hk; simp at hk
    · intro x hx; cases hx
    · intro x hx; cases hx
  · injection hu with hu
    rw [hu]
    simp only [if_true] at hm
    simp only [Prod.mk.injEq] at he
    obtain ⟨rfl, rfl⟩ := he
    simp only [Rows.uptoBulk] at hb
    have hq : ∀ i, i < len → ∃ x : Opr, (∃ b o u, some a = some (⟨b, o, none⟩ : Addr) ∧ b < W.heap.size ∧ W.cell? ⟨b, o + i * 7, none⟩ = some (.int .i64 x.kind) ∧ W.cell? ⟨b, o + i * 7 + 1, none⟩ = some (.int .i64 x.which) ∧
        W.cell? ⟨b, o + i * 7 + 2, none⟩ = some (.int .i64 x.thread) ∧ W.cell? ⟨b, o + i * 7 + 3, none⟩ = some (.int .u64 x.addr) ∧ W.cell? ⟨b, o + i * 7 + 4, none⟩ = some (.int .u64 x.a) ∧ W.cell? ⟨b, o + i * 7 + 5, none⟩ = some (.int .u64 x.b) ∧
        W.cell? ⟨b, o + i * 7 + 6, none⟩ = some u ∧ VA W u x.vals) ∧ x.fits ∧ (0 ≤ x.a ∧ x.a ≤ 18446744073709551615) ∧ (0 ≤ x.b ∧ x.b ≤ 18446744073709551615) ∧ ∀ y ∈ x.vals, 0 ≤ y ∧ y ≤ 18446744073709551615 := by
      intro i hlt
      obtain ⟨ys, n', hD, _, hyl, hf⟩ := hi i (by omega)
      obtain ⟨v0, y0, c0, _, t0⟩ := hf 0 _ rfl
      obtain ⟨v1, y1, c1, _, t1⟩ := hf 1 _ rfl
      obtain ⟨v2, y2, c2, _, t2⟩ := hf 2 _ rfl
      obtain ⟨v3, y3, c3, _, t3⟩ := hf 3 _ rfl
      obtain ⟨v4, y4, c4, _, t4⟩ := hf 4 _ rfl
      obtain ⟨v5, y5, c5, _, t5⟩ := hf 5 _ rfl
      obtain ⟨v6, y6, c6, hy6, t6⟩ := hf 6 _ rfl
      obtain ⟨z0, e0, _, w0⟩ := DataW.trod_int Try.underlying3 t0
      obtain ⟨z1, e1, _, w1⟩ := DataW.trod_int Try.underlying3 t1
      obtain ⟨z2, e2, _, w2⟩ := DataW.trod_int Try.underlying3 t2
      obtain ⟨z3, e3, _, w3⟩ := DataW.trod_int Try.underlying33 t3
      obtain ⟨z4, e4, _, w4⟩ := DataW.trod_int Try.underlying33 t4
      obtain ⟨z5, e5, _, w5⟩ := DataW.trod_int Try.underlying33 t5
      injection e0 with e0; injection e1 with e1; injection e2 with e2; injection e3 with e3; injection e4 with e4; injection e5 with e5
      subst e0 e1 e2 e3 e4 e5
      obtain ⟨vs, hva, hvl, hvw⟩ := vals_words t6
      have hd : Rows.uptoBulk (D i) ≤ Rows.uptoBulkAll ((List.range len).map D) := part_le (List.mem_map.2 ⟨i, List.mem_range.2 hlt, rfl⟩)
      have hd6 : Rows.uptoBulk y6.1 ≤ Rows.uptoBulk (D i) := by
        rw [hD]
        have := part_le (List.mem_map.2 ⟨y6, List.mem_of_getElem? hy6, rfl⟩ : y6.1 ∈ ys.map (·.1))
        simp only [Rows.uptoBulk]; omega
      obtain ⟨ys', n'', _, _, _, hf'⟩ := hi 0 (by omega)
      obtain ⟨v', y', c', _, _⟩ := hf' 0 _ rfl
      obtain ⟨ea, hbk⟩ := cell_form (show W.cell? a = some v' from by simpa [Addr.add] using c')
      rw [ea] at c0 c1 c2 c3 c4 c5 c6
      rw [add_none] at c0 c1 c2 c3 c4 c5 c6
      simp [Lit.wf, IntKind.min, IntKind.max, IntKind.bits, IntKind.signed] at w0 w3 w4 w5
      refine ⟨⟨z0, z1, z2, z3, z4, z5, vs⟩, ⟨a.block, a.off, v6, by rw [← ea], hbk, by simpa using c0, by simpa [Nat.add_assoc] using c1, by simpa [Nat.add_assoc] using c2, by simpa [Nat.add_assoc] using c3, by simpa [Nat.add_assoc] using c4, by simpa [Nat.add_assoc] using c5, by simpa [Nat.add_assoc] using c6, hva⟩, ⟨?_, ?_, ?_, ?_⟩, ?_, ?_, hvw⟩
      · show 0 ≤ z3; omega
      · show vs.length ≤ _; omega
      · show _ ≤ z0; omega
      · show z0 ≤ _; omega
      · show 0 ≤ z4 ∧ z4 ≤ _; omega
      · show 0 ≤ z5 ∧ z5 ≤ _; omega
    obtain ⟨L, hL, hLq⟩ := choose_list hq
    refine ⟨L, ⟨some a, cap, by rw [hL], fun k x hk => (hLq k x hk).1⟩, ?_, ?_, ?_⟩
    · intro x hx
      obtain ⟨k, hk, rfl⟩ := List.getElem_of_mem hx
      exact (hLq k _ (List.getElem?_eq_getElem hk)).2.1
    · have := length_le ((List.range len).map D)
      simp only [List.length_map, List.length_range] at this
      omega
    · intro x hx
      obtain ⟨k, hk, rfl⟩ := List.getElem_of_mem hx
      exact (hLq k _ (List.getElem?_eq_getElem hk)).2.2
theorem script_of {v : Value} {d : DataW H} {p : List MemPlace} (hv : ∃ a n c, v = .slice a n c) (h : DataW.Trod enc Try.prog W 0 (fun _ => true) true 22 v d p) (hb : Rows.uptoBulk d ≤ 1048576) :
    ∃ l : List Opr, ScriptAt W v l ∧ (∀ x ∈ l, x.fits) ∧ l.length ≤ 1048576 := let ⟨l, h1, h2, h3, _⟩ := script_words hv h hb; ⟨l, h1, h2, h3⟩
end
end Go.Proofs.Ythggpbbnhjaegaa.sargs

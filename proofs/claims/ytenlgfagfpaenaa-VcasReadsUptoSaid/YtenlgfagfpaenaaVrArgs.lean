/-
  What an argument Run holds: threads of calls, picks. No condition.
-/
import Derived.Test.YtenlgfagfpaenaaVrReads
import Derived.Deep.Slices
import Derived.Deep.Fields
import Derived.ChangeSame
import Derived.Lib.SmallJoins
import Derived.ProofKit
import Derived.OpenShut
namespace Go.Proofs.Ytenlgfagfpaenaa.rargs
open Go Go.Joins Go.ChangeShapes Go.WideShapes Go.RowKit Go.Deep
set_option linter.unusedVariables false
set_option maxRecDepth 100000
theorem one_le {H : Type} (d : DataW H) : 1 ≤ Rows.uptoBulk d := by
  cases d with
  | lit l => cases l <;> simp [Rows.uptoBulk]
  | nil => simp [Rows.uptoBulk]
  | ptr d => simp [Rows.uptoBulk]
  | slice elems spare => simp [Rows.uptoBulk]
  | agg parts => simp [Rows.uptoBulk]
  | iface t d => simp [Rows.uptoBulk]
  | map entries => simp [Rows.uptoBulk]
  | held h => simp [Rows.uptoBulk]
theorem part_le {H : Type} {d : DataW H} {l : List (DataW H)} (h : d ∈ l) : Rows.uptoBulk d ≤ Rows.uptoBulkAll l := by
  induction l with
  | nil => cases h
  | cons x r ih =>
    simp only [Rows.uptoBulkAll]
    cases List.mem_cons.1 h with
    | inl e => subst e; omega
    | inr e => have := ih e; omega
theorem length_le {H : Type} (l : List (DataW H)) : l.length ≤ Rows.uptoBulkAll l := by
  induction l with
  | nil => simp [Rows.uptoBulkAll]
  | cons x r ih => have := one_le x; simp only [Rows.uptoBulkAll, List.length_cons]; omega
section
variable {H : Type} {enc : TypeId × Value → H} {P : Program} {w : World} {base : Nat} {spare : Nat → Bool} {held : Bool}
theorem open_slice_fields {t e : TypeId} {fs : Array Field} {fuel : Nat} {cs : List Value} {x : DataW H × List MemPlace} (ht : P.underlying t = some (.slice e)) (he : P.underlying e = some (.struct fs))
    (hone : oneCellFields P fs = true) (hC : P.cellsOf e = fs.size) (h : DataW.trod enc P w base spare held fuel t cs = some x) :
    (cs = [.slice none 0 0] ∧ x = (.nil, [])) ∨
    ∃ (a : Addr) (len cap m : Nat) (D : Nat → DataW H) (Pl : Nat → List MemPlace), cs = [.slice (some a) len cap] ∧ base ≤ a.block ∧ len ≤ cap ∧ cap ≤ maxLen ∧ m = (if spare a.block then cap else len) ∧
      x = (.slice ((List.range len).map D) ((List.range (m - len)).map fun j => D (len + j)), MemPlace.row a (m * fs.size) ++ (List.range m).flatMap Pl) ∧
      ∀ i, i < m → ∃ (ys : List (DataW H × List MemPlace)) (n : Nat), D i = .agg (ys.map (·.1)) ∧ Pl i = ys.flatMap (·.2) ∧ ys.length = fs.size ∧
        ∀ (j : Nat) (f : Field), fs[j]? = some f → ∃ (v : Value) (y : DataW H × List MemPlace), w.cell? (a.add (i * fs.size + j)) = some v ∧ ys[j]? = some y ∧ DataW.trod enc P w base spare held n f.type [v] = some y := by
  rcases open_slice ht h with h0 | ⟨a, len, cap, m, n, D, Pl, hcs, hb, hl, hm, hmm, hx, hi⟩
  · exact .inl h0
  · refine .inr ⟨a, len, cap, m, D, Pl, hcs, hb, hl, hm, hmm, by rw [hC] at hx; exact hx, fun i him => ?_⟩
    obtain ⟨cs', hc, ht'⟩ := hi i him
    rw [hC] at hc
    obtain ⟨ys, n', hn', hy, hlen, hyl, hf⟩ := DataW.trod_struct he ht'
    obtain ⟨_, hcl, hat⟩ := World.cells?_some hc
    simp only [Prod.mk.injEq] at hy
    refine ⟨ys, n', hy.1, hy.2, hyl, fun j f hj => ?_⟩
    obtain ⟨ho, hk⟩ := hone_of hone j f hj
    have hjl : j < fs.size := (Array.getElem?_eq_some_iff.1 hj).1
    have hcell := hat j hjl
    have hv : cs'[j]? = some (cs'[j]'(by omega)) := List.getElem?_eq_getElem (by omega)
    have h1 := hf j f hj
    rw [ho, hk] at h1
    have hone' : (cs'.drop j).take 1 = [cs'[j]'(by omega)] := by
      rw [List.drop_eq_getElem_cons (by omega)]
      rfl
    rw [hone'] at h1
    have hys : ys[j]? = some (ys[j]'(by omega)) := List.getElem?_eq_getElem (by omega)
    refine ⟨_, _, ?_, hys, h1.trans hys⟩
    rw [← Go.Deep.add_add, hcell, hv]
end
theorem add_none (b o i : Nat) : (⟨b, o, none⟩ : Addr).add i = ⟨b, o + i, none⟩ := by
  unfold Addr.add; split <;> simp_all
theorem cell_form {w : World} {a : Addr} {v : Value} (h : w.cell? a = some v) : a = ⟨a.block, a.off, none⟩ ∧ a.block < w.heap.size := by
  refine ⟨?_, ?_⟩
  · obtain ⟨b, o, s⟩ := a
    have hs : s = none := by simpa using World.cell?_spot h
    subst hs; rfl
  · rcases Nat.lt_or_ge a.block w.heap.size with h1 | h1
    · exact h1
    · simp [World.cell?, Array.getElem?_eq_none h1] at h
theorem choose_list {α : Type} {n : Nat} {Q : Nat → α → Prop} (h : ∀ i, i < n → ∃ x, Q i x) : ∃ L : List α, L.length = n ∧ ∀ (i : Nat) (x : α), L[i]? = some x → Q i x := by
  induction n with
  | zero => exact ⟨[], rfl, fun i x hx => by simp at hx⟩
  | succ n ih =>
    obtain ⟨L, hl, hL⟩ := ih (fun i hi => h i (by omega))
    obtain ⟨x, hx⟩ := h n (by omega)
    refine ⟨L ++ [x], by simp [hl], fun i y hy => ?_⟩
    by_cases hi : i < n
    · rw [List.getElem?_append_left (by omega)] at hy
      exact hL i y hy
    · have := (List.getElem?_eq_some_iff.1 hy).1
      obtain rfl : i = n := by simp at this; omega
      rw [List.getElem?_append_right (by omega), hl] at hy
      simp at hy
      subst hy; exact hx
section
variable {H : Type} {enc : TypeId × Value → H} {W : World}
theorem calls_of {n : Nat} {u : Value} {x : DataW H × List MemPlace} (h : DataW.trod enc Try.prog W 0 (fun _ => true) true n 77 [u] = some x) :
    ∃ l : List Cl, RdC W u l ∧ l.length + 1 ≤ Rows.uptoBulk x.1 ∧ ∀ y ∈ l, 0 ≤ y.obj ∧ 0 ≤ y.a ∧ 0 ≤ y.b := by
  rcases open_slice_fields Try.underlying77 Try.underlying76 (by kernel_rfl) (by kernel_rfl) h with ⟨hu, rfl⟩ | ⟨a, len, cap, m, D, Pl, hu, _, hl, _, hm, rfl, hi⟩
  · injection hu with hu; subst hu
    exact ⟨[], ⟨none, 0, rfl, fun k x hk => by simp at hk⟩, by simp [Rows.uptoBulk], fun y hy => by cases hy⟩
  · injection hu with hu; subst hu
    simp only [if_true] at hm
    have hq : ∀ i, i < len → ∃ y : Cl, (∃ b o, some a = some (⟨b, o, none⟩ : Addr) ∧ b < W.heap.size ∧ W.cell? ⟨b, o + i * 4, none⟩ = some (.int .i64 y.kind) ∧ W.cell? ⟨b, o + i * 4 + 1, none⟩ = some (.int .u64 y.obj) ∧ W.cell? ⟨b, o + i * 4 + 2, none⟩ = some (.int .u64 y.a) ∧ W.cell? ⟨b, o + i * 4 + 3, none⟩ = some (.int .u64 y.b)) ∧ 0 ≤ y.obj ∧ 0 ≤ y.a ∧ 0 ≤ y.b := by
      intro i hlt
      obtain ⟨ys, n', _, _, _, hf⟩ := hi i (by omega)
      obtain ⟨v0, y0, c0, _, t0⟩ := hf 0 _ rfl
      obtain ⟨v1, y1, c1, _, t1⟩ := hf 1 _ rfl
      obtain ⟨v2, y2, c2, _, t2⟩ := hf 2 _ rfl
      obtain ⟨v3, y3, c3, _, t3⟩ := hf 3 _ rfl
      obtain ⟨z0, e0, _, _⟩ := DataW.trod_int Try.underlying3 t0
      obtain ⟨z1, e1, _, hz1⟩ := DataW.trod_int Try.underlying23 t1
      obtain ⟨z2, e2, _, hz2⟩ := DataW.trod_int Try.underlying23 t2
      obtain ⟨z3, e3, _, hz3⟩ := DataW.trod_int Try.underlying23 t3
      injection e0 with e0; injection e1 with e1; injection e2 with e2; injection e3 with e3
      subst e0 e1 e2 e3
      obtain ⟨ys', n'', _, _, _, hf'⟩ := hi 0 (by omega)
      obtain ⟨v', y', c', _, _⟩ := hf' 0 _ rfl
      obtain ⟨ea, hb⟩ := cell_form (show W.cell? a = some v' from by simpa [Addr.add] using c')
      refine ⟨⟨z0, z1, z2, z3⟩, ⟨a.block, a.off, by rw [← ea], hb, ?_, ?_, ?_, ?_⟩, ?_⟩
      · rw [ea, add_none] at c0; simpa using c0
      · rw [ea, add_none] at c1; simpa [Nat.add_assoc] using c1
      · rw [ea, add_none] at c2; simpa [Nat.add_assoc] using c2
      · rw [ea, add_none] at c3; simpa [Nat.add_assoc] using c3
      · simp [Lit.wf, IntKind.min, IntKind.max, IntKind.bits, IntKind.signed] at hz1 hz2 hz3; exact ⟨hz1.1, hz2.1, hz3.1⟩
    obtain ⟨L, hL, hLq⟩ := choose_list hq
    refine ⟨L, ⟨some a, cap, by rw [hL], fun k x hk => (hLq k x hk).1⟩, ?_, ?_⟩
    · have := length_le ((List.range len).map D)
      simp only [Rows.uptoBulk, List.length_map, List.length_range] at this ⊢
      omega
    · intro y hy
      obtain ⟨k, hk, rfl⟩ := List.getElem_of_mem hy
      exact (hLq k _ (List.getElem?_eq_getElem hk)).2
theorem threads_of {n : Nat} {u : Value} {x : DataW H × List MemPlace} (h : DataW.trod enc Try.prog W 0 (fun _ => true) true n 53 [u] = some x) (hb : Rows.uptoBulk x.1 ≤ 1048576) :
    ∃ th : List (List Cl), RdT W u th ∧ th.length ≤ 1048576 ∧ (∀ l ∈ th, l.length ≤ 1048576) ∧ CallsOK th := by
  rcases open_slice Try.underlying53 h with ⟨hu, rfl⟩ | ⟨a, len, cap, m, n', D, Pl, hu, _, hl, _, hm, rfl, hi⟩
  · injection hu with hu; subst hu
    exact ⟨[], ⟨none, 0, rfl, fun k x hk => by simp at hk⟩, by simp, by simp, fun l hl => by cases hl⟩
  · injection hu with hu; subst hu
    simp only [if_true] at hm
    simp only [Rows.uptoBulk] at hb
    have hc : Try.prog.cellsOf 77 = 1 := by kernel_rfl
    have hq : ∀ i, i < len → ∃ l : List Cl, (∃ b o u, some a = some (⟨b, o, none⟩ : Addr) ∧ b < W.heap.size ∧ W.cell? ⟨b, o + i, none⟩ = some u ∧ RdC W u l) ∧ l.length ≤ 1048576 ∧ ∀ y ∈ l, 0 ≤ y.obj ∧ 0 ≤ y.a ∧ 0 ≤ y.b := by
      intro i hlt
      obtain ⟨cs', hcs, ht⟩ := hi i (by omega)
      rw [hc] at hcs
      obtain ⟨_, hcl, hat⟩ := World.cells?_some hcs
      obtain ⟨u, rfl⟩ : ∃ u, cs' = [u] := by
        match cs', hcl with
        | [u], _ => exact ⟨u, rfl⟩
      have hcell : W.cell? (a.add i) = some u := by simpa [Addr.add] using hat 0 (by decide)
      obtain ⟨l, k1, k2, k3⟩ := calls_of ht
      obtain ⟨cs0, hcs0, _⟩ := hi 0 (by omega)
      rw [hc] at hcs0
      obtain ⟨_, hcl0, hat0⟩ := World.cells?_some hcs0
      obtain ⟨u0, rfl⟩ : ∃ u, cs0 = [u] := by
        match cs0, hcl0 with
        | [u], _ => exact ⟨u, rfl⟩
      obtain ⟨ea, hbl⟩ := cell_form (show W.cell? a = some u0 from by simpa [Addr.add] using hat0 0 (by decide))
      have hd : Rows.uptoBulk (D i) ≤ Rows.uptoBulkAll ((List.range len).map D) := part_le (List.mem_map.2 ⟨i, List.mem_range.2 hlt, rfl⟩)
      refine ⟨l, ⟨a.block, a.off, u, by rw [← ea], hbl, ?_, k1⟩, ?_, k3⟩
      · rw [ea, add_none] at hcell; exact hcell
      · simp only at k2; omega
    obtain ⟨L, hL, hLq⟩ := choose_list hq
    refine ⟨L, ⟨some a, cap, by rw [hL], fun k x hk => (hLq k x hk).1⟩, ?_, ?_, ?_⟩
    · have := length_le ((List.range len).map D)
      simp only [List.length_map, List.length_range] at this
      omega
    · intro l hl
      obtain ⟨k, hk, rfl⟩ := List.getElem_of_mem hl
      exact (hLq k _ (List.getElem?_eq_getElem hk)).2.1
    · intro l hl
      obtain ⟨k, hk, rfl⟩ := List.getElem_of_mem hl
      exact (hLq k _ (List.getElem?_eq_getElem hk)).2.2
theorem picks_of {n : Nat} {u : Value} {x : DataW H × List MemPlace} (h : DataW.trod enc Try.prog W 0 (fun _ => true) true n 54 [u] = some x) (hb : Rows.uptoBulk x.1 ≤ 1048576) :
    ∃ l : List Int, RdI W u l ∧ l.length ≤ 1048576 := by
  rcases open_ints Try.underlying54 Try.underlying3 (by kernel_rfl) h with ⟨hu, rfl⟩ | ⟨a, len, cap, zs, hu, _, hl, _, hz, rfl, hcell, _⟩
  · injection hu with hu; subst hu
    exact ⟨[], ⟨none, 0, rfl, fun k x hk => by simp at hk⟩, by simp⟩
  · injection hu with hu; subst hu
    simp only [if_true] at hz
    refine ⟨zs.take len, ⟨some a, cap, by simp; omega, fun k x hk => ?_⟩, ?_⟩
    · have hkl := (List.getElem?_eq_some_iff.1 hk).1
      simp only [List.length_take] at hkl
      have hc := hcell k (by omega)
      have hx : zs.getD k 0 = x := by
        rw [List.getElem?_take_of_lt (by omega)] at hk
        rw [List.getD_eq_getElem?_getD, hk]; rfl
      rw [hx] at hc
      have hc0 := hcell 0 (by omega)
      obtain ⟨ea, hbl⟩ := cell_form (show W.cell? a = _ from by simpa [Addr.add] using hc0)
      refine ⟨a.block, a.off, by rw [← ea], hbl, ?_⟩
      rw [ea, add_none] at hc; exact hc
    · have := length_le (lits (H := H) .i64 (zs.take len))
      simp only [Rows.uptoBulk] at hb
      simp only [lits, List.length_map, List.length_take] at this ⊢
      simp only [lits] at hb
      omega
set_option maxRecDepth 100000 in
/-- a Run -/
theorem run_of {b0 : Nat} {v : Value} {d : DataW H} {p : List MemPlace} (hv : Value.okWide Try.prog W .any b0 56 v) (h : DataW.Trod enc Try.prog W 0 (fun _ => true) true 56 v d p) (hb : Rows.uptoBulk d ≤ 1048576) :
    ∃ (tv pv : Value) (ll : List (List Cl)) (vs : List Int), v = .agg #[tv, pv] ∧ RdT W tv ll ∧ RdI W pv vs ∧ ll.length ≤ 1048576 ∧ (∀ l ∈ ll, l.length ≤ 1048576) ∧ vs.length ≤ 1048576 ∧ CallsOK ll := by
  obtain ⟨v0, v1, y0, y1, n, rfl, rfl, _, g0, g1⟩ := open_agg2 Try.underlying56 (by kernel_rfl) (by kernel_rfl) hv h
  simp only [Rows.uptoBulk, Rows.uptoBulkAll] at hb
  obtain ⟨th, k1, k2, k3, k4⟩ := threads_of g0 (by omega)
  obtain ⟨picks, k5, k6⟩ := picks_of g1 (by omega)
  exact ⟨v0, v1, th, picks, rfl, k1, k5, k2, k3, k6, k4⟩
end
end Go.Proofs.Ytenlgfagfpaenaa.rargs

/-
  Two rows of pointers that grow side by side: each by one value that was made anew. No condition.
-/
import Derived.Test.YthggpbbnhjaegaaArCall
import Derived.ArgAppend
import Derived.Deep.DeepAppendRoom
namespace Go.Proofs.Ythggpbbnhjaegaa
open Go Go.RowKit
set_option linter.unusedSimpArgs false
set_option linter.unusedVariables false
theorem ownRow_lo {w : World} {B B' n k : Nat} {t : TypeId} {v : Value} {xs : List Value} (h : w.ownsRow B t k v n xs) (hB : B' ≤ B) : w.ownsRow B' t k v n xs := by
  refine ⟨h.1, ?_⟩
  rcases h.2 with h | ⟨g, cap, cur, h1, h2, h3⟩
  · exact .inl h
  · exact .inr ⟨g, cap, cur, h1, Nat.le_trans hB h2, h3⟩
theorem ownRow_at {w : World} {B n k : Nat} {t : TypeId} {v : Value} {xs : List Value} (h : w.ownsRow B t k v (n + 1) xs) : ∃ g c, v = .slice (some ⟨g, 0, none⟩) (n + 1) c := by
  rcases h.2 with ⟨_, h⟩ | ⟨g, cap, cur, h1, h2, h3⟩
  · omega
  · exact ⟨g, cap, h1⟩
theorem ownRow_cell {w : World} {B n g c : Nat} {t : TypeId} {xs : List Value} (h : w.ownsRow B t 1 (.slice (some ⟨g, 0, none⟩) n c) n xs) {j : Nat} {u : Value} (hu : xs[j]? = some u) : w.cell? ⟨g, j, none⟩ = some u := by
  have h1 := h.cells (g := g) rfl j u hu
  have e : ((⟨g, 0, none⟩ : Addr).add j) = ⟨g, j, none⟩ := by unfold Addr.add; split <;> simp_all
  rwa [e] at h1
/-- one pointer more: in its own block where there is room, else in a new one -/
theorem run_one {w : World} {B g n c k : Nat} {t e ty : TypeId} {i : TypeInfo} {z : Value} {xs : List Value} {u : Value} {c1 : Nat} (ht : Try.prog.underlying t = some (.slice e)) (hi : Try.prog.info? e = some i) (hz : i.zero = some z) (hs : i.size = 1) (hby : i.bytes = 8) (hzs : z.cells.size = 1)
    (h1 : u.oneCell' = true) (hown : w.ownsRow B e 1 (.slice (some ⟨g, 0, none⟩) n c) n xs) (hk : w.cell? ⟨k, 0, none⟩ = some u) (hn : n ≤ 1000000000) (hB : B ≤ w.heap.size) :
    ∃ g' c' w', (Builtin.append_ #[t, t] ty #[.slice (some ⟨g, 0, none⟩) n c, .slice (some ⟨k, 0, none⟩) 1 c1]).run Try.prog w = .ok (.slice (some ⟨g', 0, none⟩) (n + 1) c') w' ∧
      w'.ownsRow B e 1 (.slice (some ⟨g', 0, none⟩) (n + 1) c') (n + 1) (xs ++ [u]) ∧ w.grownBy w' (some g) ∧ (g' = g ∨ w.heap.size ≤ g') ∧ ∀ j y, xs[j]? = some y → w'.cell? ⟨g, j, none⟩ = some y := by
  have hnews : ∀ j y, [u][j]? = some y → w.cell? ((⟨k, 0, none⟩ : Addr).add j) = some y := by
    intro j y hy
    match j, hy with
    | 0, hy =>
      have e : ((⟨k, 0, none⟩ : Addr).add 0) = ⟨k, 0, none⟩ := by unfold Addr.add; split <;> simp_all
      rw [e, hk]; exact hy
    | j + 1, hy => simp at hy
  have hone : ∀ y ∈ [u], y.oneCell' = true := fun y hy => by rw [List.mem_singleton.1 hy]; exact h1
  by_cases hroom : n + 1 ≤ c
  · obtain ⟨w', hr, h2, h3⟩ := run_append_own_spare (P := Try.prog) w B t ty e i 1 ht hi hs g n c xs hown ⟨k, 0, none⟩ 1 c1 [u] (by simp) hnews hone hroom
    refine ⟨g, c, w', hr, h2, h3, .inl rfl, fun j y hj => ownRow_cell h2 ?_⟩
    rw [List.getElem?_append_left (List.getElem?_eq_some_iff.1 hj).1]; exact hj
  · obtain ⟨v', w', hr, h2, h3⟩ := run_append_arg_grows (P := Try.prog) w t ty e i z 1 8 ht hi hz hs hby hzs (by decide) ⟨g, 0, none⟩ n c xs hown.1 (fun j y hj => hown.cells (g := g) rfl j y hj) ⟨k, 0, none⟩ 1 c1 [u] (by simp) hnews (by omega) (by unfold maxLen; omega) (by omega)
    obtain ⟨g', c', rfl⟩ := ownRow_at h2
    have hl := h2.lt g' rfl
    refine ⟨g', c', w', hr, ownRow_lo h2 hB, ⟨h3.os, h3.tape, h3.output, h3.size, fun k hk _ => h3.block k hk (by simp)⟩, .inr hl.1, fun j y hj => ?_⟩
    have hc := ownRow_cell hown hj
    exact (h3.cell hc (by simp))
theorem step_one {w : World} {ops : Array Oper} {o : Oper} {a : Act} {K : Act → World → Prop} {Q : Exit → Act → World → Prop} {E : Prop} (hgd : o.guard = none) (s x : Operand) {t e : TypeId} {i : TypeInfo} {z : Value}
    (ho : o.op = .call { callee := .builtin .append, args := #[s, x], argTypes := #[t, t] }) {B g n c k : Nat} {xs : List Value} {u : Value} {c1 : Nat} (ht : Try.prog.underlying t = some (.slice e)) (hi : Try.prog.info? e = some i) (hz : i.zero = some z) (hs : i.size = 1) (hby : i.bytes = 8) (hzs : z.cells.size = 1)
    (hes : a.eval s = .slice (some ⟨g, 0, none⟩) n c) (hex : a.eval x = .slice (some ⟨k, 0, none⟩) 1 c1)
    (h1 : u.oneCell' = true) (hown : w.ownsRow B e 1 (.slice (some ⟨g, 0, none⟩) n c) n xs) (hk : w.cell? ⟨k, 0, none⟩ = some u) (hn : n ≤ 1000000000) (hB : B ≤ w.heap.size)
    (h : ∀ g' c' w', w'.ownsRow B e 1 (.slice (some ⟨g', 0, none⟩) (n + 1) c') (n + 1) (xs ++ [u]) → w.grownBy w' (some g) → (g' = g ∨ w.heap.size ≤ g') → (∀ j y, xs[j]? = some y → w'.cell? ⟨g, j, none⟩ = some y) → K (a.put o.dst (.slice (some ⟨g', 0, none⟩) (n + 1) c')) w') :
    if Region.wanted o (yielded ops a.tmps) = true then Oper.wp Try.prog o a w K Q else E := by
  have hw : Region.wanted o (yielded ops a.tmps) = true := by simp [Region.wanted, hgd]
  rw [if_pos hw]
  obtain ⟨g', c', w', hr, h2, h3, h4, h5⟩ := run_one (ty := o.type) (c1 := c1) ht hi hz hs hby hzs h1 hown hk hn hB
  unfold Oper.wp execOp
  simp only [ho, resolve, invoke, builtin, Sem.run_bind, Sem.run_pure, Result.andThen_ok, List.map_toArray, List.map_cons, List.map_nil, hes, hex, hr]
  exact h g' c' w' h2 h3 h4 h5
theorem list_one {w : World} {ops : Array Oper} {rest : List Oper} {o : Oper} {a : Act} {Q : Exit → Act → World → Prop} (hgd : o.guard = none) (s x : Operand) {t e : TypeId} {i : TypeInfo} {z : Value}
    (ho : o.op = .call { callee := .builtin .append, args := #[s, x], argTypes := #[t, t] }) {B g n c k : Nat} {xs : List Value} {u : Value} {c1 : Nat} (ht : Try.prog.underlying t = some (.slice e)) (hi : Try.prog.info? e = some i) (hz : i.zero = some z) (hs : i.size = 1) (hby : i.bytes = 8) (hzs : z.cells.size = 1)
    (hes : a.eval s = .slice (some ⟨g, 0, none⟩) n c) (hex : a.eval x = .slice (some ⟨k, 0, none⟩) 1 c1)
    (h1 : u.oneCell' = true) (hown : w.ownsRow B e 1 (.slice (some ⟨g, 0, none⟩) n c) n xs) (hk : w.cell? ⟨k, 0, none⟩ = some u) (hn : n ≤ 1000000000) (hB : B ≤ w.heap.size)
    (h : ∀ g' c' w', w'.ownsRow B e 1 (.slice (some ⟨g', 0, none⟩) (n + 1) c') (n + 1) (xs ++ [u]) → w.grownBy w' (some g) → (g' = g ∨ w.heap.size ≤ g') → wpList Try.prog ops Q rest (a.put o.dst (.slice (some ⟨g', 0, none⟩) (n + 1) c')) w') :
    wpList Try.prog ops Q (o :: rest) a w := by
  obtain ⟨g', c', w', hr, h2, h3, h4, h5⟩ := run_one (ty := o.type) (c1 := c1) ht hi hz hs hby hzs h1 hown hk hn hB
  have hw : Region.wanted o (yielded ops a.tmps) = true := by simp [Region.wanted, hgd]
  unfold wpList
  rw [if_pos hw]
  unfold Oper.wp execOp
  simp only [ho, resolve, invoke, builtin, Sem.run_bind, Sem.run_pure, Result.andThen_ok, List.map_toArray, List.map_cons, List.map_nil, hes, hex, hr]
  exact .inl (h g' c' w' h2 h3 h4)
/-- one of the two rows -/
structure Side where
  V : World → (Nat → Prop) → Value → Prop
  t : TypeId
  g : Nat
  n : Nat
  c : Nat
  xs : List Value
structure Side.Good (s : Side) : Prop where
  fr : ∀ {w w' : World} {F S : Nat → Prop} {v : Value}, s.V w F v → Fr S w w' → (∀ k, F k → ¬ S k) → s.V w' F v
  tight : ∀ {w : World} {F : Nat → Prop} {v : Value}, s.V w F v → s.V w (fun b => F b ∧ b < w.heap.size) v
/-- how far it is: 0 nothing, 1 the value is made, 2 it lies in a block of its own, 3 it is in the row -/
structure Ch where
  a : Nat
  v : Value
  k : Nat
  g : Nat
  c : Nat
structure FK (B : Nat) (w0 : World) (s1 s2 : Side) (x y : Ch) (Q1 Q2 : Nat → Prop) (w : World) : Prop where
  fr : Fr (fun b => b = s1.g ∨ b = s2.g) w0 w
  ne : s1.g ≠ s2.g
  lt1 : s1.g < w0.heap.size
  lt2 : s2.g < w0.heap.size
  b0 : B ≤ w0.heap.size
  r1 : x.a < 3 → w.ownsRow B s1.t 1 (.slice (some ⟨s1.g, 0, none⟩) s1.n s1.c) s1.n s1.xs
  r2 : y.a < 3 → w.ownsRow B s2.t 1 (.slice (some ⟨s2.g, 0, none⟩) s2.n s2.c) s2.n s2.xs
  q1 : 1 ≤ x.a → s1.V w Q1 x.v
  q2 : 1 ≤ y.a → s2.V w Q2 y.v
  l1 : ∀ k, Q1 k → 1 ≤ x.a ∧ w0.heap.size ≤ k ∧ k < w.heap.size
  l2 : ∀ k, Q2 k → 1 ≤ y.a ∧ w0.heap.size ≤ k ∧ k < w.heap.size
  dis : ∀ k, Q1 k → ¬ Q2 k
  t1 : x.a = 2 → Blk w x.k s1.t #[x.v] ∧ w0.heap.size ≤ x.k
  t2 : y.a = 2 → Blk w y.k s2.t #[y.v] ∧ w0.heap.size ≤ y.k
  z1 : x.a = 3 → w.ownsRow B s1.t 1 (.slice (some ⟨x.g, 0, none⟩) (s1.n + 1) x.c) (s1.n + 1) (s1.xs ++ [x.v]) ∧ (x.g = s1.g ∨ w0.heap.size ≤ x.g) ∧ ¬ Q1 x.g ∧ ¬ Q2 x.g
  z2 : y.a = 3 → w.ownsRow B s2.t 1 (.slice (some ⟨y.g, 0, none⟩) (s2.n + 1) y.c) (s2.n + 1) (s2.xs ++ [y.v]) ∧ (y.g = s2.g ∨ w0.heap.size ≤ y.g) ∧ ¬ Q1 y.g ∧ ¬ Q2 y.g
  zz : x.a = 3 → y.a = 3 → x.g ≠ y.g
def FKE (B : Nat) (w0 : World) (s1 s2 : Side) (x y : Ch) (w : World) : Prop := ∃ Q1 Q2, FK B w0 s1 s2 x y Q1 Q2 w
section
variable {B : Nat} {w0 w w' : World} {s1 s2 : Side} {x y : Ch} {Q1 Q2 F : Nat → Prop} {v : Value}
theorem FK.swap (h : FK B w0 s1 s2 x y Q1 Q2 w) : FK B w0 s2 s1 y x Q2 Q1 w :=
  ⟨h.fr.mono fun k _ e => e.symm, h.ne.symm, h.lt2, h.lt1, h.b0, h.r2, h.r1, h.q2, h.q1, h.l2, h.l1, fun k h1 h2 => h.dis k h2 h1, h.t2, h.t1, fun e => let ⟨a, b, c, d⟩ := h.z2 e; ⟨a, b, d, c⟩, fun e => let ⟨a, b, c, d⟩ := h.z1 e; ⟨a, b, d, c⟩, fun e1 e2 => (h.zz e2 e1).symm⟩
theorem FKE.swap (h : FKE B w0 s1 s2 x y w) : FKE B w0 s2 s1 y x w := let ⟨Q1, Q2, h⟩ := h; ⟨Q2, Q1, h.swap⟩
theorem FK.far (h : FK B w0 s1 s2 x y Q1 Q2 w) (g1 : s1.Good) (g2 : s2.Good) (hb : Below w.heap.size w w') : FK B w0 s1 s2 x y Q1 Q2 w' := by
  have hf : Fr (fun b => w.heap.size ≤ b) w w' := Fr.of_below hb
  have hs := hb.size
  have ro : ∀ {t : TypeId} {v : Value} {n : Nat} {xs : List Value}, w.ownsRow B t 1 v n xs → w'.ownsRow B t 1 v n xs := fun h => own_fr h hf fun g e hn => by have := h.lt g e; omega
  refine ⟨h.fr.trans (hf.mono fun k hk hn => by omega), h.ne, h.lt1, h.lt2, h.b0, fun e => ro (h.r1 e), fun e => ro (h.r2 e), fun e => g1.fr (h.q1 e) hf fun k hk hn => ?_, fun e => g2.fr (h.q2 e) hf fun k hk hn => ?_, fun k hk => ⟨(h.l1 k hk).1, (h.l1 k hk).2.1, Nat.lt_of_lt_of_le (h.l1 k hk).2.2 hs⟩, fun k hk => ⟨(h.l2 k hk).1, (h.l2 k hk).2.1, Nat.lt_of_lt_of_le (h.l2 k hk).2.2 hs⟩, h.dis, fun e => ⟨(h.t1 e).1.below hb, (h.t1 e).2⟩, fun e => ⟨(h.t2 e).1.below hb, (h.t2 e).2⟩, fun e => ⟨ro (h.z1 e).1, (h.z1 e).2⟩, fun e => ⟨ro (h.z2 e).1, (h.z2 e).2⟩, h.zz⟩
  · have := (h.l1 k hk).2.2; omega
  · have := (h.l2 k hk).2.2; omega
theorem FKE.far (h : FKE B w0 s1 s2 x y w) (g1 : s1.Good) (g2 : s2.Good) (hb : Below w.heap.size w w') : FKE B w0 s1 s2 x y w' := let ⟨Q1, Q2, h⟩ := h; ⟨Q1, Q2, h.far g1 g2 hb⟩
/-- the value is made -/
theorem FKE.call (h : FKE B w0 s1 s2 x y w) (g1 : s1.Good) (g2 : s2.Good) (hx : x.a = 0) (hb : Below w.heap.size w w') (hv : s1.V w' (fun b => w.heap.size ≤ b) v) : FKE B w0 s1 s2 ⟨1, v, 0, 0, 0⟩ y w' := by
  obtain ⟨Q1, Q2, h⟩ := h
  have H := h.far g1 g2 hb
  have hs0 := h.fr.size
  refine ⟨_, Q2, H.fr, H.ne, H.lt1, H.lt2, H.b0, fun _ => H.r1 (by omega), H.r2, fun _ => g1.tight hv, H.q2, fun k hk => ⟨Nat.le_refl _, Nat.le_trans hs0 hk.1, hk.2⟩, H.l2, fun k hk h2 => ?_, fun e => absurd e (by simp), H.t2, fun e => absurd e (by simp), fun e => ?_, fun e => absurd e (by simp)⟩
  · have := (h.l2 k h2).2.2; have := hk.1; omega
  · refine ⟨(H.z2 e).1, (H.z2 e).2.1, fun h3 => ?_, (H.z2 e).2.2.2⟩
    have := (h.z2 e).1.lt y.g rfl
    have := h3.1
    omega
/-- nothing is there to be made: a value that needs no block -/
theorem FKE.plain (h : FKE B w0 s1 s2 x y w) (hx : x.a = 0) (hv : s1.V w (fun _ => False) v) : FKE B w0 s1 s2 ⟨1, v, 0, 0, 0⟩ y w := by
  obtain ⟨Q1, Q2, H⟩ := h
  refine ⟨_, Q2, H.fr, H.ne, H.lt1, H.lt2, H.b0, fun _ => H.r1 (by omega), H.r2, fun _ => hv, H.q2, fun k hk => hk.elim, H.l2, fun k hk h2 => hk.elim, fun e => absurd e (by simp), H.t2, fun e => absurd e (by simp), fun e => ⟨(H.z2 e).1, (H.z2 e).2.1, id, (H.z2 e).2.2.2⟩, fun e => absurd e (by simp)⟩
/-- it lies in a block of its own -/
theorem FKE.build (h : FKE B w0 s1 s2 x y w) (g1 : s1.Good) (g2 : s2.Good) (hx : x.a = 1) (hb : Below w.heap.size w w') (hB : Blk w' w.heap.size s1.t #[x.v]) : FKE B w0 s1 s2 ⟨2, x.v, w.heap.size, 0, 0⟩ y w' := by
  obtain ⟨Q1, Q2, h⟩ := h
  have H := h.far g1 g2 hb
  exact ⟨Q1, Q2, H.fr, H.ne, H.lt1, H.lt2, H.b0, fun _ => H.r1 (by omega), H.r2, fun _ => H.q1 (by omega), H.q2, fun k hk => ⟨(by show 1 ≤ 2; decide), (H.l1 k hk).2⟩, H.l2, H.dis, fun _ => ⟨hB, h.fr.size⟩, H.t2, fun e => absurd e (by simp), H.z2, fun e => absurd e (by simp)⟩
/-- it is in the row -/
theorem FKE.app {g' c' : Nat} (h : FKE B w0 s1 s2 x y w) (g1 : s1.Good) (g2 : s2.Good) (hx : x.a = 2) (ho : w'.ownsRow B s1.t 1 (.slice (some ⟨g', 0, none⟩) (s1.n + 1) c') (s1.n + 1) (s1.xs ++ [x.v])) (hg : w.grownBy w' (some s1.g)) (hn : g' = s1.g ∨ w.heap.size ≤ g') :
    FKE B w0 s1 s2 ⟨3, x.v, 0, g', c'⟩ y w' := by
  obtain ⟨Q1, Q2, h⟩ := h
  have hs := hg.size
  have hf : Fr (fun b => b = s1.g) w w' := (Fr.refl _ w).grown hg fun k e => by injection e with e; exact .inl e.symm
  have hg' : g' = s1.g ∨ w0.heap.size ≤ g' := hn.imp id (Nat.le_trans h.fr.size)
  have l0 := h.lt1
  have hq1 : ¬ Q1 g' := fun h2 => by have := h.l1 g' h2; omega
  have hq2 : ¬ Q2 g' := fun h2 => by have := h.l2 g' h2; omega
  have hne := h.ne
  have l2 := h.lt2
  have l3 := h.fr.size
  refine ⟨Q1, Q2, h.fr.trans (hf.mono fun k hk e => .inl e), h.ne, h.lt1, h.lt2, h.b0, fun e => absurd e (by simp), fun e => own_fr (h.r2 e) hf fun g e hn => ?_, fun _ => g1.fr (h.q1 (by omega)) hf fun k hk hn => ?_, fun e => g2.fr (h.q2 e) hf fun k hk hn => ?_, fun k hk => ⟨(by show 1 ≤ 3; decide), (h.l1 k hk).2.1, Nat.lt_of_lt_of_le (h.l1 k hk).2.2 hs⟩, fun k hk => ⟨(h.l2 k hk).1, (h.l2 k hk).2.1, Nat.lt_of_lt_of_le (h.l2 k hk).2.2 hs⟩, h.dis, fun e => absurd e (by simp), fun e => ⟨(h.t2 e).1.fr hf ?_, (h.t2 e).2⟩, fun _ => ⟨ho, hg', hq1, hq2⟩, fun e => ⟨own_fr (h.z2 e).1 hf fun g eg hn => ?_, (h.z2 e).2⟩, fun _ e => ?_⟩
  · injection e with e; subst e; exact hne hn.symm
  · have := h.l1 k hk; omega
  · have := h.l2 k hk; omega
  · have := (h.t2 e).2; omega
  · injection eg with eg
    have e2 : g = y.g := eg.symm
    subst e2
    rcases (h.z2 e).2.1 with h3 | h3 <;> omega
  · have h4 := (h.z2 e).1.lt y.g rfl
    show g' ≠ y.g
    rcases (h.z2 e).2.1 with h3 | h3 <;> omega
end
end Go.Proofs.Ythggpbbnhjaegaa

/-
  StPl, StM: the texts of the proof, merged. No condition.
-/
import Derived.Test.YtkaplifhaafpdaaGreatM07
import Derived.Test.YtkaplifhaafpdaaGreatM11
section
/-
  What an argument holds: threads of plans. No condition.
-/
namespace Go.Proofs.YtkaplifhaafpdaaGreat
open Go Go.RowKit
set_option linter.unusedSimpArgs false
set_option linter.unusedVariables false
/-- a proc: none, or its steps -/
structure Plan where
  none : Bool
  l : List Do
def DosAt (w : World) (u : Value) (l : List Do) : Prop := ∃ p c, u = .slice p l.length c ∧ (p = none → c = 0) ∧ ∀ k d, l[k]? = some d → ∃ b o ap ac, p = some ⟨b, o, none⟩ ∧ DoAt w b o k d (.slice ap d.vals.length ac) ∧ VA w (.slice ap d.vals.length ac) d.vals ∧ (ap = none → ac = 0)
def PlanAt (w : World) (u : Value) (l : List Plan) : Prop := ∃ p c, u = .slice p l.length c ∧ (p = none → c = 0) ∧ ∀ k x, l[k]? = some x → ∃ b o v, p = some ⟨b, o, none⟩ ∧ b < w.heap.size ∧ w.cell? ⟨b, o + k * 2, none⟩ = some (.bool x.none) ∧ w.cell? ⟨b, o + k * 2 + 1, none⟩ = some v ∧ DosAt w v x.l
def PlansAt (w : World) (u : Value) (ll : List (List Plan)) : Prop := ∃ p c, u = .slice p ll.length c ∧ (p = none → c = 0) ∧ ∀ k l, ll[k]? = some l → ∃ b o v, p = some ⟨b, o, none⟩ ∧ b < w.heap.size ∧ w.cell? ⟨b, o + k, none⟩ = some v ∧ PlanAt w v l
def Do.fits (d : Do) : Prop := (0 ≤ d.kind ∧ d.kind ≤ 255) ∧ 0 ≤ d.addr
def Plan.wt (x : Plan) : Nat := 1 + (x.l.map fun d => 1 + d.vals.length).sum
def planWt (l : List Plan) : Nat := 1 + (l.map Plan.wt).sum
def plansWt (ll : List (List Plan)) : Nat := 1 + (ll.map planWt).sum
section
variable {w w' : World} {u : Value}
theorem DoAt.below {b o i : Nat} {d : Do} {av : Value} (h : DoAt w b o i d av) (hb : Below w.heap.size w w') : DoAt w' b o i d av :=
  ⟨Nat.lt_of_lt_of_le h.lt hb.size, (hb.cell (p := ⟨b, _, none⟩) h.lt).trans h.qk, (hb.cell (p := ⟨b, _, none⟩) h.lt).trans h.qx, (hb.cell (p := ⟨b, _, none⟩) h.lt).trans h.qa, (hb.cell (p := ⟨b, _, none⟩) h.lt).trans h.qb, (hb.cell (p := ⟨b, _, none⟩) h.lt).trans h.qv⟩
theorem DosAt.below {l : List Do} (h : DosAt w u l) (hb : Below w.heap.size w w') : DosAt w' u l := by
  obtain ⟨p, c, e, hn, hc⟩ := h
  refine ⟨p, c, e, hn, fun k d hk => ?_⟩
  obtain ⟨b, o, ap, ac, e1, h1, h2, h3⟩ := hc k d hk
  exact ⟨b, o, ap, ac, e1, h1.below hb, h2.fr (Fr.of_below (S := fun _ => False) hb) (fun _ _ _ _ e => e), h3⟩
theorem PlanAt.below {l : List Plan} (h : PlanAt w u l) (hb : Below w.heap.size w w') : PlanAt w' u l := by
  obtain ⟨p, c, e, hn, hc⟩ := h
  refine ⟨p, c, e, hn, fun k x hk => ?_⟩
  obtain ⟨b, o, v, e1, h1, h2, h3, h4⟩ := hc k x hk
  exact ⟨b, o, v, e1, Nat.lt_of_lt_of_le h1 hb.size, (hb.cell (p := ⟨b, _, none⟩) h1).trans h2, (hb.cell (p := ⟨b, _, none⟩) h1).trans h3, h4.below hb⟩
theorem PlansAt.below {l : List (List Plan)} (h : PlansAt w u l) (hb : Below w.heap.size w w') : PlansAt w' u l := by
  obtain ⟨p, c, e, hn, hc⟩ := h
  refine ⟨p, c, e, hn, fun k x hk => ?_⟩
  obtain ⟨b, o, v, e1, h1, h2, h3⟩ := hc k x hk
  exact ⟨b, o, v, e1, Nat.lt_of_lt_of_le h1 hb.size, (hb.cell (p := ⟨b, _, none⟩) h1).trans h2, h3.below hb⟩
end
theorem sum_mem {α : Type} {l : List α} {f : α → Nat} {x : α} (h : x ∈ l) : f x ≤ (l.map f).sum := by
  induction l with
  | nil => cases h
  | cons y r ih =>
    simp only [List.map_cons, List.sum_cons]
    rcases List.mem_cons.1 h with e | e
    · subst e; omega
    · have := ih e; omega
theorem sum_len {α : Type} {l : List α} {f : α → Nat} (h : ∀ x, 1 ≤ f x) : l.length ≤ (l.map f).sum := by
  induction l with
  | nil => simp
  | cons y r ih => have := h y; simp only [List.map_cons, List.sum_cons, List.length_cons]; omega
end Go.Proofs.YtkaplifhaafpdaaGreat
namespace Go.Proofs.YtkaplifhaafpdaaGreat.sargs
open Go Go.Joins Go.ChangeShapes Go.WideShapes Go.RowKit Go.Deep
set_option linter.unusedVariables false
set_option maxRecDepth 100000
theorem sum_le {H α : Type} (L : List α) (f : α → Nat) (Ds : List (DataW H)) (hl : L.length = Ds.length) (h : ∀ (i : Nat) x d, L[i]? = some x → Ds[i]? = some d → f x ≤ Rows.uptoBulk d) : (L.map f).sum ≤ Rows.uptoBulkAll Ds := by
  induction L generalizing Ds with
  | nil => simp
  | cons x L ih =>
    match Ds, hl with
    | d :: Ds, hl =>
      have h0 := h 0 x d rfl rfl
      have := ih Ds (by simpa using hl) (fun i x d hx hd => h (i + 1) x d (by simpa using hx) (by simpa using hd))
      simp only [List.map_cons, List.sum_cons, Rows.uptoBulkAll]
      omega
theorem sum_range {H α : Type} (L : List α) (f : α → Nat) (D : Nat → DataW H) (len : Nat) (hl : L.length = len) (h : ∀ (i : Nat) x, L[i]? = some x → f x ≤ Rows.uptoBulk (D i)) : (L.map f).sum ≤ Rows.uptoBulkAll ((List.range len).map D) := by
  refine sum_le L f _ (by simp [hl]) fun i x d hx hd => ?_
  have hi := (List.getElem?_eq_some_iff.1 hx).1
  rw [List.getElem?_map, List.getElem?_range (by omega)] at hd
  injection hd with hd
  subst hd
  exact h i x hx
section
variable {H : Type} {enc : TypeId × Value → H} {W : World}
theorem vals_plan {n : Nat} {u : Value} {x : DataW H × List MemPlace} (h : DataW.trod enc Tryz.prog W 0 (fun _ => true) true n 107 [u] = some x) : ∃ (vs : List Int) (ap : Option Addr) (ac : Nat), u = .slice ap vs.length ac ∧ (ap = none → ac = 0) ∧ VA W u vs ∧ vs.length + 1 ≤ Rows.uptoBulk x.1 := by
  rcases open_ints Tryz.underlying107 Tryz.underlying72 (by kernel_rfl) h with ⟨hu, rfl⟩ | ⟨a, len, cap, zs, hu, _, hl, _, hz, rfl, hcell, hwf⟩
  · injection hu with hu; subst hu
    exact ⟨[], none, 0, rfl, fun _ => rfl, ⟨none, 0, rfl, .inl rfl⟩, by simp [Rows.uptoBulk]⟩
  · injection hu with hu; subst hu
    simp only [if_true] at hz
    refine ⟨zs.take len, some a, cap, by simp; omega, (by intro e; cases e), ⟨some a, cap, by simp; omega, ?_⟩, ?_⟩
    · by_cases h0 : len = 0
      · left; subst h0; simp
      · right
        have hc0 := hcell 0 (by omega)
        obtain ⟨ea, hbl⟩ := cell_form (show W.cell? a = _ from by simpa [Addr.add] using hc0)
        refine ⟨a, rfl, hbl, fun j v hj => ?_⟩
        have hjl := (List.getElem?_eq_some_iff.1 hj).1
        simp [us] at hjl
        have hc := hcell j (by omega)
        rw [hc, ← hj]
        simp [us, List.getD_eq_getElem?_getD, List.getElem?_take_of_lt (show j < len by omega), show j < zs.length by omega]
    · have := length_le (lits (H := H) .u64 (zs.take len))
      simp only [Rows.uptoBulk]
      simp only [lits, List.length_map, List.length_take] at this ⊢
      omega
theorem dos_of {n : Nat} {u : Value} {x : DataW H × List MemPlace} (h : DataW.trod enc Tryz.prog W 0 (fun _ => true) true n 102 [u] = some x) :
    ∃ l : List Do, DosAt W u l ∧ (∀ d ∈ l, d.fits) ∧ 1 + (l.map fun d => 1 + d.vals.length).sum ≤ Rows.uptoBulk x.1 := by
  rcases open_slice_fields Tryz.underlying102 Tryz.underlying109 (by kernel_rfl) (by kernel_rfl) h with ⟨hu, rfl⟩ | ⟨a, len, cap, m, D, Pl, hu, _, hl, _, hm, rfl, hi⟩
  · injection hu with hu; subst hu
    exact ⟨[], ⟨none, 0, rfl, fun _ => rfl, fun k x hk => by simp at hk⟩, by simp, by simp [Rows.uptoBulk]⟩
  · injection hu with hu; subst hu
    simp only [if_true] at hm
    have hq : ∀ i, i < len → ∃ d : Do, (∃ b o ap ac, some a = some (⟨b, o, none⟩ : Addr) ∧ DoAt W b o i d (.slice ap d.vals.length ac) ∧ VA W (.slice ap d.vals.length ac) d.vals ∧ (ap = none → ac = 0)) ∧ d.fits ∧ 1 + d.vals.length ≤ Rows.uptoBulk (D i) := by
      intro i hlt
      obtain ⟨ys, n', hD, _, hyl, hf⟩ := hi i (by omega)
      obtain ⟨v0, y0, c0, _, t0⟩ := hf 0 _ rfl
      obtain ⟨v1, y1, c1, _, t1⟩ := hf 1 _ rfl
      obtain ⟨v2, y2, c2, _, t2⟩ := hf 2 _ rfl
      obtain ⟨v3, y3, c3, _, t3⟩ := hf 3 _ rfl
      obtain ⟨v4, y4, c4, hy4, t4⟩ := hf 4 _ rfl
      obtain ⟨z0, e0, _, w0⟩ := DataW.trod_int Tryz.underlying106 t0
      obtain ⟨z1, e1, _, w1⟩ := DataW.trod_int Tryz.underlying72 t1
      obtain ⟨z2, e2, _, w2⟩ := DataW.trod_int Tryz.underlying72 t2
      obtain ⟨z3, e3, _, w3⟩ := DataW.trod_int Tryz.underlying72 t3
      injection e0 with e0; injection e1 with e1; injection e2 with e2; injection e3 with e3
      subst e0 e1 e2 e3
      obtain ⟨vs, ap, ac, rfl, hap, hva, hvl⟩ := vals_plan t4
      have hd4 : Rows.uptoBulk y4.1 ≤ Rows.uptoBulk (D i) := by
        rw [hD]
        have := part_le (List.mem_map.2 ⟨y4, List.mem_of_getElem? hy4, rfl⟩ : y4.1 ∈ ys.map (·.1))
        simp only [Rows.uptoBulk]; omega
      obtain ⟨ys', n'', _, _, _, hf'⟩ := hi 0 (by omega)
      obtain ⟨v', y', c', _, _⟩ := hf' 0 _ rfl
      obtain ⟨ea, hbk⟩ := cell_form (show W.cell? a = some v' from by simpa [Addr.add] using c')
      rw [ea] at c0 c1 c2 c3 c4
      rw [add_none] at c0 c1 c2 c3 c4
      simp [Lit.wf, IntKind.min, IntKind.max, IntKind.bits, IntKind.signed] at w0 w1
      refine ⟨⟨z0, z1, z2, z3, vs⟩, ⟨a.block, a.off, ap, ac, by rw [← ea], ⟨hbk, by simpa using c0, by simpa [Nat.add_assoc] using c1, by simpa [Nat.add_assoc] using c2, by simpa [Nat.add_assoc] using c3, by simpa [Nat.add_assoc] using c4⟩, hva, hap⟩, ⟨?_, ?_⟩, ?_⟩
      · show 0 ≤ z0 ∧ z0 ≤ 255; omega
      · show 0 ≤ z1; omega
      · show 1 + vs.length ≤ _; omega
    obtain ⟨L, hL, hLq⟩ := choose_list hq
    refine ⟨L, ⟨some a, cap, by rw [hL], (by intro e; cases e), fun k x hk => (hLq k x hk).1⟩, ?_, ?_⟩
    · intro y hy
      obtain ⟨k, hk, rfl⟩ := List.getElem_of_mem hy
      exact (hLq k _ (List.getElem?_eq_getElem hk)).2.1
    · have := sum_range L (fun d => 1 + d.vals.length) D len hL (fun i x hx => (hLq i x hx).2.2)
      simp only [Rows.uptoBulk]
      omega
theorem plan_of {n : Nat} {u : Value} {x : DataW H × List MemPlace} (h : DataW.trod enc Tryz.prog W 0 (fun _ => true) true n 105 [u] = some x) :
    ∃ l : List Plan, PlanAt W u l ∧ (∀ y ∈ l, ∀ d ∈ y.l, d.fits) ∧ planWt l ≤ Rows.uptoBulk x.1 := by
  rcases open_slice_fields Tryz.underlying105 Tryz.underlying104 (by kernel_rfl) (by kernel_rfl) h with ⟨hu, rfl⟩ | ⟨a, len, cap, m, D, Pl, hu, _, hl, _, hm, rfl, hi⟩
  · injection hu with hu; subst hu
    exact ⟨[], ⟨none, 0, rfl, fun _ => rfl, fun k x hk => by simp at hk⟩, by simp, by simp [Rows.uptoBulk, planWt]⟩
  · injection hu with hu; subst hu
    simp only [if_true] at hm
    have hq : ∀ i, i < len → ∃ y : Plan, (∃ b o v, some a = some (⟨b, o, none⟩ : Addr) ∧ b < W.heap.size ∧ W.cell? ⟨b, o + i * 2, none⟩ = some (.bool y.none) ∧ W.cell? ⟨b, o + i * 2 + 1, none⟩ = some v ∧ DosAt W v y.l) ∧ (∀ d ∈ y.l, d.fits) ∧ y.wt ≤ Rows.uptoBulk (D i) := by
      intro i hlt
      obtain ⟨ys, n', hD, _, hyl, hf⟩ := hi i (by omega)
      obtain ⟨v0, y0, c0, _, t0⟩ := hf 0 _ rfl
      obtain ⟨v1, y1, c1, hy1, t1⟩ := hf 1 _ rfl
      obtain ⟨b, e0, _⟩ := DataW.trod_bool Tryz.underlying4 t0
      injection e0 with e0
      subst e0
      obtain ⟨l, k1, k2, k3⟩ := dos_of t1
      have hd1 : Rows.uptoBulk y1.1 ≤ Rows.uptoBulk (D i) := by
        rw [hD]
        have := part_le (List.mem_map.2 ⟨y1, List.mem_of_getElem? hy1, rfl⟩ : y1.1 ∈ ys.map (·.1))
        simp only [Rows.uptoBulk]; omega
      obtain ⟨ys', n'', _, _, _, hf'⟩ := hi 0 (by omega)
      obtain ⟨v', y', c', _, _⟩ := hf' 0 _ rfl
      obtain ⟨ea, hbk⟩ := cell_form (show W.cell? a = some v' from by simpa [Addr.add] using c')
      rw [ea] at c0 c1
      rw [add_none] at c0 c1
      refine ⟨⟨b, l⟩, ⟨a.block, a.off, v1, by rw [← ea], hbk, by simpa using c0, by simpa [Nat.add_assoc] using c1, k1⟩, k2, ?_⟩
      show 1 + (l.map fun d => 1 + d.vals.length).sum ≤ _
      omega
    obtain ⟨L, hL, hLq⟩ := choose_list hq
    refine ⟨L, ⟨some a, cap, by rw [hL], (by intro e; cases e), fun k x hk => (hLq k x hk).1⟩, ?_, ?_⟩
    · intro y hy
      obtain ⟨k, hk, rfl⟩ := List.getElem_of_mem hy
      exact (hLq k _ (List.getElem?_eq_getElem hk)).2.1
    · have := sum_range L Plan.wt D len hL (fun i x hx => (hLq i x hx).2.2)
      simp only [Rows.uptoBulk, planWt]
      omega
theorem plans_of {n : Nat} {u : Value} {x : DataW H × List MemPlace} (h : DataW.trod enc Tryz.prog W 0 (fun _ => true) true n 22 [u] = some x) :
    ∃ ll : List (List Plan), PlansAt W u ll ∧ (∀ l ∈ ll, ∀ y ∈ l, ∀ d ∈ y.l, d.fits) ∧ plansWt ll ≤ Rows.uptoBulk x.1 := by
  rcases open_slice Tryz.underlying22 h with ⟨hu, rfl⟩ | ⟨a, len, cap, m, n', D, Pl, hu, _, hl, _, hm, rfl, hi⟩
  · injection hu with hu; subst hu
    exact ⟨[], ⟨none, 0, rfl, fun _ => rfl, fun k x hk => by simp at hk⟩, by simp, by simp [Rows.uptoBulk, plansWt]⟩
  · injection hu with hu; subst hu
    simp only [if_true] at hm
    have hc : Tryz.prog.cellsOf 105 = 1 := by kernel_rfl
    have hq : ∀ i, i < len → ∃ l : List Plan, (∃ b o v, some a = some (⟨b, o, none⟩ : Addr) ∧ b < W.heap.size ∧ W.cell? ⟨b, o + i, none⟩ = some v ∧ PlanAt W v l) ∧ (∀ y ∈ l, ∀ d ∈ y.l, d.fits) ∧ planWt l ≤ Rows.uptoBulk (D i) := by
      intro i hlt
      obtain ⟨cs', hcs, ht⟩ := hi i (by omega)
      rw [hc] at hcs
      obtain ⟨_, hcl, hat⟩ := World.cells?_some hcs
      obtain ⟨u, rfl⟩ : ∃ u, cs' = [u] := by
        match cs', hcl with
        | [u], _ => exact ⟨u, rfl⟩
      have hcell : W.cell? (a.add i) = some u := by simpa [Addr.add] using hat 0 (by decide)
      obtain ⟨l, k1, k2, k3⟩ := plan_of ht
      obtain ⟨cs0, hcs0, _⟩ := hi 0 (by omega)
      rw [hc] at hcs0
      obtain ⟨_, hcl0, hat0⟩ := World.cells?_some hcs0
      obtain ⟨u0, rfl⟩ : ∃ u, cs0 = [u] := by
        match cs0, hcl0 with
        | [u], _ => exact ⟨u, rfl⟩
      obtain ⟨ea, hbl⟩ := cell_form (show W.cell? a = some u0 from by simpa [Addr.add] using hat0 0 (by decide))
      refine ⟨l, ⟨a.block, a.off, u, by rw [← ea], hbl, ?_, k1⟩, k2, ?_⟩
      · rw [ea, add_none] at hcell; exact hcell
      · exact k3
    obtain ⟨L, hL, hLq⟩ := choose_list hq
    refine ⟨L, ⟨some a, cap, by rw [hL], (by intro e; cases e), fun k x hk => (hLq k x hk).1⟩, ?_, ?_⟩
    · intro y hy
      obtain ⟨k, hk, rfl⟩ := List.getElem_of_mem hy
      exact (hLq k _ (List.getElem?_eq_getElem hk)).2.1
    · have := sum_range L planWt D len hL (fun i x hx => (hLq i x hx).2.2)
      simp only [Rows.uptoBulk, plansWt]
      omega
end
end Go.Proofs.YtkaplifhaafpdaaGreat.sargs
end
section
/-
  Threads of plans, pick by pick: the plain law that the runner and the document's both follow. No condition.
-/
namespace Go.Proofs.YtkaplifhaafpdaaGreat
open Go Go.RowKit
set_option linter.unusedSimpArgs false
set_option linter.unusedVariables false
/-- a thread: which call, how many steps of it, what each call was told -/
structure TS where
  call : Nat
  at_ : Nat
  got : List (List Int)
structure St where
  A : Mem
  th : List TS
  steps : Nat
  evs : List Ev
  wh : List Int
def Plan.act (p : Plan) (a : Nat) : Option Do := if p.none then Option.none else p.l[a]?
def Plan.dn (p : Plan) (a : Nat) : Bool := p.none || decide (p.l.length ≤ a + 1)
def Do.real (d : Do) : Bool := decide (1 ≤ d.kind ∧ d.kind ≤ 5)
def St.mem (s : St) (t : Nat) (o : Option Do) : Mem := match o with | some d => s.A.make t d | none => s.A
def St.says (s : St) (o : Option Do) : List Int := match o with | some d => if d.real then [s.A.tell d] else [] | none => []
def TS.next (x : TS) (l : List Int) (d : Bool) : TS := ⟨if d then x.call + 1 else x.call, if d then 0 else x.at_ + 1, x.got.modify x.call (· ++ l)⟩
def St.began (s : St) (t : Nat) (x : TS) : List Ev := if x.at_ = 0 then s.evs ++ [⟨s.steps, t, x.call, false⟩] else s.evs
def St.go (s : St) (t : Nat) (x : TS) (p : Plan) : St :=
  { A := s.mem t (p.act x.at_), th := s.th.set t (x.next (s.says (p.act x.at_)) (p.dn x.at_)), steps := s.steps + 1,
    evs := if p.dn x.at_ then s.began t x ++ [⟨s.steps, t, x.call, true⟩] else s.began t x,
    wh := s.wh ++ List.replicate ((s.mem t (p.act x.at_)).trace.length - s.A.trace.length) (s.steps : Int) }
/-- what a thread would do next -/
def St.at? (ll : List (List Plan)) (s : St) (t : Nat) : Option (TS × Plan) := match s.th[t]?, ll[t]? with
  | some x, some l => match l[x.call]? with
    | some p => some (x, p)
    | none => none
  | _, _ => none
def St.idle (ll : List (List Plan)) (s : St) (t : Int) : Bool := if 0 ≤ t then (s.at? ll t.toNat).isNone else true
def St.one (ll : List (List Plan)) (s : St) (t : Int) : St := if 0 ≤ t then match s.at? ll t.toNat with
  | some (x, p) => s.go t.toNat x p
  | none => { s with steps := s.steps + 1 } else { s with steps := s.steps + 1 }
/-- a thread's state fits its plans -/
structure TS.Ok (x : TS) (l : List Plan) : Prop where
  gl : x.got.length = l.length
  cl : x.call ≤ l.length
  no : ∀ k, x.call < k → x.got.getD k [] = []
  no0 : x.at_ = 0 → x.got.getD x.call [] = []
  at_ : ∀ p, l[x.call]? = some p → x.at_ ≠ 0 → p.none = false ∧ x.at_ < p.l.length
  end_ : x.call = l.length → x.at_ = 0
structure St.Ok (ll : List (List Plan)) (s : St) : Prop where
  tl : s.th.length = ll.length
  th : ∀ (t : Nat) x l, s.th[t]? = some x → ll[t]? = some l → x.Ok l
  fit : s.A.Fit
  wl : s.wh.length = s.A.trace.length
  tr : s.A.trace.length ≤ s.steps + 1
  el : s.evs.length ≤ 2 * s.steps
  gt : ∀ (t : Nat) x, s.th[t]? = some x → x.got.flatten.length ≤ s.steps
section
variable {ll : List (List Plan)} {s : St} {t : Nat} {x : TS} {p : Plan} {l : List Plan} {d : Do} {A : Mem}
theorem make_len (A : Mem) (t : Int) (d : Do) : (A.make t d).trace.length = A.trace.length + if d.real then 1 else 0 := by
  unfold Mem.make Do.real
  split
  · rename_i h; simp [h, Mem.load, Mem.note]
  split
  · rename_i h; simp [h, Mem.store, Mem.note, Mem.put]
  split
  · rename_i h; simp [h, Mem.cas, Mem.note]; split <;> simp [Mem.put]
  split
  · rename_i h; simp [h, Mem.add, Mem.note, Mem.put]
  split
  · rename_i h; simp [h, Mem.alloc, Mem.note]; split <;> simp [Mem.laid]
  · rw [if_neg (by simp; omega)]; rfl
theorem make_cells (A : Mem) (t : Int) (d : Do) : (A.make t d).cells.length = A.cells.length := by
  unfold Mem.make
  split
  · simp [Mem.load, Mem.note]
  split
  · simp [Mem.store, Mem.note, Mem.put]
  split
  · simp [Mem.cas, Mem.note]; split <;> simp [Mem.put]
  split
  · simp [Mem.add, Mem.note, Mem.put]
  split
  · simp only [Mem.alloc, Mem.note]
    split
    · rename_i h
      have h2 : d.vals ≠ [] ∧ A.next + d.vals.length ≤ A.cells.length := by simpa [Mem.fits] using h
      simp [Mem.laid, splice]; omega
    · rfl
  · rfl
theorem make_next (A : Mem) (t : Int) (d : Do) (h : A.next ≤ A.cells.length) : (A.make t d).next ≤ A.cells.length := by
  unfold Mem.make
  split
  · simpa [Mem.load, Mem.note] using h
  split
  · simpa [Mem.store, Mem.note, Mem.put] using h
  split
  · simp [Mem.cas, Mem.note]; split <;> simpa [Mem.put] using h
  split
  · simpa [Mem.add, Mem.note, Mem.put] using h
  split
  · simp only [Mem.alloc, Mem.note]
    split
    · rename_i h
      have h2 : d.vals ≠ [] ∧ A.next + d.vals.length ≤ A.cells.length := by simpa [Mem.fits] using h
      simp [Mem.laid]; omega
    · exact h
  · exact h
theorem mem_fit (h : s.A.Fit) (ht : s.A.trace.length < 1000000000) (o : Option Do) : (s.mem t o).Fit := by
  unfold St.mem
  cases o with
  | none => exact h
  | some d =>
    refine ⟨?_, ?_, ?_⟩
    · simp only; rw [make_cells]; exact h.n
    · simp only; rw [make_len]; split <;> omega
    · simp only; rw [make_cells]; exact make_next _ _ _ h.x
theorem mem_len (o : Option Do) : (s.mem t o).trace.length = s.A.trace.length + (s.says o).length := by
  unfold St.mem St.says
  cases o with
  | none => rfl
  | some d => simp only; rw [make_len]; split <;> simp_all
theorem says_le (o : Option Do) : (s.says o).length ≤ 1 := by
  unfold St.says
  cases o with
  | none => simp
  | some d => simp only; split <;> simp
theorem flat_modify : ∀ (g : List (List Int)) (c : Nat) (l : List Int), c < g.length → (∀ k, c < k → g.getD k [] = []) → (g.modify c (· ++ l)).flatten = g.flatten ++ l
  | [], c, l, h, _ => by simp at h
  | a :: g, 0, l, _, hn => by
    have : g.flatten = [] := by
      rw [List.flatten_eq_nil_iff]
      intro y hy
      obtain ⟨k, hk, rfl⟩ := List.getElem_of_mem hy
      have := hn (k + 1) (by omega)
      simpa [List.getD_eq_getElem?_getD, hk] using this
    simp [this]
  | a :: g, c + 1, l, h, hn => by
    have ih := flat_modify g c l (by simpa using h) (fun k hk => by have := hn (k + 1) (by omega); simpa using this)
    simp [ih]
theorem TS.Ok.flat (h : x.Ok l) (hp : l[x.call]? = some p) (w : List Int) (d : Bool) : (x.next w d).got.flatten = x.got.flatten ++ w :=
  flat_modify _ _ _ (by rw [h.gl]; exact (List.getElem?_eq_some_iff.1 hp).1) h.no
theorem TS.Ok.next (h : x.Ok l) (hp : l[x.call]? = some p) (w : List Int) (hw : p.act x.at_ = none → w = []) : (x.next w (p.dn x.at_)).Ok l := by
  have hc := (List.getElem?_eq_some_iff.1 hp).1
  refine ⟨by simp [TS.next, h.gl], ?_, ?_, ?_, ?_, ?_⟩
  · unfold TS.next; simp only; split <;> omega
  · intro k hk
    have hk2 : x.call < k := by unfold TS.next at hk; simp only at hk; split at hk <;> omega
    have := h.no k hk2
    simp only [TS.next, List.getD_eq_getElem?_getD] at this ⊢
    rw [List.getElem?_modify]
    have h3 : ¬ x.call = k := by omega
    cases hg : x.got[k]? <;> simp_all
  · intro h0
    unfold TS.next at h0 ⊢
    simp only at h0 ⊢
    split at h0
    · rename_i hd
      rw [if_pos hd]
      have := h.no (x.call + 1) (by omega)
      simp only [List.getD_eq_getElem?_getD] at this ⊢
      rw [List.getElem?_modify]
      cases hg : x.got[x.call + 1]? <;> simp_all
    · omega
  · intro q hq h0
    unfold TS.next at hq h0
    simp only at hq h0
    split at h0
    · simp at h0
    · rename_i hd
      rw [if_neg hd, hp] at hq
      injection hq with hq
      subst hq
      unfold TS.next
      simp only [if_neg hd]
      simp [Plan.dn] at hd
      exact ⟨hd.1, by omega⟩
  · intro e
    unfold TS.next at e ⊢
    simp only at e ⊢
    split at e
    · rename_i hd; rw [if_pos hd]
    · omega
theorem at_some (h : s.at? ll t = some (x, p)) : s.th[t]? = some x ∧ ∃ l, ll[t]? = some l ∧ l[x.call]? = some p := by
  unfold St.at? at h
  split at h
  · rename_i y l h1 h2
    split at h
    · rename_i q h3
      simp at h
      obtain ⟨rfl, rfl⟩ := h
      exact ⟨h1, l, h2, h3⟩
    · cases h
  · cases h
theorem St.Ok.go (h : s.Ok ll) (ha : s.at? ll t = some (x, p)) (hs : s.steps ≤ 100000000) : (s.go t x p).Ok ll := by
  obtain ⟨hx, l, hl, hp⟩ := at_some ha
  have hok := h.th t x l hx hl
  have hle := says_le (s := s) (p.act x.at_)
  have htr := h.tr
  refine ⟨by simp [St.go, h.tl], ?_, mem_fit h.fit (by omega) _, ?_, ?_, ?_, ?_⟩
  · intro u y m hy hm
    unfold St.go at hy
    simp only [List.getElem?_set] at hy
    split at hy
    · rename_i e
      subst e
      split at hy
      · injection hy with hy
        subst hy
        rw [hl] at hm
        injection hm with hm
        subst hm
        exact hok.next hp _ (fun e => by rw [e]; rfl)
      · cases hy
    · exact h.th u y m hy hm
  · simp [St.go, h.wl, mem_len]
  · simp only [St.go, mem_len]; omega
  · have : (s.began t x).length ≤ s.evs.length + 1 := by unfold St.began; split <;> simp
    have := h.el
    unfold St.go
    simp only
    split <;> simp <;> omega
  · intro u y hy
    unfold St.go at hy ⊢
    simp only [List.getElem?_set] at hy ⊢
    split at hy
    · split at hy
      · injection hy with hy
        subst hy
        rw [hok.flat hp, List.length_append]
        have := h.gt t x hx
        omega
      · cases hy
    · have := h.gt u y hy; omega
theorem St.Ok.one (h : s.Ok ll) (t : Int) (hs : s.steps ≤ 100000000) : (s.one ll t).Ok ll := by
  have hi : ({ s with steps := s.steps + 1 } : St).Ok ll := ⟨h.tl, h.th, h.fit, h.wl, Nat.le_trans h.tr (by simp), Nat.le_trans h.el (by show 2 * s.steps ≤ 2 * (s.steps + 1); omega), fun t x hx => Nat.le_trans (h.gt t x hx) (by simp)⟩
  unfold St.one
  split
  · split
    · rename_i x p h2; exact h.go h2 hs
    · exact hi
  · exact hi
theorem one_steps (t : Int) : (s.one ll t).steps = s.steps + 1 := by
  unfold St.one
  split
  · split <;> rfl
  · rfl
end
end Go.Proofs.YtkaplifhaafpdaaGreat
end

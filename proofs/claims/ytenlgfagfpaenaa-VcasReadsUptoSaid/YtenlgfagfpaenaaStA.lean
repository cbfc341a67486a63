/-
  A runner in the heap: its threads, what it has told. No condition.
-/
import Derived.Test.YtenlgfagfpaenaaArBase
import Derived.Test.YtenlgfagfpaenaaBookW
namespace Go.Proofs.Ytenlgfagfpaenaa
open Go Go.RowKit
set_option linter.unusedSimpArgs false
set_option linter.unusedVariables false
/-- an event -/
structure Ev where
  step : Int
  thread : Int
  index : Int
  ret : Bool
def evC (x : Ev) : List Value := [.int .i64 x.step, .int .i64 x.thread, .int .i64 x.index, .bool x.ret]
/-- a thread: its procs, which is next, has it begun -/
structure Thr where
  pv : Value
  procs : List Value
  pos : Nat
  op : Bool
def thrC (x : Thr) : List Value := [x.pv, .int .i64 x.pos, .bool x.op]
def is64 (l : List Int) : List Value := l.map (.int .i64)
/-- the runner's own cells -/
structure RC (cs : Array Value) (bm : Nat) (tv : Value) (vws : List Nat) (steps : Nat) (ev av : Value) : Prop where
  size : cs.size = 69
  c0 : cs[0]? = some (.pointer (some ⟨bm, 0, none⟩))
  c1 : cs[1]? = some tv
  cv : ∀ t v, vws[t]? = some v → cs[2 + t]? = some (.pointer (some ⟨v, 0, none⟩))
  nv : vws.length ≤ 64
  c66 : cs[66]? = some (.int .i64 steps)
  c67 : cs[67]? = some ev
  c68 : cs[68]? = some av
/-- a runner lies at rp, all of it within R -/
structure RX (w : World) (R : Nat → Prop) (rp bm : Nat) (vws : List Nat) (T : List Thr) (steps : Nat) (evs : List Ev) (ats : List Int) (cs : Array Value) (tv ev av : Value) : Prop where
  blk : Blk w rp 176 cs
  rc : RC cs bm tv vws steps ev av
  thr : w.ownsRow 0 179 3 tv T.length (T.flatMap thrC)
  prc : ∀ x ∈ T, w.ownsRow 0 141 1 x.pv x.procs.length x.procs ∧ ∀ g, x.pv.ownBlock = some g → R g
  evo : w.ownsRow 0 182 4 ev evs.length (evs.flatMap evC)
  avo : w.ownsRow 0 3 1 av ats.length (is64 ats)
  fR : R rp
  fT : ∀ g, tv.ownBlock = some g → R g
  fE : ∀ g, ev.ownBlock = some g → R g
  fA : ∀ g, av.ownBlock = some g → R g
section
variable {w0 w w' : World} {R S G : Nat → Prop} {rp bm : Nat} {vws : List Nat} {T : List Thr} {steps : Nat} {evs : List Ev} {ats : List Int} {cs : Array Value} {tv ev av u : Value}
theorem RC.put66 (h : RC cs bm tv vws steps ev av) (s : Nat) : RC (cs.setIfInBounds 66 (.int .i64 s)) bm tv vws s ev av := by
  obtain ⟨a, b, c, d, nv, e, f, g⟩ := h
  refine ⟨by simpa using a, ?_, ?_, fun t v hv => ?_, nv, ?_, ?_, ?_⟩ <;> rw [Array.getElem?_setIfInBounds]
  · simpa using b
  · simpa using c
  · have ht := (List.getElem?_eq_some_iff.1 hv).1
    rw [if_neg (by omega)]; exact d t v hv
  · simp [a]
  · simpa using f
  · simpa using g
theorem RC.put67 (h : RC cs bm tv vws steps ev av) (u : Value) : RC (cs.setIfInBounds 67 u) bm tv vws steps u av := by
  obtain ⟨a, b, c, d, nv, e, f, g⟩ := h
  refine ⟨by simpa using a, ?_, ?_, fun t v hv => ?_, nv, ?_, ?_, ?_⟩ <;> rw [Array.getElem?_setIfInBounds]
  · simpa using b
  · simpa using c
  · have ht := (List.getElem?_eq_some_iff.1 hv).1
    rw [if_neg (by omega)]; exact d t v hv
  · simpa using e
  · simp [a]
  · simpa using g
theorem RC.put68 (h : RC cs bm tv vws steps ev av) (u : Value) : RC (cs.setIfInBounds 68 u) bm tv vws steps ev u := by
  obtain ⟨a, b, c, d, nv, e, f, g⟩ := h
  refine ⟨by simpa using a, ?_, ?_, fun t v hv => ?_, nv, ?_, ?_, ?_⟩ <;> rw [Array.getElem?_setIfInBounds]
  · simpa using b
  · simpa using c
  · have ht := (List.getElem?_eq_some_iff.1 hv).1
    rw [if_neg (by omega)]; exact d t v hv
  · simpa using e
  · simpa using f
  · simp [a]
theorem RC.put1 (h : RC cs bm tv vws steps ev av) (u : Value) : RC (cs.setIfInBounds 1 u) bm u vws steps ev av := by
  obtain ⟨a, b, c, d, nv, e, f, g⟩ := h
  refine ⟨by simpa using a, ?_, ?_, fun t v hv => ?_, nv, ?_, ?_, ?_⟩ <;> rw [Array.getElem?_setIfInBounds]
  · simpa using b
  · simp [a]
  · rw [if_neg (by omega)]; exact d t v hv
  · simpa using e
  · simpa using f
  · simpa using g
theorem RX.fr (h : RX w R rp bm vws T steps evs ats cs tv ev av) (hf : Fr S w w') (hS : ∀ k, R k → ¬ S k) : RX w' R rp bm vws T steps evs ats cs tv ev av :=
  ⟨h.blk.fr hf (hS _ h.fR), h.rc, own_fr h.thr hf fun g e => hS g (h.fT g e), fun x hx => ⟨own_fr (h.prc x hx).1 hf fun g e => hS g ((h.prc x hx).2 g e), (h.prc x hx).2⟩, own_fr h.evo hf fun g e => hS g (h.fE g e), own_fr h.avo hf fun g e => hS g (h.fA g e), h.fR, h.fT, h.fE, h.fA⟩
theorem RX.wide (h : RX w R rp bm vws T steps evs ats cs tv ev av) (hR : ∀ k, R k → G k) : RX w G rp bm vws T steps evs ats cs tv ev av :=
  ⟨h.blk, h.rc, h.thr, fun x hx => ⟨(h.prc x hx).1, fun g e => hR g ((h.prc x hx).2 g e)⟩, h.evo, h.avo, hR _ h.fR, fun g e => hR g (h.fT g e), fun g e => hR g (h.fE g e), fun g e => hR g (h.fA g e)⟩
theorem RX.tight (h : RX w R rp bm vws T steps evs ats cs tv ev av) : RX w (fun k => R k ∧ k < w.heap.size) rp bm vws T steps evs ats cs tv ev av :=
  ⟨h.blk, h.rc, h.thr, fun x hx => ⟨(h.prc x hx).1, fun g e => ⟨(h.prc x hx).2 g e, own_lt (h.prc x hx).1 e⟩⟩, h.evo, h.avo, ⟨h.fR, h.blk.lt⟩, fun g e => ⟨h.fT g e, own_lt h.thr e⟩, fun g e => ⟨h.fE g e, own_lt h.evo e⟩, fun g e => ⟨h.fA g e, own_lt h.avo e⟩⟩
/-- the same, where it lies left out; made since w0 -/
structure RO (w0 w : World) (R : Nat → Prop) (rp bm : Nat) (vws : List Nat) (T : List Thr) (steps : Nat) (evs : List Ev) (ats : List Int) : Prop where
  ex : ∃ cs tv ev av, RX w R rp bm vws T steps evs ats cs tv ev av
  pos : ∀ k, R k → w0.heap.size ≤ k ∧ k < w.heap.size
theorem RO.fr (h : RO w0 w R rp bm vws T steps evs ats) (hf : Fr S w w') (hS : ∀ k, R k → ¬ S k) : RO w0 w' R rp bm vws T steps evs ats := by
  obtain ⟨⟨cs, tv, ev, av, hx⟩, hp⟩ := h
  exact ⟨⟨cs, tv, ev, av, hx.fr hf hS⟩, fun k hk => ⟨(hp k hk).1, Nat.lt_of_lt_of_le (hp k hk).2 hf.size⟩⟩
theorem RO.bel (h : RO w0 w R rp bm vws T steps evs ats) (hb : Below w.heap.size w w') : RO w0 w' R rp bm vws T steps evs ats := h.fr (Fr.of_below (S := fun _ => False) hb) (fun _ _ e => e)
theorem RO.drawn (h : RO w0 w R rp bm vws T steps evs ats) (n : Nat) : RO w0 (w.drewN n) R rp bm vws T steps evs ats := h.fr ((Fr.refl (fun _ => False) w).drawn n) (fun _ _ e => e)
/-- what a step leaves: the new state, in a set that took in new blocks alone -/
def RStep (w0 w w' : World) (R : Nat → Prop) (rp bm : Nat) (vws : List Nat) (T : List Thr) (steps : Nat) (evs : List Ev) (ats : List Int) : Prop :=
  ∃ R', RO w0 w' R' rp bm vws T steps evs ats ∧ (∀ b, b < w.heap.size → ¬ R b → ¬ R' b) ∧ Fr R w w'
theorem RX.toStep (hp : ∀ k, R k → w0.heap.size ≤ k ∧ k < w.heap.size) (h0 : w0.heap.size ≤ w.heap.size) (h : RX w' (Ext R w) rp bm vws T steps evs ats cs tv ev av) (hf : Fr R w w') : RStep w0 w w' R rp bm vws T steps evs ats := by
  refine ⟨_, ⟨⟨_, _, _, _, h.tight⟩, ?_⟩, ?_, hf⟩
  · rintro k ⟨hk | hk, hl⟩
    · exact ⟨(hp k hk).1, hl⟩
    · exact ⟨Nat.le_trans h0 hk, hl⟩
  · rintro b hb hR ⟨h1 | h1, _⟩
    · exact hR h1
    · omega
theorem RO.refl (h : RO w0 w R rp bm vws T steps evs ats) : RStep w0 w w R rp bm vws T steps evs ats := ⟨R, h, fun _ _ h => h, Fr.refl _ _⟩
theorem RStep.trans {w1 : World} {T1 : List Thr} {s1 : Nat} {e1 : List Ev} {a1 : List Int} (h : ∀ R1, RO w0 w1 R1 rp bm vws T1 s1 e1 a1 → RStep w0 w1 w' R1 rp bm vws T steps evs ats) (h1 : RStep w0 w w1 R rp bm vws T1 s1 e1 a1) (hR : ∀ k, R k → k < w.heap.size) : RStep w0 w w' R rp bm vws T steps evs ats := by
  obtain ⟨R1, o1, k1, f1⟩ := h1
  obtain ⟨R2, o2, k2, f2⟩ := h R1 o1
  refine ⟨R2, o2, fun b hb hn => k2 b (Nat.lt_of_lt_of_le hb f1.size) (k1 b hb hn), ⟨f2.os.trans f1.os, f2.tape.trans f1.tape, f2.output.trans f1.output, Nat.le_trans f1.size f2.size, fun k hk hn => ?_⟩⟩
  exact (f2.block k (Nat.lt_of_lt_of_le hk f1.size) (k1 k hk hn)).trans (f1.block k hk hn)
theorem thr_len (T : List Thr) : (T.flatMap thrC).length = T.length * 3 := by
  induction T with
  | nil => rfl
  | cons x T ih => rw [List.flatMap_cons, List.length_append, ih]; simp [thrC]; omega
theorem thr_at : ∀ (T : List Thr) (i : Nat) (x : Thr) (j : Nat), T[i]? = some x → j < 3 → (T.flatMap thrC)[i * 3 + j]? = (thrC x)[j]?
  | [], i, x, j, h, _ => by simp at h
  | y :: l, 0, x, j, h, hj => by
    obtain rfl : y = x := by simpa using h
    rw [List.flatMap_cons, List.getElem?_append_left (by simp [thrC]; omega)]
    simp
  | y :: l, i + 1, x, j, h, hj => by
    have h' : l[i]? = some x := by simpa using h
    rw [List.flatMap_cons, List.getElem?_append_right (by simp [thrC]; omega), ← thr_at l i x j h' hj]
    congr 1
    simp [thrC]; omega
theorem thr_set : ∀ (T : List Thr) (i j : Nat) (x y : Thr) (u : Value), T[i]? = some x → j < 3 → thrC y = (thrC x).set j u → (T.flatMap thrC).set (i * 3 + j) u = (T.set i y).flatMap thrC
  | [], i, j, x, y, u, h, _, _ => by simp at h
  | z :: l, 0, j, x, y, u, h, hj, e => by
    obtain rfl : z = x := by simpa using h
    rw [List.flatMap_cons, List.set_append_left _ _ (by simp [thrC]; omega), List.set_cons_zero, List.flatMap_cons, e]
    simp
  | z :: l, i + 1, j, x, y, u, h, hj, e => by
    have h' : l[i]? = some x := by simpa using h
    have h3 : (thrC z).length = 3 := rfl
    rw [List.flatMap_cons, List.set_append_right _ _ (by omega), h3, show (i + 1) * 3 + j - 3 = i * 3 + j from by omega, thr_set l i j x y u h' hj e, List.set_cons_succ, List.flatMap_cons]
/-- a thread's own cells -/
theorem RX.tcell (h : RX w R rp bm vws T steps evs ats cs tv ev av) {t : Nat} {x : Thr} (hx : T[t]? = some x) : ∃ tg tc, tv = .slice (some ⟨tg, 0, none⟩) T.length tc ∧ w.cell? ⟨tg, t * 3, none⟩ = some x.pv ∧ w.cell? ⟨tg, t * 3 + 1, none⟩ = some (.int .i64 x.pos) ∧ w.cell? ⟨tg, t * 3 + 2, none⟩ = some (.bool x.op) ∧ (∀ j, w.frozen? ⟨tg, j, none⟩ = false) ∧ R tg ∧ tg ≠ rp := by
  have ht := (List.getElem?_eq_some_iff.1 hx).1
  obtain ⟨g, c, rfl, _, _⟩ := bk_form1 h.thr (by omega)
  refine ⟨g, c, rfl, own_cell h.thr ((thr_at T t x 0 hx (by decide)).trans rfl), own_cell h.thr ((thr_at T t x 1 hx (by decide)).trans rfl), own_cell h.thr ((thr_at T t x 2 hx (by decide)).trans rfl), fun j => bk_cold h.thr j, h.fT g rfl, fun e => own_ne h.thr h.blk (by decide) (by rw [e]; rfl)⟩
theorem RX.pcell (h : RX w R rp bm vws T steps evs ats cs tv ev av) {t : Nat} {x : Thr} (hx : T[t]? = some x) : ∃ p c, x.pv = .slice p x.procs.length c ∧ ∀ j u, x.procs[j]? = some u → ∃ g, p = some ⟨g, 0, none⟩ ∧ w.cell? ⟨g, j, none⟩ = some u := by
  have ho := (h.prc x (List.mem_of_getElem? hx)).1
  obtain ⟨p, c, e⟩ := bk_form ho
  refine ⟨p, c, e, fun j u hj => ?_⟩
  have hl := (List.getElem?_eq_some_iff.1 hj).1
  obtain ⟨g, c', e', _, _⟩ := bk_form1 ho (by omega)
  rw [e] at e'
  injection e' with e1 _ e3
  subst e1 e3
  rw [e] at ho
  exact ⟨g, rfl, own_cell ho hj⟩
end
end Go.Proofs.Ytenlgfagfpaenaa

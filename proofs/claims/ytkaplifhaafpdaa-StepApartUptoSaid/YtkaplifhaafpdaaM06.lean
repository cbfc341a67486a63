/-
  StA, StB, StC: the texts of the proof, merged. No condition.
-/
import Derived.Test.YtkaplifhaafpdaaM05
import Derived.Deep.QuietTactic
import Derived.BigQuiet
import Derived.LoopTactic
import Derived.Deep.AppendLies
section
/-
  A runner in the heap: its threads, what it has told. No condition.
-/
namespace Go.Proofs.Ytkaplifhaafpdaa
open Go Go.RowKit
set_option linter.unusedSimpArgs false
set_option linter.unusedVariables false
/-- an event -/
structure Ev where
  step : Int
  thread : Int
  index : Int
  ret : Bool
def evC (x : Ev) : List Value := [.int .i64 x.step, .int .i64 x.thread, .int .i64 x.index, .bool x.ret]
/-- a thread: its procs, which is next, has it begun -/
structure Thr where
  pv : Value
  procs : List Value
  pos : Nat
  op : Bool
def thrC (x : Thr) : List Value := [x.pv, .int .i64 x.pos, .bool x.op]
def is64 (l : List Int) : List Value := l.map (.int .i64)
/-- the runner's own cells -/
structure RC (cs : Array Value) (bm : Nat) (tv : Value) (vws : List Nat) (steps : Nat) (ev av : Value) : Prop where
  size : cs.size = 69
  c0 : cs[0]? = some (.pointer (some ⟨bm, 0, none⟩))
  c1 : cs[1]? = some tv
  cv : ∀ t v, vws[t]? = some v → cs[2 + t]? = some (.pointer (some ⟨v, 0, none⟩))
  nv : vws.length ≤ 64
  c66 : cs[66]? = some (.int .i64 steps)
  c67 : cs[67]? = some ev
  c68 : cs[68]? = some av
/-- a runner lies at rp, all of it within R -/
structure RX (w : World) (R : Nat → Prop) (rp bm : Nat) (vws : List Nat) (T : List Thr) (steps : Nat) (evs : List Ev) (ats : List Int) (cs : Array Value) (tv ev av : Value) : Prop where
  blk : Blk w rp 128 cs
  rc : RC cs bm tv vws steps ev av
  thr : w.ownsRow 0 131 3 tv T.length (T.flatMap thrC)
  prc : ∀ x ∈ T, w.ownsRow 0 80 1 x.pv x.procs.length x.procs ∧ ∀ g, x.pv.ownBlock = some g → R g
  evo : w.ownsRow 0 137 4 ev evs.length (evs.flatMap evC)
  avo : w.ownsRow 0 3 1 av ats.length (is64 ats)
  fR : R rp
  fT : ∀ g, tv.ownBlock = some g → R g
  fE : ∀ g, ev.ownBlock = some g → R g
  fA : ∀ g, av.ownBlock = some g → R g
section
variable {w0 w w' : World} {R S G : Nat → Prop} {rp bm : Nat} {vws : List Nat} {T : List Thr} {steps : Nat} {evs : List Ev} {ats : List Int} {cs : Array Value} {tv ev av u : Value}
theorem RC.put66 (h : RC cs bm tv vws steps ev av) (s : Nat) : RC (cs.setIfInBounds 66 (.int .i64 s)) bm tv vws s ev av := by
  obtain ⟨a, b, c, d, nv, e, f, g⟩ := h
  refine ⟨by simpa using a, ?_, ?_, fun t v hv => ?_, nv, ?_, ?_, ?_⟩ <;> rw [Array.getElem?_setIfInBounds]
  · simpa using b
  · simpa using c
  · have ht := (List.getElem?_eq_some_iff.1 hv).1
    rw [if_neg (by omega)]; exact d t v hv
  · simp [a]
  · simpa using f
  · simpa using g
theorem RC.put67 (h : RC cs bm tv vws steps ev av) (u : Value) : RC (cs.setIfInBounds 67 u) bm tv vws steps u av := by
  obtain ⟨a, b, c, d, nv, e, f, g⟩ := h
  refine ⟨by simpa using a, ?_, ?_, fun t v hv => ?_, nv, ?_, ?_, ?_⟩ <;> rw [Array.getElem?_setIfInBounds]
  · simpa using b
  · simpa using c
  · have ht := (List.getElem?_eq_some_iff.1 hv).1
    rw [if_neg (by omega)]; exact d t v hv
  · simpa using e
  · simp [a]
  · simpa using g
theorem RC.put68 (h : RC cs bm tv vws steps ev av) (u : Value) : RC (cs.setIfInBounds 68 u) bm tv vws steps ev u := by
  obtain ⟨a, b, c, d, nv, e, f, g⟩ := h
  refine ⟨by simpa using a, ?_, ?_, fun t v hv => ?_, nv, ?_, ?_, ?_⟩ <;> rw [Array.getElem?_setIfInBounds]
  · simpa using b
  · simpa using c
  · have ht := (List.getElem?_eq_some_iff.1 hv).1
    rw [if_neg (by omega)]; exact d t v hv
  · simpa using e
  · simpa using f
  · simp [a]
theorem RC.put1 (h : RC cs bm tv vws steps ev av) (u : Value) : RC (cs.setIfInBounds 1 u) bm u vws steps ev av := by
  obtain ⟨a, b, c, d, nv, e, f, g⟩ := h
  refine ⟨by simpa using a, ?_, ?_, fun t v hv => ?_, nv, ?_, ?_, ?_⟩ <;> rw [Array.getElem?_setIfInBounds]
  · simpa using b
  · simp [a]
  · rw [if_neg (by omega)]; exact d t v hv
  · simpa using e
  · simpa using f
  · simpa using g
theorem RX.fr (h : RX w R rp bm vws T steps evs ats cs tv ev av) (hf : Fr S w w') (hS : ∀ k, R k → ¬ S k) : RX w' R rp bm vws T steps evs ats cs tv ev av :=
  ⟨h.blk.fr hf (hS _ h.fR), h.rc, own_fr h.thr hf fun g e => hS g (h.fT g e), fun x hx => ⟨own_fr (h.prc x hx).1 hf fun g e => hS g ((h.prc x hx).2 g e), (h.prc x hx).2⟩, own_fr h.evo hf fun g e => hS g (h.fE g e), own_fr h.avo hf fun g e => hS g (h.fA g e), h.fR, h.fT, h.fE, h.fA⟩
theorem RX.wide (h : RX w R rp bm vws T steps evs ats cs tv ev av) (hR : ∀ k, R k → G k) : RX w G rp bm vws T steps evs ats cs tv ev av :=
  ⟨h.blk, h.rc, h.thr, fun x hx => ⟨(h.prc x hx).1, fun g e => hR g ((h.prc x hx).2 g e)⟩, h.evo, h.avo, hR _ h.fR, fun g e => hR g (h.fT g e), fun g e => hR g (h.fE g e), fun g e => hR g (h.fA g e)⟩
theorem RX.tight (h : RX w R rp bm vws T steps evs ats cs tv ev av) : RX w (fun k => R k ∧ k < w.heap.size) rp bm vws T steps evs ats cs tv ev av :=
  ⟨h.blk, h.rc, h.thr, fun x hx => ⟨(h.prc x hx).1, fun g e => ⟨(h.prc x hx).2 g e, own_lt (h.prc x hx).1 e⟩⟩, h.evo, h.avo, ⟨h.fR, h.blk.lt⟩, fun g e => ⟨h.fT g e, own_lt h.thr e⟩, fun g e => ⟨h.fE g e, own_lt h.evo e⟩, fun g e => ⟨h.fA g e, own_lt h.avo e⟩⟩
/-- the same, where it lies left out; made since w0 -/
structure RO (w0 w : World) (R : Nat → Prop) (rp bm : Nat) (vws : List Nat) (T : List Thr) (steps : Nat) (evs : List Ev) (ats : List Int) : Prop where
  ex : ∃ cs tv ev av, RX w R rp bm vws T steps evs ats cs tv ev av
  pos : ∀ k, R k → w0.heap.size ≤ k ∧ k < w.heap.size
theorem RO.fr (h : RO w0 w R rp bm vws T steps evs ats) (hf : Fr S w w') (hS : ∀ k, R k → ¬ S k) : RO w0 w' R rp bm vws T steps evs ats := by
  obtain ⟨⟨cs, tv, ev, av, hx⟩, hp⟩ := h
  exact ⟨⟨cs, tv, ev, av, hx.fr hf hS⟩, fun k hk => ⟨(hp k hk).1, Nat.lt_of_lt_of_le (hp k hk).2 hf.size⟩⟩
theorem RO.bel (h : RO w0 w R rp bm vws T steps evs ats) (hb : Below w.heap.size w w') : RO w0 w' R rp bm vws T steps evs ats := h.fr (Fr.of_below (S := fun _ => False) hb) (fun _ _ e => e)
theorem RO.drawn (h : RO w0 w R rp bm vws T steps evs ats) (n : Nat) : RO w0 (w.drewN n) R rp bm vws T steps evs ats := h.fr ((Fr.refl (fun _ => False) w).drawn n) (fun _ _ e => e)
/-- what a step leaves: the new state, in a set that took in new blocks alone -/
def RStep (w0 w w' : World) (R : Nat → Prop) (rp bm : Nat) (vws : List Nat) (T : List Thr) (steps : Nat) (evs : List Ev) (ats : List Int) : Prop :=
  ∃ R', RO w0 w' R' rp bm vws T steps evs ats ∧ (∀ b, b < w.heap.size → ¬ R b → ¬ R' b) ∧ Fr R w w'
theorem RX.toStep (hp : ∀ k, R k → w0.heap.size ≤ k ∧ k < w.heap.size) (h0 : w0.heap.size ≤ w.heap.size) (h : RX w' (Ext R w) rp bm vws T steps evs ats cs tv ev av) (hf : Fr R w w') : RStep w0 w w' R rp bm vws T steps evs ats := by
  refine ⟨_, ⟨⟨_, _, _, _, h.tight⟩, ?_⟩, ?_, hf⟩
  · rintro k ⟨hk | hk, hl⟩
    · exact ⟨(hp k hk).1, hl⟩
    · exact ⟨Nat.le_trans h0 hk, hl⟩
  · rintro b hb hR ⟨h1 | h1, _⟩
    · exact hR h1
    · omega
theorem RO.refl (h : RO w0 w R rp bm vws T steps evs ats) : RStep w0 w w R rp bm vws T steps evs ats := ⟨R, h, fun _ _ h => h, Fr.refl _ _⟩
theorem RStep.trans {w1 : World} {T1 : List Thr} {s1 : Nat} {e1 : List Ev} {a1 : List Int} (h : ∀ R1, RO w0 w1 R1 rp bm vws T1 s1 e1 a1 → RStep w0 w1 w' R1 rp bm vws T steps evs ats) (h1 : RStep w0 w w1 R rp bm vws T1 s1 e1 a1) (hR : ∀ k, R k → k < w.heap.size) : RStep w0 w w' R rp bm vws T steps evs ats := by
  obtain ⟨R1, o1, k1, f1⟩ := h1
  obtain ⟨R2, o2, k2, f2⟩ := h R1 o1
  refine ⟨R2, o2, fun b hb hn => k2 b (Nat.lt_of_lt_of_le hb f1.size) (k1 b hb hn), ⟨f2.os.trans f1.os, f2.tape.trans f1.tape, f2.output.trans f1.output, Nat.le_trans f1.size f2.size, fun k hk hn => ?_⟩⟩
  exact (f2.block k (Nat.lt_of_lt_of_le hk f1.size) (k1 k hk hn)).trans (f1.block k hk hn)
theorem thr_len (T : List Thr) : (T.flatMap thrC).length = T.length * 3 := by
  induction T with
  | nil => rfl
  | cons x T ih => rw [List.flatMap_cons, List.length_append, ih]; simp [thrC]; omega
theorem thr_at : ∀ (T : List Thr) (i : Nat) (x : Thr) (j : Nat), T[i]? = some x → j < 3 → (T.flatMap thrC)[i * 3 + j]? = (thrC x)[j]?
  | [], i, x, j, h, _ => by simp at h
  | y :: l, 0, x, j, h, hj => by
    obtain rfl : y = x := by simpa using h
    rw [List.flatMap_cons, List.getElem?_append_left (by simp [thrC]; omega)]
    simp
  | y :: l, i + 1, x, j, h, hj => by
    have h' : l[i]? = some x := by simpa using h
    rw [List.flatMap_cons, List.getElem?_append_right (by simp [thrC]; omega), ← thr_at l i x j h' hj]
    congr 1
    simp [thrC]; omega
theorem thr_set : ∀ (T : List Thr) (i j : Nat) (x y : Thr) (u : Value), T[i]? = some x → j < 3 → thrC y = (thrC x).set j u → (T.flatMap thrC).set (i * 3 + j) u = (T.set i y).flatMap thrC
  | [], i, j, x, y, u, h, _, _ => by simp at h
  | z :: l, 0, j, x, y, u, h, hj, e => by
    obtain rfl : z = x := by simpa using h
    rw [List.flatMap_cons, List.set_append_left _ _ (by simp [thrC]; omega), List.set_cons_zero, List.flatMap_cons, e]
    simp
  | z :: l, i + 1, j, x, y, u, h, hj, e => by
    have h' : l[i]? = some x := by simpa using h
    have h3 : (thrC z).length = 3 := rfl
    rw [List.flatMap_cons, List.set_append_right _ _ (by omega), h3, show (i + 1) * 3 + j - 3 = i * 3 + j from by omega, thr_set l i j x y u h' hj e, List.set_cons_succ, List.flatMap_cons]
/-- a thread's own cells -/
theorem RX.tcell (h : RX w R rp bm vws T steps evs ats cs tv ev av) {t : Nat} {x : Thr} (hx : T[t]? = some x) : ∃ tg tc, tv = .slice (some ⟨tg, 0, none⟩) T.length tc ∧ w.cell? ⟨tg, t * 3, none⟩ = some x.pv ∧ w.cell? ⟨tg, t * 3 + 1, none⟩ = some (.int .i64 x.pos) ∧ w.cell? ⟨tg, t * 3 + 2, none⟩ = some (.bool x.op) ∧ (∀ j, w.frozen? ⟨tg, j, none⟩ = false) ∧ R tg ∧ tg ≠ rp := by
  have ht := (List.getElem?_eq_some_iff.1 hx).1
  obtain ⟨g, c, rfl, _, _⟩ := bk_form1 h.thr (by omega)
  refine ⟨g, c, rfl, own_cell h.thr ((thr_at T t x 0 hx (by decide)).trans rfl), own_cell h.thr ((thr_at T t x 1 hx (by decide)).trans rfl), own_cell h.thr ((thr_at T t x 2 hx (by decide)).trans rfl), fun j => bk_cold h.thr j, h.fT g rfl, fun e => own_ne h.thr h.blk (by decide) (by rw [e]; rfl)⟩
theorem RX.pcell (h : RX w R rp bm vws T steps evs ats cs tv ev av) {t : Nat} {x : Thr} (hx : T[t]? = some x) : ∃ p c, x.pv = .slice p x.procs.length c ∧ ∀ j u, x.procs[j]? = some u → ∃ g, p = some ⟨g, 0, none⟩ ∧ w.cell? ⟨g, j, none⟩ = some u := by
  have ho := (h.prc x (List.mem_of_getElem? hx)).1
  obtain ⟨p, c, e⟩ := bk_form ho
  refine ⟨p, c, e, fun j u hj => ?_⟩
  have hl := (List.getElem?_eq_some_iff.1 hj).1
  obtain ⟨g, c', e', _, _⟩ := bk_form1 ho (by omega)
  rw [e] at e'
  injection e' with e1 _ e3
  subst e1 e3
  rw [e] at ho
  exact ⟨g, rfl, own_cell ho hj⟩
end
end Go.Proofs.Ytkaplifhaafpdaa
end
section
/-
  A runner: is a thread idle, are all done; the steps of accesses are written down. No condition.
-/
namespace Go.Proofs.Ytkaplifhaafpdaa
open Go Go.RowKit
set_option linter.unusedSimpArgs false
set_option linter.unusedVariables false
/-- has a thread nothing to do? -/
def idle (T : List Thr) (t : Int) : Bool := if 0 ≤ t ∧ t < T.length then (match T[t.toNat]? with | some x => decide (x.procs.length ≤ x.pos) | none => true) else true
section
variable {w0 w w' : World} {R S G : Nat → Prop} {rp bm : Nat} {vws : List Nat} {T : List Thr} {steps : Nat} {evs : List Ev} {ats : List Int} {cs : Array Value} {tv ev av u : Value}
theorem idle_in {t : Nat} {x : Thr} (hx : T[t]? = some x) : idle T t = decide (x.procs.length ≤ x.pos) := by
  have := (List.getElem?_eq_some_iff.1 hx).1
  unfold idle
  rw [if_pos ⟨by omega, by omega⟩]
  simp [hx]
set_option maxRecDepth 100000 in
theorem isIdle_any (h : RX w R rp bm vws T steps evs ats cs tv ev av) (hn : T.length ≤ 1000000000) (t : Int) (hpl : ∀ x ∈ T, x.procs.length ≤ 1000000000) :
    Calls Try.prog 54 #[.pointer (some ⟨rp, 0, none⟩), .int .i64 t] w fun e w' => e = .returned (.bool (idle T t)) ∧ ∃ n, w' = w.drewN n := by
  by_cases h0 : t < 0
  · have h1 : decide (t < 0) = true := by simpa using h0
    have hi : idle T t = true := by unfold idle; rw [if_neg (by omega)]
    rw [hi]
    clear hi h0 h
    go_enter Try.func54, Try.ntmps54
    go_wp2_with fail
    go_quiet (fail)
    all_goals
      go_wp2
      go_ret
      exact ⟨rfl, _, rfl⟩
  · have h1 : decide (t < 0) = false := by simpa using h0
    obtain ⟨tp, tc, rfl⟩ := bk_form h.thr
    have c1 : w.cell? ⟨rp, 1, none⟩ = some (.slice tp T.length tc) := (h.blk.cell 1).trans h.rc.c1
    obtain ⟨k, rfl⟩ : ∃ k : Nat, t = k := ⟨t.toNat, by omega⟩
    by_cases h2 : k < T.length
    · obtain ⟨x, hx⟩ : ∃ x, T[k]? = some x := ⟨_, List.getElem?_eq_getElem h2⟩
      obtain ⟨tg, tc', e, d0, d1, -⟩ := h.tcell hx
      obtain ⟨p, c, e3, -⟩ := h.pcell hx
      have hpx := hpl x (List.mem_of_getElem? hx)
      injection e with e1 _ e2
      subst e1 e2
      rw [e3] at d0
      rw [idle_in hx]
      have h3 : decide ((T.length : Int) ≤ (k : Int)) = false := by simp; omega
      have h4 : decide (T.length ≤ k) = false := by simp; omega
      clear h hx e3 hpl h0
      generalize x.procs.length = pn at *
      generalize x.pos = px at *
      generalize T.length = n at *
      go_enter Try.func54, Try.ntmps54
      go_wp2_with fail
      go_quiet (fail)
      all_goals
        go_wp2
        go_ret
        exact ⟨by simp, _, rfl⟩
    · have h3 : decide ((T.length : Int) ≤ (k : Int)) = true := by simp; omega
      have h4 : decide (T.length ≤ k) = true := by simp; omega
      have hi : idle T (k : Int) = true := by unfold idle; rw [if_neg (by omega)]
      rw [hi]
      clear hi h hpl h0
      generalize T.length = n at *
      go_enter Try.func54, Try.ntmps54
      go_wp2_with fail
      go_quiet (fail)
      all_goals
        go_wp2
        go_ret
        exact ⟨rfl, _, rfl⟩
end
end Go.Proofs.Ytkaplifhaafpdaa
end
section
/-
  A runner: what a store and an append leave; all are done; accesses are written down. No condition.
-/
namespace Go.Proofs.Ytkaplifhaafpdaa
open Go Go.RowKit
set_option linter.unusedSimpArgs false
set_option linter.unusedVariables false
/-- have all threads nothing to do? -/
def allDone (T : List Thr) : Bool := T.all (fun x => decide (x.procs.length ≤ x.pos))
/-- the steps of new accesses -/
def noted (ats : List Int) (step : Int) (ahead now : Nat) : List Int := (ats ++ List.replicate (ahead - ats.length) (-1)) ++ List.replicate (now - (ats.length + (ahead - ats.length))) step
section
variable {w0 w w' w1 : World} {R S G : Nat → Prop} {rp bm : Nat} {vws : List Nat} {T : List Thr} {steps : Nat} {evs : List Ev} {ats : List Int} {cs : Array Value} {tv ev av u v' : Value}
theorem RX.put66 (h : RX w R rp bm vws T steps evs ats cs tv ev av) (s : Nat) : RX (w.setCell ⟨rp, 66, none⟩ (.int .i64 s)) R rp bm vws T s evs ats (cs.setIfInBounds 66 (.int .i64 s)) tv ev av ∧ Fr R w (w.setCell ⟨rp, 66, none⟩ (.int .i64 s)) := by
  have f : Fr (fun b => b = rp) w (w.setCell ⟨rp, 66, none⟩ (.int .i64 s)) := (Fr.refl (fun b => b = rp) w).put (p := ⟨rp, 66, none⟩) (.inl rfl) _
  refine ⟨⟨h.blk.put 66 _, h.rc.put66 s, own_fr h.thr f ?_, fun x hx => ⟨own_fr (h.prc x hx).1 f ?_, (h.prc x hx).2⟩, own_fr h.evo f ?_, own_fr h.avo f ?_, h.fR, h.fT, h.fE, h.fA⟩, f.mono (fun k _ e => e ▸ h.fR)⟩
  · rintro g e rfl; exact own_ne h.thr h.blk (by decide) e
  · rintro g e rfl; exact own_ne (h.prc x hx).1 h.blk (by decide) e
  · rintro g e rfl; exact own_ne h.evo h.blk (by decide) e
  · rintro g e rfl; exact own_ne h.avo h.blk (by decide) e
/-- a thread's cell is written -/
theorem RX.putThr (h : RX w R rp bm vws T steps evs ats cs tv ev av) {t j : Nat} {x y : Thr} (hx : T[t]? = some x) (hj : j < 3) (he : thrC y = (thrC x).set j u) (hp : y.pv = x.pv) (hq : y.procs = x.procs) {tg tc : Nat} (htv : tv = .slice (some ⟨tg, 0, none⟩) T.length tc) :
    RX (w.setCell ⟨tg, t * 3 + j, none⟩ u) R rp bm vws (T.set t y) steps evs ats cs tv ev av ∧ Fr R w (w.setCell ⟨tg, t * 3 + j, none⟩ u) := by
  have f : Fr (fun b => b = tg) w (w.setCell ⟨tg, t * 3 + j, none⟩ u) := (Fr.refl (fun b => b = tg) w).put (p := ⟨tg, t * 3 + j, none⟩) (.inl rfl) _
  have htg : tv.ownBlock = some tg := by rw [htv]; rfl
  have ht := (List.getElem?_eq_some_iff.1 hx).1
  have hown := h.thr
  rw [htv] at hown
  obtain ⟨bcs, hbt⟩ := bk_blk hown (g := tg) rfl
  have hput := bk_put hown (j := t * 3 + j) (by omega) u
  rw [thr_set T t j x y u hx hj he] at hput
  refine ⟨⟨h.blk.fr f ?_, h.rc, ?_, fun z hz => ?_, own_fr h.evo f ?_, own_fr h.avo f ?_, h.fR, h.fT, h.fE, h.fA⟩, f.mono (fun k _ e => e ▸ h.fT _ htg)⟩
  · intro e; exact own_ne hown h.blk (by decide) (by rw [e]; rfl)
  · rw [htv, List.length_set]; exact hput
  · have hz' : ∃ z' ∈ T, z.pv = z'.pv ∧ z.procs = z'.procs := by
      rcases List.mem_or_eq_of_mem_set hz with hz | rfl
      · exact ⟨z, hz, rfl, rfl⟩
      · exact ⟨x, List.mem_of_getElem? hx, hp, hq⟩
    obtain ⟨z', hz', e1, e2⟩ := hz'
    rw [e1, e2]
    refine ⟨own_fr (h.prc z' hz').1 f ?_, (h.prc z' hz').2⟩
    rintro g e rfl
    exact own_ne (h.prc z' hz').1 hbt (by decide) e
  · rintro g e rfl; exact own_ne h.evo hbt (by decide) e
  · rintro g e rfl; exact own_ne h.avo hbt (by decide) e
/-- one more in the row of steps -/
theorem RX.push68 (h : RX w R rp bm vws T steps evs ats cs tv ev av) (o : Obj) {x : Int} {g c : Nat} (hown : w1.ownsRow 0 3 1 (.slice (some ⟨g, 0, none⟩) (ats.length + 1) c) (ats.length + 1) (is64 ats ++ [.int .i64 x])) (hgrow : (w.alloc o).grownBy w1 av.ownBlock) (hat : av.ownBlock = some g ∨ g = w.heap.size + 1) :
    RX (w1.setCell ⟨rp, 68, none⟩ (.slice (some ⟨g, 0, none⟩) (ats.length + 1) c)) (Ext R w) rp bm vws T steps evs (ats ++ [x]) (cs.setIfInBounds 68 (.slice (some ⟨g, 0, none⟩) (ats.length + 1) c)) tv ev (.slice (some ⟨g, 0, none⟩) (ats.length + 1) c) ∧ Fr R w (w1.setCell ⟨rp, 68, none⟩ (.slice (some ⟨g, 0, none⟩) (ats.length + 1) c)) ∧
      w1.cell? ⟨rp, 68, none⟩ = some av ∧ w1.frozen? ⟨rp, 68, none⟩ = false := by
  have f1 : Fr (fun b => av.ownBlock = some b) w w1 := ((Fr.refl (fun b => av.ownBlock = some b) w).alloc o).grown hgrow (fun k e => .inl e)
  have f2 : Fr (fun b => av.ownBlock = some b ∨ b = rp) w (w1.setCell ⟨rp, 68, none⟩ (.slice (some ⟨g, 0, none⟩) (ats.length + 1) c)) := (f1.mono (fun _ _ e => .inl e)).put (p := ⟨rp, 68, none⟩) (.inl (.inr rfl)) _
  have hrp : ¬ av.ownBlock = some rp := own_ne h.avo h.blk (by decide)
  have hb1 := h.blk.fr f1 hrp
  have hgr : g ≠ rp := fun e => own_ne hown hb1 (by decide) (by rw [e]; rfl)
  have hS : ∀ {e : TypeId} {n size : Nat} {v : Value} {xs : List Value}, w.ownsRow 0 e size v n xs → e ≠ 3 → e ≠ 128 → (w1.setCell ⟨rp, 68, none⟩ (.slice (some ⟨g, 0, none⟩) (ats.length + 1) c)).ownsRow 0 e size v n xs := by
    intro e n size v xs hv h1 h2
    refine own_fr hv f2 ?_
    rintro k hk (e2 | rfl)
    · obtain ⟨cs1, b1⟩ := bk_blk h.avo e2
      exact own_ne hv b1 h1 hk
    · exact own_ne hv h.blk h2 hk
  refine ⟨⟨hb1.put 68 _, h.rc.put68 _, hS h.thr (by decide) (by decide), fun x hx => ⟨hS (h.prc x hx).1 (by decide) (by decide), fun g e => .inl ((h.prc x hx).2 g e)⟩, hS h.evo (by decide) (by decide), ?_, .inl h.fR, fun g e => .inl (h.fT g e), fun g e => .inl (h.fE g e), fun g' e => ?_⟩, f2.mono ?_, (hb1.cell 68).trans h.rc.c68, hb1.cold 68⟩
  · have := own_fr hown ((Fr.refl (fun b => b = rp) w1).put (p := ⟨rp, 68, none⟩) (.inl rfl) (.slice (some ⟨g, 0, none⟩) (ats.length + 1) c)) (by intro g' e; simp [Value.ownBlock] at e; subst e; exact hgr)
    simpa [is64] using this
  · have e : g = g' := by simpa [Value.ownBlock] using e
    subst e
    rcases hat with hat | hat
    · exact .inl (h.fA g hat)
    · right; omega
  · rintro k _ (e | e)
    · exact h.fA k e
    · subst e; exact h.fR
/-- one more event -/
theorem RX.push67 (h : RX w R rp bm vws T steps evs ats cs tv ev av) {wy : World} (hy : Fr (fun _ => False) w wy) {x : Ev} {g c : Nat} (hown : w1.ownsRow 0 137 4 (.slice (some ⟨g, 0, none⟩) (evs.length + 1) c) (evs.length + 1) (evs.flatMap evC ++ evC x)) (hgrow : wy.grownBy w1 ev.ownBlock) (hat : ev.ownBlock = some g ∨ w.heap.size ≤ g) :
    RX (w1.setCell ⟨rp, 67, none⟩ (.slice (some ⟨g, 0, none⟩) (evs.length + 1) c)) (Ext R w) rp bm vws T steps (evs ++ [x]) ats (cs.setIfInBounds 67 (.slice (some ⟨g, 0, none⟩) (evs.length + 1) c)) tv (.slice (some ⟨g, 0, none⟩) (evs.length + 1) c) av ∧ Fr R w (w1.setCell ⟨rp, 67, none⟩ (.slice (some ⟨g, 0, none⟩) (evs.length + 1) c)) ∧
      w1.cell? ⟨rp, 67, none⟩ = some ev ∧ w1.frozen? ⟨rp, 67, none⟩ = false := by
  have f1 : Fr (fun b => ev.ownBlock = some b) w w1 := (hy.mono (fun _ _ e => e.elim)).grown hgrow (fun k e => .inl e)
  have f2 : Fr (fun b => ev.ownBlock = some b ∨ b = rp) w (w1.setCell ⟨rp, 67, none⟩ (.slice (some ⟨g, 0, none⟩) (evs.length + 1) c)) := (f1.mono (fun _ _ e => .inl e)).put (p := ⟨rp, 67, none⟩) (.inl (.inr rfl)) _
  have hrp : ¬ ev.ownBlock = some rp := own_ne h.evo h.blk (by decide)
  have hb1 := h.blk.fr f1 hrp
  have hgr : g ≠ rp := fun e => own_ne hown hb1 (by decide) (by rw [e]; rfl)
  have hS : ∀ {e : TypeId} {n size : Nat} {v : Value} {xs : List Value}, w.ownsRow 0 e size v n xs → e ≠ 137 → e ≠ 128 → (w1.setCell ⟨rp, 67, none⟩ (.slice (some ⟨g, 0, none⟩) (evs.length + 1) c)).ownsRow 0 e size v n xs := by
    intro e n size v xs hv h1 h2
    refine own_fr hv f2 ?_
    rintro k hk (e2 | rfl)
    · obtain ⟨cs1, b1⟩ := bk_blk h.evo e2
      exact own_ne hv b1 h1 hk
    · exact own_ne hv h.blk h2 hk
  refine ⟨⟨hb1.put 67 _, h.rc.put67 _, hS h.thr (by decide) (by decide), fun x hx => ⟨hS (h.prc x hx).1 (by decide) (by decide), fun g e => .inl ((h.prc x hx).2 g e)⟩, ?_, hS h.avo (by decide) (by decide), .inl h.fR, fun g e => .inl (h.fT g e), fun g' e => ?_, fun g e => .inl (h.fA g e)⟩, f2.mono ?_, (hb1.cell 67).trans h.rc.c67, hb1.cold 67⟩
  · have := own_fr hown ((Fr.refl (fun b => b = rp) w1).put (p := ⟨rp, 67, none⟩) (.inl rfl) (.slice (some ⟨g, 0, none⟩) (evs.length + 1) c)) (by intro g' e; simp [Value.ownBlock] at e; subst e; exact hgr)
    simpa using this
  · have e : g = g' := by simpa [Value.ownBlock] using e
    subst e
    rcases hat with hat | hat
    · exact .inl (h.fE g hat)
    · right; exact hat
  · rintro k _ (e | e)
    · exact h.fE k e
    · subst e; exact h.fR
theorem steps_any (h : RX w R rp bm vws T steps evs ats cs tv ev av) : Calls Try.prog 21 #[.pointer (some ⟨rp, 0, none⟩)] w fun e w' => e = .returned (.int .i64 steps) ∧ w = w' := by
  have c1 : w.cell? ⟨rp, 66, none⟩ = some (.int .i64 steps) := (h.blk.cell 66).trans h.rc.c66
  clear h
  go_enter Try.func21, Try.ntmps21
  go_wp2
  go_ret
  exact ⟨rfl, rfl⟩
set_option maxRecDepth 100000 in
theorem Done_any (h : RX w R rp bm vws T steps evs ats cs tv ev av) (hn : T.length ≤ 1000000000) (hpl : ∀ x ∈ T, x.procs.length ≤ 1000000000) :
    Calls Try.prog 23 #[.pointer (some ⟨rp, 0, none⟩)] w fun e w' => e = .returned (.bool (allDone T)) ∧ ∃ n, w' = w.drewN n := by
  obtain ⟨tp, tc, rfl⟩ := bk_form h.thr
  have c1 : w.cell? ⟨rp, 1, none⟩ = some (.slice tp T.length tc) := (h.blk.cell 1).trans h.rc.c1
  have HI : Hid (∀ (d k : Nat), Calls Try.prog 54 #[.pointer (some ⟨rp, 0, none⟩), .int .i64 (k : Int)] (w.drewN d) fun e w' => e = .returned (.bool (idle T k)) ∧ ∃ n, w' = (w.drewN d).drewN n) := fun d k =>
    isIdle_any (h.fr ((Fr.refl (fun _ => False) w).drawn d) (fun _ _ e => e)) hn k hpl
  clear h hpl
  go_enter Try.func23, Try.ntmps23
  go_wp2_with fail
  go_loopw [11] (fun i wr => ∃ k d : Nat, i = .int .i64 k ∧ k ≤ T.length ∧ wr = w.drewN d ∧ ∀ j, j < k → idle T (j : Int) = true) (fun i _ => T.length - (intOf i).toNat)
  case atStart => exact ⟨0, 0, rfl, Nat.zero_le _, rfl, fun j hj => by omega⟩
  case round =>
    obtain ⟨k, d, rfl, hk, rfl, hall⟩ := hrel
    by_cases hlt : k < T.length
    · have HK := Lib.hid (HI.out d k)
      obtain ⟨x, hx⟩ : ∃ x, T[k]? = some x := ⟨_, List.getElem?_eq_getElem hlt⟩
      have hid := idle_in hx
      cases hi : idle T (k : Int)
      · rw [hi] at HK hid
        have hF : Hid (allDone T = false) := by
          show _ = _
          unfold allDone
          rw [List.all_eq_false]
          exact ⟨x, List.mem_of_getElem? hx, by simpa using hid.symm⟩
        clear hall hx hid hi
        go_wp2_with fail
        refine HK.out.mono ?_
        rintro e w2 ⟨rfl, n2, rfl⟩
        go_wp2
        go_ret
        exact ⟨by rw [hF.out]; rfl, d + n2, by simp [World.drewN, Nat.add_assoc]⟩
      · rw [hi] at HK
        have HALL := Lib.hid hall
        have HII := Lib.hid hi
        clear hall hx hid hi
        go_wp2_with fail
        refine HK.out.mono ?_
        rintro e w2 ⟨rfl, n2, rfl⟩
        go_wp2_with fail
        go_roundw
        case rel =>
          refine ⟨k + 1, d + n2, by go_num, by omega, by simp [World.drewN, Nat.add_assoc], fun j hj => ?_⟩
          by_cases e : j = k
          · subst e; exact HII.out
          · exact HALL.out j (by omega)
        case measure => simp [intOf]; omega
    · obtain rfl : k = T.length := by omega
      have hF : Hid (allDone T = true) := by
        show _ = _
        unfold allDone
        rw [List.all_eq_true]
        intro x hx
        obtain ⟨j, hj, rfl⟩ := List.getElem_of_mem hx
        have := hall j hj
        rw [idle_in (List.getElem?_eq_getElem hj)] at this
        exact this
      clear hall
      go_wp2
      go_ret
      exact ⟨by rw [hF.out]; rfl, d, rfl⟩
end
end Go.Proofs.Ytkaplifhaafpdaa
end

/-
  BookW, StA, StB: the texts of the proof, merged. No condition.
-/
import Derived.Test.YtkaplifhaafpdaaGreatM00
import Derived.Maps.AppendAt
import Derived.Laws.CopyOwn
import Derived.Test.YtkaplifhaafpdaaGreatM03
import Derived.Deep.QuietTactic
import Derived.BigQuiet
import Derived.LoopTactic
section
/-
  Words for rows that are handed out: what an append does to the row's block; a row's cells one by one. No condition.
-/
namespace Go.Proofs.YtkaplifhaafpdaaGreat
open Go Go.RowKit
set_option linter.unusedSimpArgs false
set_option linter.unusedVariables false
section
variable {P : Program} {w w' : World} {B g n c m : Nat} {e : TypeId} {size : Nat} {v u : Value} {xs ys : List Value}
theorem bk_form (h : w.ownsRow B e size v n xs) : ∃ p c, v = .slice p n c := by
  rcases h.2 with ⟨h1, h0⟩ | ⟨g, cap, cur, h1, _⟩
  · exact ⟨none, 0, by rw [h1, h0]⟩
  · exact ⟨_, _, h1⟩
theorem bk_form1 (h : w.ownsRow B e size v n xs) (hn : 0 < n) : ∃ g c, v = .slice (some ⟨g, 0, none⟩) n c ∧ B ≤ g ∧ g < w.heap.size := by
  rcases h.2 with ⟨h1, h0⟩ | ⟨g, cap, cur, h1, hb, hh, _⟩
  · omega
  · exact ⟨_, _, h1, hb, Blk.lt (t := e) hh⟩
theorem bk_cold (h : w.ownsRow B e size (.slice (some ⟨g, 0, none⟩) n c) n xs) (j : Nat) : w.frozen? ⟨g, j, none⟩ = false := by
  rcases h.2 with ⟨h0, _⟩ | ⟨g', cap, cur, hv, hb, hh, _⟩
  · cases h0
  · obtain rfl : g' = g := by injection hv with a b c; injection a with a; injection a with a; exact a.symm
    exact Blk.cold (t := e) hh j
theorem bk_put {j : Nat} (h : w.ownsRow B e size (.slice (some ⟨g, 0, none⟩) n c) n xs) (hj : j < n * size) (u : Value) :
    (w.setCell ⟨g, j, none⟩ u).ownsRow B e size (.slice (some ⟨g, 0, none⟩) n c) n (xs.set j u) := by
  refine ⟨by simpa using h.1, ?_⟩
  rcases h.2 with ⟨h0, _⟩ | ⟨g', cap, cur, hv, hb, hh, h1, h2, h3, h4⟩
  · cases h0
  · obtain ⟨rfl, rfl⟩ : g' = g ∧ cap = c := by injection hv with a b c; injection a with a; injection a with a; exact ⟨a.symm, c.symm⟩
    refine .inr ⟨g', cap, cur.setIfInBounds j u, rfl, hb, ?_, h1, h2, by simpa using h3, ?_⟩
    · exact Blk.put (t := e) hh j u
    · rw [← h4, Array.toList_setIfInBounds, List.take_set]
theorem bk_blk (h : w.ownsRow B e size v n xs) (hg : v.ownBlock = some g) : ∃ cs, Blk w g e cs := by
  rcases h.2 with ⟨rfl, _⟩ | ⟨g', cap, cur, rfl, _, hh, _⟩
  · simp [Value.ownBlock] at hg
  · have : g' = g := by simpa [Value.ownBlock] using hg
    subst this
    exact ⟨_, hh⟩
theorem bk_prefix (h : w.ownsRow B e size (.slice (some ⟨g, 0, none⟩) n c) n xs) (h' : w'.ownsRow B e size (.slice (some ⟨g, 0, none⟩) m c) m ys) (hm : n ≤ m) (hx : xs = ys.take (n * size)) :
    w'.ownsRow B e size (.slice (some ⟨g, 0, none⟩) n c) n xs := by
  refine ⟨h.1, ?_⟩
  rcases h'.2 with ⟨h0, _⟩ | ⟨g', cap, cur, hv, hb, hh, h1, h2, h3, h4⟩
  · cases h0
  · obtain ⟨rfl, rfl⟩ : g' = g ∧ cap = c := by injection hv with a b c; injection a with a; injection a with a; exact ⟨a.symm, c.symm⟩
    refine .inr ⟨g', cap, cur, rfl, hb, hh, Nat.le_trans hm h1, h2, h3, ?_⟩
    rw [hx, ← h4, List.take_take, Nat.min_eq_left (Nat.mul_le_mul_right _ hm)]
/-- what an append does: it stays in its block, or goes to a new one -/
def Fate (w w' : World) (v v' : Value) (n m : Nat) : Prop :=
  (∃ g c, v = .slice (some ⟨g, 0, none⟩) n c ∧ v' = .slice (some ⟨g, 0, none⟩) (n + m) c ∧ w.grownBy w' (some g)) ∨ (v'.ownBlock = some w.heap.size ∧ w.grownBy w' none)
theorem run_append_fate (base : Nat) (t ty : TypeId) (i : TypeInfo) (z : Value) (bytes : Nat) (ht : P.underlying t = some (.slice e)) (hi : P.info? e = some i) (hz : i.zero = some z)
    (hsize : i.size = size) (hby : i.bytes = bytes) (hzs : z.cells.size = size) (hsz : 0 < size) (hown : w.ownsRow base e size v n xs)
    (a : Addr) (news : List Value) (hl : news.length = m * size) (hnews : ∀ j u, news[j]? = some u → w.cell? (a.add j) = some u) (h1 : ∀ u ∈ news, u.oneCell' = true) (hm : 0 < m)
    (h63 : n + m ≤ maxLen) (hbytes : (n + m) * bytes ≤ 140737488355328) (hbase : base ≤ w.heap.size) :
    ∃ v' w', (Builtin.append_ #[t, t] ty #[v, .slice (some a) m c]).run P w = .ok v' w' ∧ w'.ownsRow base e size v' (n + m) (xs ++ news) ∧ Fate w w' v v' n m := by
  obtain ⟨v', w', hr, h2, h3, h4, h5⟩ := run_append_own_at (P := P) w base t ty e i z size bytes ht hi hz hsize hby hzs hsz v n xs hown a m c news hl hnews h1 h63 hbytes hbase
  refine ⟨v', w', hr, h2, ?_⟩
  have hsmall : n + m ≤ 9223372036854775807 := by simp only [maxLen] at h63; omega
  rcases hown.2 with ⟨rfl, rfl⟩ | ⟨g, cap, cur, rfl, hbg, hg, hnc, hcm, hcs, htake⟩
  · have hr2 := run_append_nil (P := P) w t ty e i z ht hi hz a m c news (by rw [hsize]; exact hl) hnews (by omega) (by omega) (by rw [hby]; have := hbytes; rw [Nat.zero_add] at this; omega)
    rw [hr] at hr2
    injection hr2 with e1 e2
    subst e1 e2
    exact .inr ⟨rfl, ⟨rfl, rfl, rfl, by simp, fun k hk _ => heap_alloc_old w.drew _ hk⟩⟩
  · by_cases hroom : n + m ≤ cap
    · have hfit : n * i.size + news.length ≤ cur.size := by rw [hsize, hl, hcs, ← Nat.add_mul]; exact Nat.mul_le_mul_right _ hroom
      have hr2 := run_append_room (P := P) w t ty e i ht hi g n cap cur hg a m c news (by rw [hsize]; exact hl) hnews h1 hroom hfit
      rw [hr] at hr2
      injection hr2 with e1 e2
      exact .inl ⟨g, cap, rfl, e1, h3⟩
    · have holds : ∀ j u, xs[j]? = some u → w.cell? ((⟨g, 0, none⟩ : Addr).add j) = some u := hown.cells (g := g) rfl
      have hr2 := run_append_grow (P := P) w t ty e i z ht hi hz ⟨g, 0, none⟩ n cap xs (by rw [hsize]; exact hown.1) holds a m c news (by rw [hsize]; exact hl) hnews (by omega) (by omega) (growslice_fits (by omega) (by rw [hby]; exact hbytes))
      rw [hr] at hr2
      injection hr2 with e1 e2
      subst e1 e2
      exact .inr ⟨rfl, ⟨rfl, rfl, rfl, by simp, fun k hk _ => heap_alloc_old w.drew _ hk⟩⟩
theorem wpList_append_fate {ops : Array Oper} {rest : List Oper} {o : Oper} {a : Act} {Q : Exit → Act → World → Prop} (hgd : o.guard = none) (s x : Operand) (t : TypeId)
    (ho : o.op = .call { callee := .builtin .append, args := #[s, x], argTypes := #[t, t] })
    (base : Nat) (e : TypeId) (i : TypeInfo) (z : Value) (size bytes : Nat) (ht : P.underlying t = some (.slice e)) (hi : P.info? e = some i) (hz : i.zero = some z)
    (hsize : i.size = size) (hby : i.bytes = bytes) (hzs : z.cells.size = size) (hsz : 0 < size)
    (v : Value) (n : Nat) (xs : List Value) (hs : a.eval s = v) (hown : w.ownsRow base e size v n xs)
    (ad : Addr) (m c : Nat) (news : List Value) (hx : a.eval x = .slice (some ad) m c) (hl : news.length = m * size) (hnews : ∀ j u, news[j]? = some u → w.cell? (ad.add j) = some u) (h1 : ∀ u ∈ news, u.oneCell' = true) (hm : 0 < m)
    (h63 : n + m ≤ maxLen) (hbytes : (n + m) * bytes ≤ 140737488355328) (hbase : base ≤ w.heap.size)
    (h : ∀ v' w', w'.ownsRow base e size v' (n + m) (xs ++ news) → Fate w w' v v' n m → wpList P ops Q rest (a.put o.dst v') w') :
    wpList P ops Q (o :: rest) a w := by
  refine wpList_plain hgd fun K hK => ?_
  obtain ⟨v', w', hr, h2, h3⟩ := run_append_fate (P := P) base t o.type i z bytes ht hi hz hsize hby hzs hsz hown ad (c := c) news hl hnews h1 hm h63 hbytes hbase
  unfold Oper.wp execOp
  simp only [ho, resolve, invoke, builtin, Sem.run_bind, Sem.run_pure, Result.andThen_ok, List.map_toArray, List.map_cons, List.map_nil, hs, hx, hr]
  exact hK _ _ (h v' w' h2 h3)
theorem Fate.szle (h : Fate w w' v u n m) : w.heap.size ≤ w'.heap.size := by
  rcases h with ⟨_, _, _, _, h⟩ | ⟨_, h⟩ <;> exact h.size
theorem Fate.grown (h : Fate w w' v u n m) : w.grownBy w' v.ownBlock := by
  rcases h with ⟨_, _, rfl, _, h⟩ | ⟨_, h⟩
  · exact h
  · exact ⟨h.os, h.tape, h.output, h.size, fun k hk _ => h.block k hk (by simp)⟩
end
end Go.Proofs.YtkaplifhaafpdaaGreat
end
section
/-
  A runner in the heap: its threads, what it has told. No condition.
-/
namespace Go.Proofs.YtkaplifhaafpdaaGreat
open Go Go.RowKit
set_option linter.unusedSimpArgs false
set_option linter.unusedVariables false
/-- an event -/
structure Ev where
  step : Int
  thread : Int
  index : Int
  ret : Bool
def evC (x : Ev) : List Value := [.int .i64 x.step, .int .i64 x.thread, .int .i64 x.index, .bool x.ret]
/-- a thread: its procs, which is next, has it begun -/
structure Thr where
  pv : Value
  procs : List Value
  pos : Nat
  op : Bool
def thrC (x : Thr) : List Value := [x.pv, .int .i64 x.pos, .bool x.op]
def is64 (l : List Int) : List Value := l.map (.int .i64)
/-- the runner's own cells -/
structure RC (cs : Array Value) (bm : Nat) (tv : Value) (vws : List Nat) (steps : Nat) (ev av : Value) : Prop where
  size : cs.size = 69
  c0 : cs[0]? = some (.pointer (some ⟨bm, 0, none⟩))
  c1 : cs[1]? = some tv
  cv : ∀ t v, vws[t]? = some v → cs[2 + t]? = some (.pointer (some ⟨v, 0, none⟩))
  nv : vws.length ≤ 64
  c66 : cs[66]? = some (.int .i64 steps)
  c67 : cs[67]? = some ev
  c68 : cs[68]? = some av
/-- a runner lies at rp, all of it within R -/
structure RX (w : World) (R : Nat → Prop) (rp bm : Nat) (vws : List Nat) (T : List Thr) (steps : Nat) (evs : List Ev) (ats : List Int) (cs : Array Value) (tv ev av : Value) : Prop where
  blk : Blk w rp 92 cs
  rc : RC cs bm tv vws steps ev av
  thr : w.ownsRow 0 95 3 tv T.length (T.flatMap thrC)
  prc : ∀ x ∈ T, w.ownsRow 0 88 1 x.pv x.procs.length x.procs ∧ ∀ g, x.pv.ownBlock = some g → R g
  evo : w.ownsRow 0 97 4 ev evs.length (evs.flatMap evC)
  avo : w.ownsRow 0 3 1 av ats.length (is64 ats)
  fR : R rp
  fT : ∀ g, tv.ownBlock = some g → R g
  fE : ∀ g, ev.ownBlock = some g → R g
  fA : ∀ g, av.ownBlock = some g → R g
section
variable {w0 w w' : World} {R S G : Nat → Prop} {rp bm : Nat} {vws : List Nat} {T : List Thr} {steps : Nat} {evs : List Ev} {ats : List Int} {cs : Array Value} {tv ev av u : Value}
theorem RC.put66 (h : RC cs bm tv vws steps ev av) (s : Nat) : RC (cs.setIfInBounds 66 (.int .i64 s)) bm tv vws s ev av := by
  obtain ⟨a, b, c, d, nv, e, f, g⟩ := h
  refine ⟨by simpa using a, ?_, ?_, fun t v hv => ?_, nv, ?_, ?_, ?_⟩ <;> rw [Array.getElem?_setIfInBounds]
  · simpa using b
  · simpa using c
  · have ht := (List.getElem?_eq_some_iff.1 hv).1
    rw [if_neg (by omega)]; exact d t v hv
  · simp [a]
  · simpa using f
  · simpa using g
theorem RC.put67 (h : RC cs bm tv vws steps ev av) (u : Value) : RC (cs.setIfInBounds 67 u) bm tv vws steps u av := by
  obtain ⟨a, b, c, d, nv, e, f, g⟩ := h
  refine ⟨by simpa using a, ?_, ?_, fun t v hv => ?_, nv, ?_, ?_, ?_⟩ <;> rw [Array.getElem?_setIfInBounds]
  · simpa using b
  · simpa using c
  · have ht := (List.getElem?_eq_some_iff.1 hv).1
    rw [if_neg (by omega)]; exact d t v hv
  · simpa using e
  · simp [a]
  · simpa using g
theorem RC.put68 (h : RC cs bm tv vws steps ev av) (u : Value) : RC (cs.setIfInBounds 68 u) bm tv vws steps ev u := by
  obtain ⟨a, b, c, d, nv, e, f, g⟩ := h
  refine ⟨by simpa using a, ?_, ?_, fun t v hv => ?_, nv, ?_, ?_, ?_⟩ <;> rw [Array.getElem?_setIfInBounds]
  · simpa using b
  · simpa using c
  · have ht := (List.getElem?_eq_some_iff.1 hv).1
    rw [if_neg (by omega)]; exact d t v hv
  · simpa using e
  · simpa using f
  · simp [a]
theorem RC.put1 (h : RC cs bm tv vws steps ev av) (u : Value) : RC (cs.setIfInBounds 1 u) bm u vws steps ev av := by
  obtain ⟨a, b, c, d, nv, e, f, g⟩ := h
  refine ⟨by simpa using a, ?_, ?_, fun t v hv => ?_, nv, ?_, ?_, ?_⟩ <;> rw [Array.getElem?_setIfInBounds]
  · simpa using b
  · simp [a]
  · rw [if_neg (by omega)]; exact d t v hv
  · simpa using e
  · simpa using f
  · simpa using g
theorem RX.fr (h : RX w R rp bm vws T steps evs ats cs tv ev av) (hf : Fr S w w') (hS : ∀ k, R k → ¬ S k) : RX w' R rp bm vws T steps evs ats cs tv ev av :=
  ⟨h.blk.fr hf (hS _ h.fR), h.rc, own_fr h.thr hf fun g e => hS g (h.fT g e), fun x hx => ⟨own_fr (h.prc x hx).1 hf fun g e => hS g ((h.prc x hx).2 g e), (h.prc x hx).2⟩, own_fr h.evo hf fun g e => hS g (h.fE g e), own_fr h.avo hf fun g e => hS g (h.fA g e), h.fR, h.fT, h.fE, h.fA⟩
theorem RX.wide (h : RX w R rp bm vws T steps evs ats cs tv ev av) (hR : ∀ k, R k → G k) : RX w G rp bm vws T steps evs ats cs tv ev av :=
  ⟨h.blk, h.rc, h.thr, fun x hx => ⟨(h.prc x hx).1, fun g e => hR g ((h.prc x hx).2 g e)⟩, h.evo, h.avo, hR _ h.fR, fun g e => hR g (h.fT g e), fun g e => hR g (h.fE g e), fun g e => hR g (h.fA g e)⟩
theorem RX.tight (h : RX w R rp bm vws T steps evs ats cs tv ev av) : RX w (fun k => R k ∧ k < w.heap.size) rp bm vws T steps evs ats cs tv ev av :=
  ⟨h.blk, h.rc, h.thr, fun x hx => ⟨(h.prc x hx).1, fun g e => ⟨(h.prc x hx).2 g e, own_lt (h.prc x hx).1 e⟩⟩, h.evo, h.avo, ⟨h.fR, h.blk.lt⟩, fun g e => ⟨h.fT g e, own_lt h.thr e⟩, fun g e => ⟨h.fE g e, own_lt h.evo e⟩, fun g e => ⟨h.fA g e, own_lt h.avo e⟩⟩
/-- the same, where it lies left out; made since w0 -/
structure RO (w0 w : World) (R : Nat → Prop) (rp bm : Nat) (vws : List Nat) (T : List Thr) (steps : Nat) (evs : List Ev) (ats : List Int) : Prop where
  ex : ∃ cs tv ev av, RX w R rp bm vws T steps evs ats cs tv ev av
  pos : ∀ k, R k → w0.heap.size ≤ k ∧ k < w.heap.size
theorem RO.fr (h : RO w0 w R rp bm vws T steps evs ats) (hf : Fr S w w') (hS : ∀ k, R k → ¬ S k) : RO w0 w' R rp bm vws T steps evs ats := by
  obtain ⟨⟨cs, tv, ev, av, hx⟩, hp⟩ := h
  exact ⟨⟨cs, tv, ev, av, hx.fr hf hS⟩, fun k hk => ⟨(hp k hk).1, Nat.lt_of_lt_of_le (hp k hk).2 hf.size⟩⟩
theorem RO.bel (h : RO w0 w R rp bm vws T steps evs ats) (hb : Below w.heap.size w w') : RO w0 w' R rp bm vws T steps evs ats := h.fr (Fr.of_below (S := fun _ => False) hb) (fun _ _ e => e)
theorem RO.drawn (h : RO w0 w R rp bm vws T steps evs ats) (n : Nat) : RO w0 (w.drewN n) R rp bm vws T steps evs ats := h.fr ((Fr.refl (fun _ => False) w).drawn n) (fun _ _ e => e)
/-- what a step leaves: the new state, in a set that took in new blocks alone -/
def RStep (w0 w w' : World) (R : Nat → Prop) (rp bm : Nat) (vws : List Nat) (T : List Thr) (steps : Nat) (evs : List Ev) (ats : List Int) : Prop :=
  ∃ R', RO w0 w' R' rp bm vws T steps evs ats ∧ (∀ b, b < w.heap.size → ¬ R b → ¬ R' b) ∧ Fr R w w'
theorem RX.toStep (hp : ∀ k, R k → w0.heap.size ≤ k ∧ k < w.heap.size) (h0 : w0.heap.size ≤ w.heap.size) (h : RX w' (Ext R w) rp bm vws T steps evs ats cs tv ev av) (hf : Fr R w w') : RStep w0 w w' R rp bm vws T steps evs ats := by
  refine ⟨_, ⟨⟨_, _, _, _, h.tight⟩, ?_⟩, ?_, hf⟩
  · rintro k ⟨hk | hk, hl⟩
    · exact ⟨(hp k hk).1, hl⟩
    · exact ⟨Nat.le_trans h0 hk, hl⟩
  · rintro b hb hR ⟨h1 | h1, _⟩
    · exact hR h1
    · omega
theorem RO.refl (h : RO w0 w R rp bm vws T steps evs ats) : RStep w0 w w R rp bm vws T steps evs ats := ⟨R, h, fun _ _ h => h, Fr.refl _ _⟩
theorem RStep.trans {w1 : World} {T1 : List Thr} {s1 : Nat} {e1 : List Ev} {a1 : List Int} (h : ∀ R1, RO w0 w1 R1 rp bm vws T1 s1 e1 a1 → RStep w0 w1 w' R1 rp bm vws T steps evs ats) (h1 : RStep w0 w w1 R rp bm vws T1 s1 e1 a1) (hR : ∀ k, R k → k < w.heap.size) : RStep w0 w w' R rp bm vws T steps evs ats := by
  obtain ⟨R1, o1, k1, f1⟩ := h1
  obtain ⟨R2, o2, k2, f2⟩ := h R1 o1
  refine ⟨R2, o2, fun b hb hn => k2 b (Nat.lt_of_lt_of_le hb f1.size) (k1 b hb hn), ⟨f2.os.trans f1.os, f2.tape.trans f1.tape, f2.output.trans f1.output, Nat.le_trans f1.size f2.size, fun k hk hn => ?_⟩⟩
  exact (f2.block k (Nat.lt_of_lt_of_le hk f1.size) (k1 k hk hn)).trans (f1.block k hk hn)
theorem thr_len (T : List Thr) : (T.flatMap thrC).length = T.length * 3 := by
  induction T with
  | nil => rfl
  | cons x T ih => rw [List.flatMap_cons, List.length_append, ih]; simp [thrC]; omega
theorem thr_at : ∀ (T : List Thr) (i : Nat) (x : Thr) (j : Nat), T[i]? = some x → j < 3 → (T.flatMap thrC)[i * 3 + j]? = (thrC x)[j]?
  | [], i, x, j, h, _ => by simp at h
  | y :: l, 0, x, j, h, hj => by
    obtain rfl : y = x := by simpa using h
    rw [List.flatMap_cons, List.getElem?_append_left (by simp [thrC]; omega)]
    simp
  | y :: l, i + 1, x, j, h, hj => by
    have h' : l[i]? = some x := by simpa using h
    rw [List.flatMap_cons, List.getElem?_append_right (by simp [thrC]; omega), ← thr_at l i x j h' hj]
    congr 1
    simp [thrC]; omega
theorem thr_set : ∀ (T : List Thr) (i j : Nat) (x y : Thr) (u : Value), T[i]? = some x → j < 3 → thrC y = (thrC x).set j u → (T.flatMap thrC).set (i * 3 + j) u = (T.set i y).flatMap thrC
  | [], i, j, x, y, u, h, _, _ => by simp at h
  | z :: l, 0, j, x, y, u, h, hj, e => by
    obtain rfl : z = x := by simpa using h
    rw [List.flatMap_cons, List.set_append_left _ _ (by simp [thrC]; omega), List.set_cons_zero, List.flatMap_cons, e]
    simp
  | z :: l, i + 1, j, x, y, u, h, hj, e => by
    have h' : l[i]? = some x := by simpa using h
    have h3 : (thrC z).length = 3 := rfl
    rw [List.flatMap_cons, List.set_append_right _ _ (by omega), h3, show (i + 1) * 3 + j - 3 = i * 3 + j from by omega, thr_set l i j x y u h' hj e, List.set_cons_succ, List.flatMap_cons]
/-- a thread's own cells -/
theorem RX.tcell (h : RX w R rp bm vws T steps evs ats cs tv ev av) {t : Nat} {x : Thr} (hx : T[t]? = some x) : ∃ tg tc, tv = .slice (some ⟨tg, 0, none⟩) T.length tc ∧ w.cell? ⟨tg, t * 3, none⟩ = some x.pv ∧ w.cell? ⟨tg, t * 3 + 1, none⟩ = some (.int .i64 x.pos) ∧ w.cell? ⟨tg, t * 3 + 2, none⟩ = some (.bool x.op) ∧ (∀ j, w.frozen? ⟨tg, j, none⟩ = false) ∧ R tg ∧ tg ≠ rp := by
  have ht := (List.getElem?_eq_some_iff.1 hx).1
  obtain ⟨g, c, rfl, _, _⟩ := bk_form1 h.thr (by omega)
  refine ⟨g, c, rfl, own_cell h.thr ((thr_at T t x 0 hx (by decide)).trans rfl), own_cell h.thr ((thr_at T t x 1 hx (by decide)).trans rfl), own_cell h.thr ((thr_at T t x 2 hx (by decide)).trans rfl), fun j => bk_cold h.thr j, h.fT g rfl, fun e => own_ne h.thr h.blk (by decide) (by rw [e]; rfl)⟩
theorem RX.pcell (h : RX w R rp bm vws T steps evs ats cs tv ev av) {t : Nat} {x : Thr} (hx : T[t]? = some x) : ∃ p c, x.pv = .slice p x.procs.length c ∧ ∀ j u, x.procs[j]? = some u → ∃ g, p = some ⟨g, 0, none⟩ ∧ w.cell? ⟨g, j, none⟩ = some u := by
  have ho := (h.prc x (List.mem_of_getElem? hx)).1
  obtain ⟨p, c, e⟩ := bk_form ho
  refine ⟨p, c, e, fun j u hj => ?_⟩
  have hl := (List.getElem?_eq_some_iff.1 hj).1
  obtain ⟨g, c', e', _, _⟩ := bk_form1 ho (by omega)
  rw [e] at e'
  injection e' with e1 _ e3
  subst e1 e3
  rw [e] at ho
  exact ⟨g, rfl, own_cell ho hj⟩
end
end Go.Proofs.YtkaplifhaafpdaaGreat
end
section
/-
  A runner: is a thread idle, are all done; the steps of accesses are written down. No condition.
-/
namespace Go.Proofs.YtkaplifhaafpdaaGreat
open Go Go.RowKit
set_option linter.unusedSimpArgs false
set_option linter.unusedVariables false
/-- has a thread nothing to do? -/
def idle (T : List Thr) (t : Int) : Bool := if 0 ≤ t ∧ t < T.length then (match T[t.toNat]? with | some x => decide (x.procs.length ≤ x.pos) | none => true) else true
section
variable {w0 w w' : World} {R S G : Nat → Prop} {rp bm : Nat} {vws : List Nat} {T : List Thr} {steps : Nat} {evs : List Ev} {ats : List Int} {cs : Array Value} {tv ev av u : Value}
theorem idle_in {t : Nat} {x : Thr} (hx : T[t]? = some x) : idle T t = decide (x.procs.length ≤ x.pos) := by
  have := (List.getElem?_eq_some_iff.1 hx).1
  unfold idle
  rw [if_pos ⟨by omega, by omega⟩]
  simp [hx]
set_option maxRecDepth 100000 in
theorem isIdle_any (h : RX w R rp bm vws T steps evs ats cs tv ev av) (hn : T.length ≤ 1000000000) (t : Int) (hpl : ∀ x ∈ T, x.procs.length ≤ 1000000000) :
    Calls Tryz.prog 26 #[.pointer (some ⟨rp, 0, none⟩), .int .i64 t] w fun e w' => e = .returned (.bool (idle T t)) ∧ ∃ n, w' = w.drewN n := by
  by_cases h0 : t < 0
  · have h1 : decide (t < 0) = true := by simpa using h0
    have hi : idle T t = true := by unfold idle; rw [if_neg (by omega)]
    rw [hi]
    clear hi h0 h
    go_enter Tryz.func26, Tryz.ntmps26
    go_wp2_with fail
    go_quiet (fail)
    all_goals
      go_wp2
      go_ret
      exact ⟨rfl, _, rfl⟩
  · have h1 : decide (t < 0) = false := by simpa using h0
    obtain ⟨tp, tc, rfl⟩ := bk_form h.thr
    have c1 : w.cell? ⟨rp, 1, none⟩ = some (.slice tp T.length tc) := (h.blk.cell 1).trans h.rc.c1
    obtain ⟨k, rfl⟩ : ∃ k : Nat, t = k := ⟨t.toNat, by omega⟩
    by_cases h2 : k < T.length
    · obtain ⟨x, hx⟩ : ∃ x, T[k]? = some x := ⟨_, List.getElem?_eq_getElem h2⟩
      obtain ⟨tg, tc', e, d0, d1, -⟩ := h.tcell hx
      obtain ⟨p, c, e3, -⟩ := h.pcell hx
      have hpx := hpl x (List.mem_of_getElem? hx)
      injection e with e1 _ e2
      subst e1 e2
      rw [e3] at d0
      rw [idle_in hx]
      have h3 : decide ((T.length : Int) ≤ (k : Int)) = false := by simp; omega
      have h4 : decide (T.length ≤ k) = false := by simp; omega
      clear h hx e3 hpl h0
      generalize x.procs.length = pn at *
      generalize x.pos = px at *
      generalize T.length = n at *
      go_enter Tryz.func26, Tryz.ntmps26
      go_wp2_with fail
      go_quiet (fail)
      all_goals
        go_wp2
        go_ret
        exact ⟨by simp, _, rfl⟩
    · have h3 : decide ((T.length : Int) ≤ (k : Int)) = true := by simp; omega
      have h4 : decide (T.length ≤ k) = true := by simp; omega
      have hi : idle T (k : Int) = true := by unfold idle; rw [if_neg (by omega)]
      rw [hi]
      clear hi h hpl h0
      generalize T.length = n at *
      go_enter Tryz.func26, Tryz.ntmps26
      go_wp2_with fail
      go_quiet (fail)
      all_goals
        go_wp2
        go_ret
        exact ⟨rfl, _, rfl⟩
end
end Go.Proofs.YtkaplifhaafpdaaGreat
end

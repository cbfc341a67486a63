/-
  A list of memories and of the document's: each pair in blocks of its own. No condition.
-/
import Derived.Test.YthggpbbnhjaegaaArRows
import Derived.Test.YthggpbbnhjaegaaArFork
namespace Go.Proofs.Ythggpbbnhjaegaa
open Go Go.RowKit
set_option linter.unusedSimpArgs false
set_option linter.unusedVariables false
def En.fork : En → En
  | none => none
  | some (l, A) => some (l, A.forked)
section
variable {w w' : World} {F S : Nat → Prop} {pv rv : Value} {e : En}
theorem PFork (h : PV w F pv e) (ok : e.Ok) : Calls Try.prog 8 #[pv] w fun a w' => ∃ pv', a = .returned pv' ∧ PV w' (fun b => w.heap.size ≤ b) pv' e.fork ∧ Below w.heap.size w w' := by
  match e, h, ok with
  | none, h, _ =>
    rw [show pv = .pointer none from h]
    refine (MFork_nil w).mono ?_
    rintro a w' ⟨rfl, rfl⟩
    exact ⟨_, rfl, rfl, Below.refl _ _⟩
  | some (false, A), ⟨bm, he, q, r, tv, rows, hh⟩, ok =>
    subst he
    refine (Fork_x hh ok.2.1 ok.1.n).mono ?_
    rintro a w' ⟨bm', rfl, h1, h2⟩
    exact ⟨_, rfl, ⟨bm', rfl, h1⟩, h2⟩
  | some (true, A), ⟨bm, q, r, he, hh⟩, ok =>
    subst he
    refine (LFork_x hh ok.2.1 ok.1.n).mono ?_
    rintro a w' ⟨bm', rfl, ⟨q', r', h1⟩, h2⟩
    exact ⟨_, rfl, ⟨bm', q', r', rfl, h1.same rfl rfl⟩, h2⟩
theorem DFork (h : DV w F rv e) (ok : e.Ok) : Calls Try.prog 9 #[rv] w fun a w' => ∃ rv', a = .returned rv' ∧ DV w' (fun b => w.heap.size ≤ b) rv' e.fork ∧ Below w.heap.size w w' := by
  match e, h, ok with
  | none, h, _ =>
    rw [show rv = .pointer none from h]
    refine (RFork_nil w).mono ?_
    rintro a w' ⟨rfl, rfl⟩
    exact ⟨_, rfl, rfl, Below.refl _ _⟩
  | some (l, A), ⟨rm, he, r, tv, rows, hh⟩, ok =>
    subst he
    refine (RFork_x hh ok.2.1 ok.1.n).mono ?_
    rintro a w' ⟨rm', rfl, h⟩
    exact ⟨_, rfl, ⟨rm', rfl, h.out.1⟩, h.out.2⟩
end
theorem infoMP : (Try.prog.info? 23).map (fun i => (i.zero, i.size, i.bytes)) = some (some (.pointer none), 1, 8) := by kernel_rfl
theorem infoRP : (Try.prog.info? 27).map (fun i => (i.zero, i.size, i.bytes)) = some (some (.pointer none), 1, 8) := by kernel_rfl
def sideP (e : En) (g n c : Nat) (xs : List Value) : Side := ⟨fun w F v => PV w F v e, 23, g, n, c, xs⟩
def sideD (e : En) (g n c : Nat) (xs : List Value) : Side := ⟨fun w F v => DV w F v e, 27, g, n, c, xs⟩
theorem sideP_good (e : En) (g n c : Nat) (xs : List Value) : (sideP e g n c xs).Good := ⟨fun h hf hS => PV.fr h hf hS, fun h => PV.tight h⟩
theorem sideD_good (e : En) (g n c : Nat) (xs : List Value) : (sideD e g n c xs).Good := ⟨fun h hf hS => DV.fr h hf hS, fun h => DV.tight h⟩
/-- whose block is it? 2 i + 1: the program's memory number i; 2 i + 2: the document's; 0: nobody's -/
structure Lst (wb : World) (es : List En) (pvs rvs : List Value) (g1 c1 g2 c2 : Nat) (lab : Nat → Nat) (w : World) : Prop where
  n1 : pvs.length = es.length
  n2 : rvs.length = es.length
  pre : ∀ i e pv rv, es[i]? = some e → pvs[i]? = some pv → rvs[i]? = some rv → Pre wb w (fun b => lab b = 2 * i + 1) (fun b => lab b = 2 * i + 2) pv rv e
  r1 : w.ownsRow wb.heap.size 23 1 (.slice (some ⟨g1, 0, none⟩) es.length c1) es.length pvs
  r2 : w.ownsRow wb.heap.size 27 1 (.slice (some ⟨g2, 0, none⟩) es.length c2) es.length rvs
  z1 : lab g1 = 0
  z2 : lab g2 = 0
  ne : g1 ≠ g2
  bel : Below wb.heap.size wb w
  lb : ∀ b, lab b ≤ 2 * es.length
def LstE (wb : World) (es : List En) (pvs rvs : List Value) (g1 c1 g2 c2 : Nat) (w : World) : Prop := ∃ lab, Lst wb es pvs rvs g1 c1 g2 c2 lab w
open Classical in
/-- the blocks of one pair, anew -/
noncomputable def relab (lab : Nat → Nat) (sz i : Nat) (P1 P2 : Nat → Prop) (b : Nat) : Nat :=
  if P1 b then 2 * i + 1 else if P2 b then 2 * i + 2 else if b < sz ∧ lab b ≠ 2 * i + 1 ∧ lab b ≠ 2 * i + 2 then lab b else 0
section
variable {wb w w' w0 : World} {F S P1 P2 : Nat → Prop} {pv rv : Value} {e e' : En} {es : List En} {pvs rvs : List Value} {g1 c1 g2 c2 : Nat} {lab : Nat → Nat} {i j b sz : Nat}
theorem relab_1 (h : P1 b) : relab lab sz i P1 P2 b = 2 * i + 1 := by unfold relab; rw [if_pos h]
theorem relab_2 (h1 : ¬ P1 b) (h : P2 b) : relab lab sz i P1 P2 b = 2 * i + 2 := by unfold relab; rw [if_neg h1, if_pos h]
theorem relab_o (h1 : ¬ P1 b) (h : ¬ P2 b) (hb : b < sz) (ha : lab b ≠ 2 * i + 1) (hc : lab b ≠ 2 * i + 2) : relab lab sz i P1 P2 b = lab b := by unfold relab; rw [if_neg h1, if_neg h, if_pos ⟨hb, ha, hc⟩]
theorem relab_z (h1 : ¬ P1 b) (h : ¬ P2 b) (hb : sz ≤ b ∨ lab b = 0) : relab lab sz i P1 P2 b = 0 := by
  unfold relab; rw [if_neg h1, if_neg h]; split <;> omega
theorem relab_own1 (h : relab lab sz i P1 P2 b = 2 * i + 1) : P1 b := by
  unfold relab at h
  split at h
  · assumption
  split at h
  · omega
  split at h <;> omega
theorem relab_own2 (h : relab lab sz i P1 P2 b = 2 * i + 2) : P2 b := by
  unfold relab at h
  split at h
  · omega
  split at h
  · assumption
  split at h <;> omega
theorem relab_far (hj : j ≠ i) (k : Nat) (hk : k = 2 * j + 1 ∨ k = 2 * j + 2) (h : relab lab sz i P1 P2 b = k) : lab b = k ∧ b < sz := by
  unfold relab at h
  split at h
  · omega
  split at h
  · omega
  split at h
  · omega
  · omega
theorem Pre.wide {G1 G2 F1 F2 : Nat → Prop} (h : Pre wb w F1 F2 pv rv e) (h1 : ∀ b, F1 b → G1 b) (h2 : ∀ b, F2 b → G2 b) (dis : ∀ b, G1 b → ¬ G2 b) (l1 : ∀ b, G1 b → wb.heap.size ≤ b ∧ b < w.heap.size) (l2 : ∀ b, G2 b → wb.heap.size ≤ b ∧ b < w.heap.size) : Pre wb w G1 G2 pv rv e :=
  ⟨h.p.wide h1, h.d.wide h2, dis, l1, l2, h.bel⟩
theorem Pre.fr {F1 F2 : Nat → Prop} (h : Pre wb w F1 F2 pv rv e) (hf : Fr S w w') (h1 : ∀ b, F1 b → ¬ S b) (h2 : ∀ b, F2 b → ¬ S b) (hS : ∀ b, b < wb.heap.size → ¬ S b) : Pre wb w' F1 F2 pv rv e :=
  ⟨h.p.fr hf h1, h.d.fr hf h2, h.dis, fun b hb => ⟨(h.l1 b hb).1, Nat.lt_of_lt_of_le (h.l1 b hb).2 hf.size⟩, fun b hb => ⟨(h.l2 b hb).1, Nat.lt_of_lt_of_le (h.l2 b hb).2 hf.size⟩, h.bel.trans (hf.to_below h.bel.size hS)⟩
theorem Lst.far (h : Lst wb es pvs rvs g1 c1 g2 c2 lab w) (hb : Below w.heap.size w w') : Lst wb es pvs rvs g1 c1 g2 c2 lab w' := by
  have hf : Fr (fun b => w.heap.size ≤ b) w w' := Fr.of_below hb
  exact ⟨h.n1, h.n2, fun i e pv rv a b c => (h.pre i e pv rv a b c).far hb, own_fr h.r1 hf fun g e hn => by have := h.r1.lt g e; omega, own_fr h.r2 hf fun g e hn => by have := h.r2.lt g e; omega, h.z1, h.z2, h.ne, h.bel.trans (hb.mono h.bel.size), h.lb⟩
theorem LstE.far (h : LstE wb es pvs rvs g1 c1 g2 c2 w) (hb : Below w.heap.size w w') : LstE wb es pvs rvs g1 c1 g2 c2 w' := let ⟨lab, h⟩ := h; ⟨lab, h.far hb⟩
/-- a call on one of them -/
theorem Lst.called (h : Lst wb es pvs rvs g1 c1 g2 c2 lab w) (he : es[i]? = some e) (hp : pvs[i]? = some pv) (hr : rvs[i]? = some rv)
    (hA : After wb w (fun b => lab b = 2 * i + 1) (fun b => lab b = 2 * i + 2) pv rv e' P1 P2 w') : LstE wb (es.set i e') pvs rvs g1 c1 g2 c2 w' := by
  have hs := hA.fr.size
  have hii : i < es.length := (List.getElem?_eq_some_iff.1 he).1
  have hPre := h.pre i e pv rv he hp hr
  have lo : ∀ b, lab b = 2 * i + 1 ∨ lab b = 2 * i + 2 → wb.heap.size ≤ b := fun b hb => hb.elim (fun hb => (hPre.l1 b hb).1) fun hb => (hPre.l2 b hb).1
  have h1n : ∀ b, P1 b → lab b = 2 * i + 1 ∨ w.heap.size ≤ b := hA.n1
  have h2n : ∀ b, P2 b → lab b = 2 * i + 2 ∨ w.heap.size ≤ b := hA.n2
  refine ⟨relab lab w.heap.size i P1 P2, ?_, ?_, ?_, ?_, ?_, ?_, ?_, h.ne, h.bel.trans (hA.fr.to_below h.bel.size fun k hk e => by have := lo k e; omega), ?_⟩
  · rw [List.length_set]; exact h.n1
  · rw [List.length_set]; exact h.n2
  · intro j e2 pv2 rv2 a b c
    by_cases hj : j = i
    · subst hj
      rw [List.getElem?_set_self hii] at a
      injection a with a
      subst a
      rw [hp] at b
      rw [hr] at c
      injection b with b
      injection c with c
      subst b c
      refine hA.pre.wide (fun b hb => relab_1 hb) (fun b hb => relab_2 (fun h1 => hA.pre.dis b h1 hb) hb) (fun b h1 h2 => by omega) (fun b hb => hA.pre.l1 b (relab_own1 hb)) (fun b hb => hA.pre.l2 b (relab_own2 hb))
    · rw [List.getElem?_set_ne (fun e => hj e.symm)] at a
      have H := h.pre j e2 pv2 rv2 a b c
      refine (H.fr hA.fr ?_ ?_ ?_).wide ?_ ?_ (fun b h1 h2 => by omega) ?_ ?_
      · intro b hb h2; omega
      · intro b hb h2; omega
      · intro b hb h2; have := lo b h2; omega
      · intro b hb
        have hlt := (H.l1 b hb).2
        rw [relab_o (fun h1 => by have := h1n b h1; omega) (fun h1 => by have := h2n b h1; omega) hlt (by omega) (by omega)]
        exact hb
      · intro b hb
        have hlt := (H.l2 b hb).2
        rw [relab_o (fun h1 => by have := h1n b h1; omega) (fun h1 => by have := h2n b h1; omega) hlt (by omega) (by omega)]
        exact hb
      · intro b hb
        obtain ⟨h3, _⟩ := relab_far hj _ (.inl rfl) hb
        exact ⟨(H.l1 b h3).1, Nat.lt_of_lt_of_le (H.l1 b h3).2 hs⟩
      · intro b hb
        obtain ⟨h3, _⟩ := relab_far hj _ (.inr rfl) hb
        exact ⟨(H.l2 b h3).1, Nat.lt_of_lt_of_le (H.l2 b h3).2 hs⟩
  · rw [List.length_set]
    exact own_fr h.r1 hA.fr fun g eg hn => by injection eg with eg; have h3 : lab g = 0 := by rw [← eg]; exact h.z1
                                              omega
  · rw [List.length_set]
    exact own_fr h.r2 hA.fr fun g eg hn => by injection eg with eg; have h3 : lab g = 0 := by rw [← eg]; exact h.z2
                                              omega
  · have hl := (h.r1.lt g1 rfl).2
    have := h.z1
    exact relab_z (fun h3 => by have := h1n g1 h3; omega) (fun h3 => by have := h2n g1 h3; omega) (.inr h.z1)
  · have hl := (h.r2.lt g2 rfl).2
    have := h.z2
    exact relab_z (fun h3 => by have := h1n g2 h3; omega) (fun h3 => by have := h2n g2 h3; omega) (.inr h.z2)
  · intro b
    rw [List.length_set]
    have := h.lb b
    unfold relab
    split
    · omega
    split
    · omega
    split <;> omega
/-- one pair more -/
theorem Lst.grown {x y : Ch} (h : Lst wb es pvs rvs g1 c1 g2 c2 lab w) (hx : x.a = 3) (hy : y.a = 3) (hk : FKE wb.heap.size w (sideP e' g1 es.length c1 pvs) (sideD e' g2 es.length c2 rvs) x y w') :
    LstE wb (es ++ [e']) (pvs ++ [x.v]) (rvs ++ [y.v]) x.g x.c y.g y.c w' := by
  obtain ⟨P1, P2, hk⟩ := hk
  have hf : Fr (fun b => b = g1 ∨ b = g2) w w' := hk.fr
  have hs := hf.size
  have hb1 := h.r1.lt g1 rfl
  have hb2 := h.r2.lt g2 rfl
  have hn1 := h.n1
  have hn2 := h.n2
  have h1n : ∀ b, P1 b → w.heap.size ≤ b ∧ b < w'.heap.size := fun b hb => (hk.l1 b hb).2
  have h2n : ∀ b, P2 b → w.heap.size ≤ b ∧ b < w'.heap.size := fun b hb => (hk.l2 b hb).2
  obtain ⟨hz1, hz2, hz3, hz4⟩ := hk.z1 hx
  obtain ⟨hy1, hy2, hy3, hy4⟩ := hk.z2 hy
  have hbw : Below wb.heap.size wb w' := h.bel.trans (hf.to_below h.bel.size fun k hk e => by omega)
  refine ⟨relab lab w.heap.size es.length P1 P2, ?_, ?_, ?_, ?_, ?_, ?_, ?_, hk.zz hx hy, hbw, ?_⟩
  · simp [hn1]
  · simp [hn2]
  · intro j e2 pv2 rv2 a b c
    rcases Nat.lt_or_ge j es.length with hj | hj
    · rw [List.getElem?_append_left hj] at a
      rw [List.getElem?_append_left (by omega)] at b c
      have H := h.pre j e2 pv2 rv2 a b c
      have hz1 := h.z1
      have hz2 := h.z2
      refine (H.fr hf ?_ ?_ ?_).wide ?_ ?_ (fun b h1 h2 => by omega) ?_ ?_
      · rintro b hb (rfl | rfl) <;> omega
      · rintro b hb (rfl | rfl) <;> omega
      · rintro b hb (rfl | rfl) <;> omega
      · intro b hb
        have hlt := (H.l1 b hb).2
        rw [relab_o (fun h1 => by have := h1n b h1; omega) (fun h1 => by have := h2n b h1; omega) hlt (by omega) (by omega)]
        exact hb
      · intro b hb
        have hlt := (H.l2 b hb).2
        rw [relab_o (fun h1 => by have := h1n b h1; omega) (fun h1 => by have := h2n b h1; omega) hlt (by omega) (by omega)]
        exact hb
      · intro b hb
        obtain ⟨h3, _⟩ := relab_far (by omega) _ (.inl rfl) hb
        exact ⟨(H.l1 b h3).1, Nat.lt_of_lt_of_le (H.l1 b h3).2 hs⟩
      · intro b hb
        obtain ⟨h3, _⟩ := relab_far (by omega) _ (.inr rfl) hb
        exact ⟨(H.l2 b h3).1, Nat.lt_of_lt_of_le (H.l2 b h3).2 hs⟩
    · have hj2 : j = es.length := by
        have := (List.getElem?_eq_some_iff.1 a).1
        simp at this
        omega
      subst hj2
      rw [List.getElem?_append_right (Nat.le_refl _), Nat.sub_self] at a
      rw [List.getElem?_append_right (by omega), hn1, Nat.sub_self] at b
      rw [List.getElem?_append_right (by omega), hn2, Nat.sub_self] at c
      injection a with a
      injection b with b
      injection c with c
      subst a b c
      refine ⟨PV.wide (hk.q1 (by omega)) fun b hb => relab_1 hb, DV.wide (hk.q2 (by omega)) fun b hb => relab_2 (fun h1 => hk.dis b h1 hb) hb, fun b h1 h2 => by omega, fun b hb => ?_, fun b hb => ?_, hbw⟩
      · have := h1n b (relab_own1 hb); have := h.bel.size; omega
      · have := h2n b (relab_own2 hb); have := h.bel.size; omega
  · have e1 : (es ++ [e']).length = es.length + 1 := by simp
    rw [e1]; exact hz1
  · have e1 : (es ++ [e']).length = es.length + 1 := by simp
    rw [e1]; exact hy1
  · refine relab_z hz3 hz4 ?_
    rcases hz2 with h3 | h3
    · right; rw [h3]; exact h.z1
    · exact .inl h3
  · refine relab_z hy3 hy4 ?_
    rcases hy2 with h3 | h3
    · right; rw [h3]; exact h.z2
    · exact .inl h3
  · intro b
    have := h.lb b
    rw [show (es ++ [e']).length = es.length + 1 by simp]
    unfold relab
    split
    · omega
    split
    · omega
    split <;> omega
end
end Go.Proofs.Ythggpbbnhjaegaa

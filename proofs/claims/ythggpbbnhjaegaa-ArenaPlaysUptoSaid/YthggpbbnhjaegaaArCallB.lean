/-
  One call on a memory and on the document's: what stays between the two. No condition.
-/
import Derived.Test.YthggpbbnhjaegaaArAlike
namespace Go.Proofs.Ythggpbbnhjaegaa
open Go Go.RowKit
set_option linter.unusedSimpArgs false
set_option linter.unusedVariables false
/-- both, with the new view and the call's own record at ob; w0: where the call came in; wb: where the law did -/
structure CS (wb w0 : World) (F1 F2 : Nat → Prop) (pv rv vv : Value) (xs : List (Nat × TypeId × Array Value)) (th ma : Int) (e1 e2 : En) (P1 P2 : Nat → Prop) (w : World) : Prop where
  p : PV w P1 pv e1
  d : DV w P2 rv e2
  v : VV w vv pv th ma
  o : ∀ y ∈ xs, Blk w y.1 y.2.1 y.2.2
  dis : ∀ b, P1 b → ¬ P2 b
  p1 : ∀ b, P1 b → b < w.heap.size ∧ (F1 b ∨ w0.heap.size ≤ b)
  p2 : ∀ b, P2 b → b < w.heap.size ∧ (F2 b ∨ w0.heap.size ≤ b)
  vn : ∀ b, vb vv = some b → w0.heap.size ≤ b ∧ b < w.heap.size ∧ ¬ P1 b ∧ ¬ P2 b ∧ ∀ y ∈ xs, b ≠ y.1
  on : ∀ y ∈ xs, w0.heap.size ≤ y.1 ∧ y.1 < w.heap.size ∧ ¬ P1 y.1 ∧ ¬ P2 y.1
  fr : Fr (fun b => F1 b ∨ F2 b ∨ w0.heap.size ≤ b) w0 w
  bel : Below wb.heap.size wb w
  ge : ∀ b, P1 b ∨ P2 b → wb.heap.size ≤ b
  sz : wb.heap.size ≤ w0.heap.size
def CE (wb w0 : World) (F1 F2 : Nat → Prop) (pv rv vv : Value) (xs : List (Nat × TypeId × Array Value)) (th ma : Int) (e1 e2 : En) (w : World) : Prop := ∃ P1 P2, CS wb w0 F1 F2 pv rv vv xs th ma e1 e2 P1 P2 w
section
variable {wb w w' w0 : World} {F G S F1 F2 P1 P2 : Nat → Prop} {pv rv vv av : Value} {e e1 e2 e1' e2' : En} {bm q r v ob : Nat} {A : Mem} {th ma made : Int} {vs : List Int} {cs : Array Value} {xs : List (Nat × TypeId × Array Value)} {y : Nat × TypeId × Array Value}
theorem CS.cell (h : CS wb w0 F1 F2 pv rv vv xs th ma e1 e2 P1 P2 w) (hy : y ∈ xs) (i : Nat) : w.cell? ⟨y.1, i, none⟩ = y.2.2[i]? := (h.o y hy).cell i
theorem CE.blk (h : CE wb w0 F1 F2 pv rv vv xs th ma e1 e2 w) (hy : y ∈ xs) : Blk w y.1 y.2.1 y.2.2 := let ⟨_, _, h⟩ := h; h.o y hy
theorem CE.cell (h : CE wb w0 F1 F2 pv rv vv xs th ma e1 e2 w) (hy : y ∈ xs) (i : Nat) : w.cell? ⟨y.1, i, none⟩ = y.2.2[i]? := let ⟨_, _, h⟩ := h; h.cell hy i
/-- something else happens -/
theorem CS.far (h : CS wb w0 F1 F2 pv rv vv xs th ma e1 e2 P1 P2 w) (hb : Below w.heap.size w w') : CS wb w0 F1 F2 pv rv vv xs th ma e1 e2 P1 P2 w' := by
  have hf : Fr (fun b => w.heap.size ≤ b) w w' := Fr.of_below hb
  refine ⟨h.p.fr hf fun k hk hn => ?_, h.d.fr hf fun k hk hn => ?_, h.v.fr hf fun b hb hn => ?_, fun y hy => (h.o y hy).below hb, h.dis, fun b hb2 => ⟨Nat.lt_of_lt_of_le (h.p1 b hb2).1 hb.size, (h.p1 b hb2).2⟩, fun b hb2 => ⟨Nat.lt_of_lt_of_le (h.p2 b hb2).1 hb.size, (h.p2 b hb2).2⟩, fun b hb2 => ?_, ?_, ?_, ?_, h.ge, h.sz⟩
  · have := (h.p1 k hk).1; omega
  · have := (h.p2 k hk).1; omega
  · have := (h.vn b hb).2.1; omega
  · obtain ⟨h1, h2, h3⟩ := h.vn b hb2
    exact ⟨h1, Nat.lt_of_lt_of_le h2 hb.size, h3⟩
  · exact fun y hy => ⟨(h.on y hy).1, Nat.lt_of_lt_of_le (h.on y hy).2.1 hb.size, (h.on y hy).2.2⟩
  · exact h.fr.trans ((hf.mono (fun k hk h2 => by omega)))
  · exact h.bel.trans (hb.mono h.bel.size)
theorem CE.drawn (h : CE wb w0 F1 F2 pv rv vv xs th ma e1 e2 w) (n : Nat) : CE wb w0 F1 F2 pv rv vv xs th ma e1 e2 (w.drewN n) := let ⟨P1, P2, h⟩ := h; ⟨P1, P2, h.far (bdn (Below.refl _ w) (Nat.le_refl _) n)⟩
theorem CE.far (h : CE wb w0 F1 F2 pv rv vv xs th ma e1 e2 w) (hb : Below w.heap.size w w') : CE wb w0 F1 F2 pv rv vv xs th ma e1 e2 w' := let ⟨P1, P2, h⟩ := h; ⟨P1, P2, h.far hb⟩
/-- the program's call -/
theorem CS.doneP (h : CS wb w0 F1 F2 pv rv vv xs th ma e1 e2 P1 P2 w) (hD : PDid w w' P1 pv vv th ma e1') : CE wb w0 F1 F2 pv rv vv xs th (ma + 1) e1' e2 w' := by
  obtain ⟨hp, hv, hf⟩ := hD
  have hs := hf.size
  refine ⟨fun b => Ext P1 w b ∧ b < w'.heap.size, P2, hp.tight, h.d.fr hf ?_, hv, fun y hy => (h.o y hy).fr hf ?_, ?_, ?_, ?_, ?_, ?_, ?_, ?_, ?_, h.sz⟩
  · rintro k hk (h1 | h1)
    · exact h.dis k h1 hk
    · exact (h.vn k h1).2.2.2.1 hk
  · rintro (h1 | h1)
    · exact (h.on y hy).2.2.1 h1
    · exact (h.vn y.1 h1).2.2.2.2 y hy rfl
  · rintro b ⟨h1 | h1, _⟩ h2
    · exact h.dis b h1 h2
    · have := (h.p2 b h2).1; omega
  · rintro b ⟨h1, h2⟩
    refine ⟨h2, ?_⟩
    rcases h1 with h1 | h1
    · exact (h.p1 b h1).2
    · exact .inr (Nat.le_trans h.fr.size h1)
  · exact fun b hb => ⟨Nat.lt_of_lt_of_le (h.p2 b hb).1 hs, (h.p2 b hb).2⟩
  · intro b hb
    obtain ⟨h1, h2, h3, h4, h5⟩ := h.vn b hb
    refine ⟨h1, Nat.lt_of_lt_of_le h2 hs, ?_, h4, h5⟩
    rintro ⟨h6 | h6, _⟩
    · exact h3 h6
    · omega
  · intro y hy
    obtain ⟨h1, h2, h3, h4⟩ := h.on y hy
    refine ⟨h1, Nat.lt_of_lt_of_le h2 hs, ?_, h4⟩
    rintro ⟨h6 | h6, _⟩
    · exact h3 h6
    · omega
  · refine h.fr.trans (hf.mono ?_)
    rintro k hk (h1 | h1)
    · rcases (h.p1 k h1).2 with h2 | h2
      · exact .inl h2
      · exact .inr (.inr h2)
    · exact .inr (.inr (h.vn k h1).1)
  · refine h.bel.trans (hf.to_below h.bel.size ?_)
    rintro k hk (h1 | h1)
    · have := h.ge k (.inl h1); omega
    · have := (h.vn k h1).1; have := h.sz; omega
  · rintro b (⟨h1 | h1, _⟩ | h1)
    · exact h.ge b (.inl h1)
    · exact Nat.le_trans h.bel.size h1
    · exact h.ge b (.inr h1)
/-- the document's call -/
theorem CS.doneD (h : CS wb w0 F1 F2 pv rv vv xs th ma e1 e2 P1 P2 w) (hD : DDid w w' P2 rv e2') : CE wb w0 F1 F2 pv rv vv xs th ma e1 e2' w' := by
  obtain ⟨hp, hf⟩ := hD
  have hs := hf.size
  refine ⟨P1, fun b => Ext P2 w b ∧ b < w'.heap.size, h.p.fr hf (fun k hk h2 => h.dis k hk h2), hp.tight, h.v.fr hf (fun b hb h1 => (h.vn b hb).2.2.2.1 h1), fun y hy => (h.o y hy).fr hf (h.on y hy).2.2.2, ?_, ?_, ?_, ?_, ?_, ?_, ?_, ?_, h.sz⟩
  · rintro b h2 ⟨h1 | h1, _⟩
    · exact h.dis b h2 h1
    · have := (h.p1 b h2).1; omega
  · exact fun b hb => ⟨Nat.lt_of_lt_of_le (h.p1 b hb).1 hs, (h.p1 b hb).2⟩
  · rintro b ⟨h1, h2⟩
    refine ⟨h2, ?_⟩
    rcases h1 with h1 | h1
    · exact (h.p2 b h1).2
    · exact .inr (Nat.le_trans h.fr.size h1)
  · intro b hb
    obtain ⟨h1, h2, h3, h4, h5⟩ := h.vn b hb
    refine ⟨h1, Nat.lt_of_lt_of_le h2 hs, h3, ?_, h5⟩
    rintro ⟨h6 | h6, _⟩
    · exact h4 h6
    · omega
  · intro y hy
    obtain ⟨h1, h2, h3, h4⟩ := h.on y hy
    refine ⟨h1, Nat.lt_of_lt_of_le h2 hs, h3, ?_⟩
    rintro ⟨h6 | h6, _⟩
    · exact h4 h6
    · omega
  · refine h.fr.trans (hf.mono ?_)
    rintro k hk h1
    rcases (h.p2 k h1).2 with h2 | h2
    · exact .inr (.inl h2)
    · exact .inr (.inr h2)
  · refine h.bel.trans (hf.to_below h.bel.size ?_)
    rintro k hk h1
    have := h.ge k (.inr h1); omega
  · rintro b (h1 | ⟨h1 | h1, _⟩)
    · exact h.ge b (.inl h1)
    · exact h.ge b (.inr h1)
    · exact Nat.le_trans h.bel.size h1
theorem CE.P {f : FuncId} {args : Array Value} {a0 : Value} (h : CE wb w0 F1 F2 pv rv vv xs th ma e1 e2 w)
    (hc : ∀ P1, PV w P1 pv e1 → VV w vv pv th ma → (∀ b, vb vv = some b → ¬ P1 b) → (∀ b, P1 b → wb.heap.size ≤ b) → Calls Try.prog f args w fun a w' => a = .returned a0 ∧ PDid w w' P1 pv vv th ma e1') :
    Calls Try.prog f args w fun a w' => a = .returned a0 ∧ CE wb w0 F1 F2 pv rv vv xs th (ma + 1) e1' e2 w' := by
  obtain ⟨P1, P2, h⟩ := h
  refine (hc P1 h.p h.v (fun b hb => (h.vn b hb).2.2.1) (fun b hb => h.ge b (.inl hb))).mono ?_
  rintro a w' ⟨rfl, hD⟩
  exact ⟨rfl, h.doneP hD⟩
theorem CE.D {f : FuncId} {args : Array Value} {a0 : Value} (h : CE wb w0 F1 F2 pv rv vv xs th ma e1 e2 w)
    (hc : ∀ P2, DV w P2 rv e2 → (∀ b, P2 b → wb.heap.size ≤ b) → Calls Try.prog f args w fun a w' => a = .returned a0 ∧ DDid w w' P2 rv e2') :
    Calls Try.prog f args w fun a w' => a = .returned a0 ∧ CE wb w0 F1 F2 pv rv vv xs th ma e1 e2' w' := by
  obtain ⟨P1, P2, h⟩ := h
  refine (hc P2 h.d (fun b hb => h.ge b (.inr hb))).mono ?_
  rintro a w' ⟨rfl, hD⟩
  exact ⟨rfl, h.doneD hD⟩
/-- a block of the call's own comes in -/
theorem CE.push (h : CE wb w0 F1 F2 pv rv vv xs th ma e1 e2 w) {t : TypeId} (hb : Below w.heap.size w w') (hB : Blk w' w.heap.size t cs) : CE wb w0 F1 F2 pv rv vv ((w.heap.size, t, cs) :: xs) th ma e1 e2 w' := by
  obtain ⟨P1, P2, h⟩ := h
  have h2 := h.far hb
  refine ⟨P1, P2, h2.p, h2.d, h2.v, ?_, h2.dis, h2.p1, h2.p2, ?_, ?_, h2.fr, h2.bel, h2.ge, h2.sz⟩
  · intro y hy
    rcases List.mem_cons.1 hy with rfl | hy
    · exact hB
    · exact h2.o y hy
  · intro b hb
    obtain ⟨h3, h4, h5, h6, h7⟩ := h2.vn b hb
    refine ⟨h3, h4, h5, h6, fun y hy => ?_⟩
    rcases List.mem_cons.1 hy with rfl | hy
    · have := (h.vn b hb).2.1
      exact Nat.ne_of_lt this
    · exact h7 y hy
  · intro y hy
    rcases List.mem_cons.1 hy with rfl | hy
    · refine ⟨h.fr.size, hB.lt, fun h3 => ?_, fun h3 => ?_⟩
      · have := (h.p1 _ h3).1; exact Nat.lt_irrefl _ this
      · have := (h.p2 _ h3).1; exact Nat.lt_irrefl _ this
    · exact h2.on y hy
theorem C_PAlloc {g : Nat} (h : CE wb w0 F1 F2 pv rv vv xs th 0 e1 e2 w) (ok : e1.Ok) (hg : (g, 33, (us vs ++ marksU).toArray) ∈ xs) (hvl : vs.length ≤ 1000000000) :
    Calls Try.prog 15 #[vv, .slice (some ⟨g, 0, none⟩) vs.length (vs.length + 9)] w fun a w' => a = .returned (.int .u64 (e1.spot vs)) ∧ CE wb w0 F1 F2 pv rv vv xs th 1 (e1.upd (·.alloc th vs)) e2 w' := by
  obtain ⟨P1, P2, h⟩ := h
  have hB : Blk w g 33 (us vs ++ marksU).toArray := h.o _ hg
  have hu : VA w (.slice (some ⟨g, 0, none⟩) vs.length (vs.length + 9)) vs := by
    refine ⟨_, _, rfl, .inr ⟨_, rfl, hB.lt, fun j u hu => ?_⟩⟩
    have e : ((⟨g, 0, none⟩ : Addr).add j) = ⟨g, j, none⟩ := by unfold Addr.add; split <;> simp_all
    rw [e, hB.cell]
    rw [List.getElem?_toArray, List.getElem?_append_left (List.getElem?_eq_some_iff.1 hu).1]
    exact hu
  refine (PAlloc h.p ok h.v (fun b hb => (h.vn b hb).2.2.1) hu ?_ hvl (by decide) (by decide)).mono ?_
  · intro _ ad n c e hk
    injection e with e1 _ _
    injection e1 with e1
    subst e1
    exact (h.on _ hg).2.2.1 hk
  · rintro a w' ⟨rfl, hD⟩
    exact ⟨rfl, h.doneP hD⟩
theorem CE.bel (h : CE wb w0 F1 F2 pv rv vv xs th ma e1 e2 w) : Below wb.heap.size wb w := let ⟨_, _, h⟩ := h; h.bel
theorem C_PLoad (h : CE wb w0 F1 F2 pv rv vv xs th 0 e1 e2 w) (ok : e1.Ok) (x : Int) (h0 : 0 ≤ x) :
    Calls Try.prog 16 #[vv, .int .u64 x] w fun a w' => a = .returned (.int .u64 (e1.peek x)) ∧ CE wb w0 F1 F2 pv rv vv xs th 1 (e1.upd (·.load th x)) e2 w' :=
  h.P fun P1 hp hv hn _ => PLoad hp ok hv hn x h0 (by decide) (by decide)
theorem C_PStore (h : CE wb w0 F1 F2 pv rv vv xs th 0 e1 e2 w) (ok : e1.Ok) (x u : Int) (h0 : 0 ≤ x) :
    Calls Try.prog 24 #[vv, .int .u64 x, .int .u64 u] w fun a w' => a = .returned (.tuple #[]) ∧ CE wb w0 F1 F2 pv rv vv xs th 1 (e1.upd (·.store th x u)) e2 w' :=
  h.P fun P1 hp hv hn _ => PStore hp ok hv hn x u h0 (by decide) (by decide)
theorem C_PCas (h : CE wb w0 F1 F2 pv rv vv xs th 0 e1 e2 w) (ok : e1.Ok) (x o u : Int) (h0 : 0 ≤ x) :
    Calls Try.prog 17 #[vv, .int .u64 x, .int .u64 o, .int .u64 u] w fun a w' => a = .returned (.bool (e1.hit x o)) ∧ CE wb w0 F1 F2 pv rv vv xs th 1 (e1.upd (·.cas th x o u)) e2 w' :=
  h.P fun P1 hp hv hn _ => PCas hp ok hv hn x o u h0 (by decide) (by decide)
theorem C_PAdd (h : CE wb w0 F1 F2 pv rv vv xs th 0 e1 e2 w) (ok : e1.Ok) (x u : Int) (h0 : 0 ≤ x) :
    Calls Try.prog 18 #[vv, .int .u64 x, .int .u64 u] w fun a w' => a = .returned (.int .u64 (e1.peek x)) ∧ CE wb w0 F1 F2 pv rv vv xs th 1 (e1.upd (·.add th x u)) e2 w' :=
  h.P fun P1 hp hv hn _ => PAdd hp ok hv hn x u h0 (by decide) (by decide)
theorem C_DLoad (h : CE wb w0 F1 F2 pv rv vv xs th ma e1 e2 w) (ok : e2.Ok) (t x : Int) (h0 : 0 ≤ x) :
    Calls Try.prog 23 #[rv, .int .i64 t, .int .u64 x] w fun a w' => a = .returned (.int .u64 (e2.peek x)) ∧ CE wb w0 F1 F2 pv rv vv xs th ma e1 (e2.upd (·.load t x)) w' :=
  h.D fun P1 hp _ => DLoad hp ok t x h0
theorem C_DStore (h : CE wb w0 F1 F2 pv rv vv xs th ma e1 e2 w) (ok : e2.Ok) (t x u : Int) (h0 : 0 ≤ x) :
    Calls Try.prog 25 #[rv, .int .i64 t, .int .u64 x, .int .u64 u] w fun a w' => a = .returned (.tuple #[]) ∧ CE wb w0 F1 F2 pv rv vv xs th ma e1 (e2.upd (·.store t x u)) w' :=
  h.D fun P1 hp _ => DStore hp ok t x u h0
theorem C_DCas (h : CE wb w0 F1 F2 pv rv vv xs th ma e1 e2 w) (ok : e2.Ok) (t x o u : Int) (h0 : 0 ≤ x) :
    Calls Try.prog 26 #[rv, .int .i64 t, .int .u64 x, .int .u64 o, .int .u64 u] w fun a w' => a = .returned (.bool (e2.hit x o)) ∧ CE wb w0 F1 F2 pv rv vv xs th ma e1 (e2.upd (·.cas t x o u)) w' :=
  h.D fun P1 hp _ => DCas hp ok t x o u h0
theorem C_DAdd (h : CE wb w0 F1 F2 pv rv vv xs th ma e1 e2 w) (ok : e2.Ok) (t x u : Int) (h0 : 0 ≤ x) :
    Calls Try.prog 27 #[rv, .int .i64 t, .int .u64 x, .int .u64 u] w fun a w' => a = .returned (.int .u64 (e2.peek x)) ∧ CE wb w0 F1 F2 pv rv vv xs th ma e1 (e2.upd (·.add t x u)) w' :=
  h.D fun P1 hp _ => DAdd hp ok t x u h0
theorem C_DAlloc (h : CE wb w0 F1 F2 pv rv vv xs th ma e1 e2 w) (ok : e2.Ok) (t : Int) (ha : VA wb av vs) (hnil : ∀ n c, av = .slice none n c → c = 0) (hvl : vs.length ≤ 1000000000) :
    Calls Try.prog 29 #[rv, .int .i64 t, av] w fun a w' => a = .returned (.int .u64 (e2.spot vs)) ∧ CE wb w0 F1 F2 pv rv vv xs th ma e1 (e2.upd (·.alloc t vs)) w' :=
  h.D fun P1 hp hg => DAlloc hp ok t (ha.below h.bel) (ha.off hg) hnil hvl
theorem CE.less {ys : List (Nat × TypeId × Array Value)} (h : CE wb w0 F1 F2 pv rv vv xs th ma e1 e2 w) (hs : ∀ y ∈ ys, y ∈ xs) : CE wb w0 F1 F2 pv rv vv ys th ma e1 e2 w := by
  obtain ⟨P1, P2, h⟩ := h
  exact ⟨P1, P2, h.p, h.d, h.v, fun y hy => h.o y (hs y hy), h.dis, h.p1, h.p2, fun b hb => ⟨(h.vn b hb).1, (h.vn b hb).2.1, (h.vn b hb).2.2.1, (h.vn b hb).2.2.2.1, fun y hy => (h.vn b hb).2.2.2.2 y (hs y hy)⟩, fun y hy => h.on y (hs y hy), h.fr, h.bel, h.ge, h.sz⟩
/-- what holds ahead of a call: both, apart, behind wb -/
structure Pre (wb w0 : World) (F1 F2 : Nat → Prop) (pv rv : Value) (e : En) : Prop where
  p : PV w0 F1 pv e
  d : DV w0 F2 rv e
  dis : ∀ b, F1 b → ¬ F2 b
  l1 : ∀ b, F1 b → wb.heap.size ≤ b ∧ b < w0.heap.size
  l2 : ∀ b, F2 b → wb.heap.size ≤ b ∧ b < w0.heap.size
  bel : Below wb.heap.size wb w0
theorem Pre.far (h : Pre wb w F1 F2 pv rv e) (hb : Below w.heap.size w w') : Pre wb w' F1 F2 pv rv e := by
  have hf : Fr (fun b => w.heap.size ≤ b) w w' := Fr.of_below hb
  refine ⟨h.p.fr hf fun k hk hn => ?_, h.d.fr hf fun k hk hn => ?_, h.dis, fun b hb2 => ⟨(h.l1 b hb2).1, Nat.lt_of_lt_of_le (h.l1 b hb2).2 hb.size⟩, fun b hb2 => ⟨(h.l2 b hb2).1, Nat.lt_of_lt_of_le (h.l2 b hb2).2 hb.size⟩, h.bel.trans (hb.mono h.bel.size)⟩
  · have := (h.l1 k hk).2; omega
  · have := (h.l2 k hk).2; omega
theorem VV.lt (h : VV w vv pv th made) {b : Nat} (hb : vb vv = Option.some b) : b < w.heap.size := by
  rcases h with ⟨_, rfl⟩ | ⟨v, bm, _, rfl, hw⟩
  · cases hb
  · injection hb with hb; subst hb; exact Blk.lt hw
theorem CE.start {w1 : World} {t : TypeId} (h : Pre wb w0 F1 F2 pv rv e) (h1 : Below w0.heap.size w0 w1) (hob : Blk w1 w0.heap.size t cs) (h2 : Below w1.heap.size w1 w') (hv : VV w' vv pv th 0) (hvb : ∀ b, vb vv = some b → b = w1.heap.size) :
    CE wb w0 F1 F2 pv rv vv [(w0.heap.size, t, cs)] th 0 e e w' := by
  have hb := h1.trans (h2.mono h1.size)
  have H := h.far hb
  have hlt := hob.lt
  refine ⟨F1, F2, H.p, H.d, hv, ?_, h.dis, fun b hb => ⟨(H.l1 b hb).2, .inl hb⟩, fun b hb => ⟨(H.l2 b hb).2, .inl hb⟩, ?_, ?_, Fr.of_below hb, H.bel, fun b hb => hb.elim (fun h2 => (h.l1 b h2).1) fun h2 => (h.l2 b h2).1, h.bel.size⟩
  · intro y hy
    obtain rfl := List.mem_singleton.1 hy
    exact hob.below h2
  · intro b hb
    have e1 := hvb b hb
    have e2 := hv.lt hb
    have e3 := h1.size
    refine ⟨by omega, e2, fun h3 => ?_, fun h3 => ?_, fun y hy => ?_⟩
    · have := (h.l1 b h3).2; omega
    · have := (h.l2 b h3).2; omega
    · obtain rfl := List.mem_singleton.1 hy
      show b ≠ w0.heap.size
      omega
  · intro y hy
    obtain rfl := List.mem_singleton.1 hy
    refine ⟨Nat.le_refl _, Nat.lt_of_lt_of_le hlt h2.size, fun h3 => ?_, fun h3 => ?_⟩
    · have := (h.l1 _ h3).2; exact Nat.lt_irrefl _ this
    · have := (h.l2 _ h3).2; exact Nat.lt_irrefl _ this
/-- what a call of the two leaves -/
structure After (wb w0 : World) (F1 F2 : Nat → Prop) (pv rv : Value) (e : En) (P1 P2 : Nat → Prop) (w : World) : Prop where
  pre : Pre wb w P1 P2 pv rv e
  n1 : ∀ b, P1 b → F1 b ∨ w0.heap.size ≤ b
  n2 : ∀ b, P2 b → F2 b ∨ w0.heap.size ≤ b
  fr : Fr (fun b => F1 b ∨ F2 b) w0 w
theorem CE.after (h : CE wb w0 F1 F2 pv rv vv xs th ma e e w) : ∃ P1 P2, After wb w0 F1 F2 pv rv e P1 P2 w := by
  obtain ⟨P1, P2, h⟩ := h
  refine ⟨P1, P2, ⟨h.p, h.d, h.dis, fun b hb => ⟨h.ge b (.inl hb), (h.p1 b hb).1⟩, fun b hb => ⟨h.ge b (.inr hb), (h.p2 b hb).1⟩, h.bel⟩, fun b hb => (h.p1 b hb).2, fun b hb => (h.p2 b hb).2, h.fr.mono ?_⟩
  rintro k hk (h1 | h1 | h1)
  · exact .inl h1
  · exact .inr h1
  · omega
theorem Pre.after (h : Pre wb w0 F1 F2 pv rv e) (hb : Below w0.heap.size w0 w) : After wb w0 F1 F2 pv rv e F1 F2 w := ⟨h.far hb, fun b hb => .inl hb, fun b hb => .inl hb, Fr.of_below hb⟩
/-- what a call of a script does to an entry -/
def En.did (x : Opr) (e : En) : En := if 0 ≤ x.kind ∧ x.kind ≤ 4 then e.upd x.does else e
theorem En.did_at {x : Opr} {k : Int} (hk : x.kind = k) (h0 : 0 ≤ k) (h4 : k ≤ 4) (f : Mem → Mem) (hf : ∀ A, x.does A = f A) (e : En) : e.did x = e.upd f := by
  rw [En.did, if_pos ⟨by omega, by omega⟩, show x.does = f from funext hf]
theorem PV.form (h : PV w F pv e) : (e = none ∧ pv = .pointer none) ∨ ∃ bm y, e = some y ∧ pv = .pointer (some ⟨bm, 0, none⟩) := by
  match e, h with
  | none, h => exact .inl ⟨rfl, h⟩
  | some (false, A), ⟨bm, he, _⟩ => exact .inr ⟨bm, _, rfl, he⟩
  | some (true, A), ⟨bm, q, r, he, _⟩ => exact .inr ⟨bm, _, rfl, he⟩
theorem DV.form (h : DV w F rv e) : (e = none ∧ rv = .pointer none) ∨ ∃ bm y, e = some y ∧ rv = .pointer (some ⟨bm, 0, none⟩) := by
  match e, h with
  | none, h => exact .inl ⟨rfl, h⟩
  | some (l, A), ⟨bm, he, _⟩ => exact .inr ⟨bm, _, rfl, he⟩
theorem PV.ptr (h : PV w F pv e) : ∃ p, pv = .pointer p := by
  rcases h.form with ⟨_, h⟩ | ⟨_, _, _, h⟩
  · exact ⟨_, h⟩
  · exact ⟨_, h⟩
theorem DV.ptr (h : DV w F rv e) : ∃ p, rv = .pointer p := by
  rcases h.form with ⟨_, h⟩ | ⟨_, _, _, h⟩
  · exact ⟨_, h⟩
  · exact ⟨_, h⟩
end
end Go.Proofs.Ythggpbbnhjaegaa

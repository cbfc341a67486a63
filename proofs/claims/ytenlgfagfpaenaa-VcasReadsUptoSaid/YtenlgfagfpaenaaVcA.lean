/-
  A view of a memory of the call's own, or nil, as the procs of vcas see it; blocks beside it. No condition.
-/
import Derived.Test.YtenlgfagfpaenaaArBase
namespace Go.Proofs.Ytenlgfagfpaenaa
open Go Go.RowKit
set_option linter.unusedSimpArgs false
set_option linter.unusedVariables false
/-- a view: of a memory, or nil -/
structure Vu where
  bm : Nat
  v : Nat
  th : Int
  A : Mem
  made : Nat
def vv : Option Vu → Value
  | some o => .pointer (some ⟨o.v, 0, none⟩)
  | none => .pointer none
def Vu.next (o : Vu) (A : Mem) : Vu := { o with A := A, made := o.made + 1 }
/-- the world of a view, and blocks p that are not its own -/
def Mx (w0 : World) : Option Vu → (Nat → Prop) → World → Prop
  | some o, p, w => ∃ F, Own w0 w F o.bm o.A ∧ VW w o.v o.bm o.th o.made ∧ ¬ F o.v ∧ w0.heap.size ≤ o.v ∧ (∀ k, p k → w0.heap.size ≤ k ∧ k < w.heap.size ∧ ¬ F k ∧ k ≠ o.v) ∧ o.A.Fit ∧ o.made ≤ 100000000
  | none, p, w => Below w0.heap.size w0 w ∧ ∀ k, p k → w0.heap.size ≤ k ∧ k < w.heap.size
/-- the blocks of p are as they were -/
def Kp (p : Nat → Prop) (w w' : World) : Prop := w.heap.size ≤ w'.heap.size ∧ ∀ k, p k → w'.heap[k]? = w.heap[k]?
section
variable {w0 w w' w1 w2 : World} {o : Option Vu} {p q : Nat → Prop} {k g : Nat} {t : TypeId} {cs : Array Value}
theorem Kp.blk (h : Kp p w w') (hb : Blk w k t cs) (hp : p k) : Blk w' k t cs := (h.2 k hp).trans hb
theorem Kp.refl (p : Nat → Prop) (w : World) : Kp p w w := ⟨Nat.le_refl _, fun _ _ => rfl⟩
theorem Kp.trans (h : Kp p w w1) (h2 : Kp p w1 w2) : Kp p w w2 := ⟨Nat.le_trans h.1 h2.1, fun k hk => (h2.2 k hk).trans (h.2 k hk)⟩
theorem Mx.bel (h : Mx w0 o p w) : Below w0.heap.size w0 w := by
  cases o with
  | none => exact h.1
  | some o => obtain ⟨F, h, _⟩ := h; exact h.below
theorem Mx.pos (h : Mx w0 o p w) : ∀ k, p k → w0.heap.size ≤ k ∧ k < w.heap.size := by
  cases o with
  | none => exact h.2
  | some o => obtain ⟨F, _, _, _, _, h, _⟩ := h; exact fun k hk => ⟨(h k hk).1, (h k hk).2.1⟩
theorem Mx.put (h : Mx w0 o p w) (hp : p k) (j : Nat) (u : Value) : Mx w0 o p (w.setCell ⟨k, j, none⟩ u) := by
  have hf : Fr (fun b => b = k) w (w.setCell ⟨k, j, none⟩ u) := (Fr.refl (fun b => b = k) w).put (p := ⟨k, j, none⟩) (.inl rfl) u
  cases o with
  | none =>
    have h1 := (h.2 k hp).1
    exact ⟨h.1.setCell (p := ⟨k, j, none⟩) h1 u, fun x hx => ⟨(h.2 x hx).1, Nat.lt_of_lt_of_le (h.2 x hx).2 hf.size⟩⟩
  | some o =>
    obtain ⟨F, a, b, c, d, e, f⟩ := h
    obtain ⟨e1, e2, e3, e4⟩ := e k hp
    exact ⟨F, a.fr hf (fun x hx hxk => by subst hxk; exact e3 hx) (fun x hx hxk => by omega), b.fr hf (fun h => e4 h.symm), c, d, fun x hx => ⟨(e x hx).1, Nat.lt_of_lt_of_le (e x hx).2.1 hf.size, (e x hx).2.2⟩, f⟩
theorem Mx.alloc (h : Mx w0 o p w) (ob : Obj) : Mx w0 o (fun k => p k ∨ k = w.heap.size) (w.alloc ob) := by
  have hb : Below w.heap.size w (w.alloc ob) := (Below.refl _ w).alloc (Nat.le_refl _) _
  have hz : (w.alloc ob).heap.size = w.heap.size + 1 := by simp
  cases o with
  | none =>
    refine ⟨h.1.trans (hb.mono h.1.size), ?_⟩
    rintro x (hx | rfl)
    · have := h.2 x hx; omega
    · have := h.1.size; omega
  | some o =>
    obtain ⟨F, a, b, c, d, e, f⟩ := h
    refine ⟨F, a.bel hb, b.fr (Fr.of_below (S := fun _ => False) hb) (fun h => h), c, d, ?_, f⟩
    rintro x (hx | rfl)
    · have := e x hx; exact ⟨this.1, by omega, this.2.2⟩
    · have := a.size
      exact ⟨this, by omega, a.mine.not (Nat.le_refl _), fun e => by have := Blk.lt b; omega⟩
theorem Mx.drew (h : Mx w0 o p w) : Mx w0 o p w.drew := by
  cases o with
  | none => exact ⟨h.1.drew, h.2⟩
  | some o =>
    obtain ⟨F, a, b, c, d, e, f⟩ := h
    exact ⟨F, a.drawn 1, b, c, d, e, f⟩
theorem Mx.drewN (h : Mx w0 o p w) (n : Nat) : Mx w0 o p (w.drewN n) := by
  cases o with
  | none => exact ⟨h.1.trans (((Fr.refl (fun _ => False) w).drawn n).to_below h.1.size (fun _ _ e => e)), h.2⟩
  | some o =>
    obtain ⟨F, a, b, c, d, e, f⟩ := h
    exact ⟨F, a.drawn n, b, c, d, e, f⟩
theorem Mx.weak (h : Mx w0 o p w) (hq : ∀ k, q k → p k) : Mx w0 o q w := by
  cases o with
  | none => exact ⟨h.1, fun k hk => h.2 k (hq k hk)⟩
  | some o =>
    obtain ⟨F, a, b, c, d, e, f⟩ := h
    exact ⟨F, a, b, c, d, fun k hk => e k (hq k hk), f⟩
def pk (o : Option Vu) (x : Int) : Int := match o with | some o => o.A.peek x | none => 0
def ht (o : Option Vu) (x y : Int) : Bool := match o with | some o => o.A.hit x y | none => false
def sp (o : Option Vu) (vs : List Int) : Int := match o with | some o => o.A.spot vs | none => 0
def ld (o : Option Vu) (x : Int) : Option Vu := o.map fun o => o.next (o.A.load o.th x)
def cz (o : Option Vu) (x y z : Int) : Option Vu := o.map fun o => o.next (o.A.cas o.th x y z)
def al (o : Option Vu) (vs : List Int) : Option Vu := o.map fun o => o.next (o.A.alloc o.th vs)
/-- what may still be done: bounds of the memory that comes next -/
def Ok (o : Option Vu) : Prop := match o with | some o => o.A.Fit ∧ o.made ≤ 100000000 | none => True
theorem Mx.after {o : Vu} {F F' : Nat → Prop} {A' : Mem} (e : ∀ k, p k → w0.heap.size ≤ k ∧ k < w.heap.size ∧ ¬ F k ∧ k ≠ o.v) (d : w0.heap.size ≤ o.v) (f : A'.Fit ∧ o.made + 1 ≤ 100000000)
    (h : Own w0 w' F' o.bm A' ∧ VW w' o.v o.bm o.th ((o.made : Int) + 1) ∧ ¬ F' o.v ∧ (∀ b, b < w.heap.size → ¬ F b → ¬ F' b) ∧ Fr (fun b => F b ∨ b = o.v) w w') : Mx w0 (some (o.next A')) p w' ∧ Kp p w w' := by
  obtain ⟨h1, h2, h3, h4, h5⟩ := h
  refine ⟨⟨F', h1, by simpa [Vu.next] using h2, h3, d, fun k hk => ?_, f.1, f.2⟩, h5.size, fun k hk => h5.block k (e k hk).2.1 ?_⟩
  · obtain ⟨e1, e2, e3, e4⟩ := e k hk
    exact ⟨e1, Nat.lt_of_lt_of_le e2 h5.size, h4 k e2 e3, e4⟩
  · rintro (h | h)
    · exact (e k hk).2.2.1 h
    · exact (e k hk).2.2.2 h
theorem Mx.load (h : Mx w0 o p w) (x : Int) (h0 : 0 ≤ x) (hk : Ok (ld o x)) : Calls Try.prog 56 #[vv o, .int .u64 x] w fun e w' => e = .returned (.int .u64 (pk o x)) ∧ Mx w0 (ld o x) p w' ∧ Kp p w w' := by
  cases o with
  | none =>
    refine (Load_nil w _).mono ?_
    rintro e w' ⟨rfl, rfl⟩
    exact ⟨rfl, h, Kp.refl _ _⟩
  | some o =>
    obtain ⟨F, a, b, c, d, e, f, g⟩ := h
    refine (Load_o a b c d x h0 f (by omega) (by omega)).mono ?_
    rintro e' w' ⟨rfl, F', hh⟩
    exact ⟨rfl, Mx.after e d hk hh⟩
theorem Mx.cas (h : Mx w0 o p w) (x y z : Int) (h0 : 0 ≤ x) (hk : Ok (cz o x y z)) : Calls Try.prog 57 #[vv o, .int .u64 x, .int .u64 y, .int .u64 z] w fun e w' => e = .returned (.bool (ht o x y)) ∧ Mx w0 (cz o x y z) p w' ∧ Kp p w w' := by
  cases o with
  | none =>
    refine (Cas_nil w _ _ _).mono ?_
    rintro e w' ⟨rfl, rfl⟩
    exact ⟨rfl, h, Kp.refl _ _⟩
  | some o =>
    obtain ⟨F, a, b, c, d, e, f, g⟩ := h
    refine (Cas_o a b c d x y z h0 f (by omega) (by omega)).mono ?_
    rintro e' w' ⟨rfl, F', hh⟩
    exact ⟨rfl, Mx.after e d hk hh⟩
theorem Mx.allocV (h : Mx w0 o p w) {r : Nat} {vs : List Int} (hr : p r) (hb : Blk w r 23 (us vs).toArray) (hl : vs.length ≤ 1000) (c : Nat) (hk : Ok (al o vs)) : Calls Try.prog 60 #[vv o, .slice (some ⟨r, 0, none⟩) vs.length c] w fun e w' => e = .returned (.int .u64 (sp o vs)) ∧ Mx w0 (al o vs) p w' ∧ Kp p w w' := by
  cases o with
  | none =>
    refine (Alloc_nil w _).mono ?_
    rintro e w' ⟨rfl, rfl⟩
    exact ⟨rfl, h, Kp.refl _ _⟩
  | some o =>
    obtain ⟨F, a, b, c', d, e, f, g⟩ := h
    have hva : VA w (.slice (some ⟨r, 0, none⟩) vs.length c) vs := ⟨_, _, rfl, .inr ⟨_, rfl, hb.lt, fun j u hu => by
      have e2 : (⟨r, 0, none⟩ : Addr).add j = ⟨r, j, none⟩ := by unfold Addr.add; split <;> simp_all
      rw [e2, hb.cell]; simpa using hu⟩⟩
    refine (Alloc_o a b c' d hva (fun _ ad n c2 e2 => by injection e2 with e2 _ _; injection e2 with e2; subst e2; exact (e r hr).2.2.1) (by omega) f (by omega) (by omega)).mono ?_
    rintro e' w' ⟨rfl, F', hh⟩
    exact ⟨rfl, Mx.after e d hk hh⟩
end
end Go.Proofs.Ytenlgfagfpaenaa

/-
  A memory and the document's, of any kind, or nil: what both tell. No condition.
-/
import Derived.Test.YthggpbbnhjaegaaArLFork
import Derived.Test.YthggpbbnhjaegaaArBase
namespace Go.Proofs.Ythggpbbnhjaegaa
open Go Go.RowKit
set_option linter.unusedSimpArgs false
set_option linter.unusedVariables false
/-- a memory: nil, or plain or live with what it holds -/
abbrev En := Option (Bool × Mem)
def En.peek : En → Int → Int
  | none, _ => 0
  | some (_, A), x => A.peek x
def En.left : En → Int
  | none => 0
  | some (_, A) => (A.cells.length : Int) - A.next
def En.cells : En → Nat
  | none => 0
  | some (_, A) => A.cells.length
def En.live : En → Bool
  | none => false
  | some (l, _) => l
def En.trace : En → List Acc
  | none => []
  | some (_, A) => A.trace
/-- what holds of it -/
def En.Ok : En → Prop
  | none => True
  | some (l, A) => A.Fit ∧ 0 < A.cells.length ∧ A.wide ∧ (l = true → A.trace = []) ∧ ∀ x ∈ A.trace, x.vals.length ≤ 1000000000
/-- the program's -/
def PV (w : World) (F : Nat → Prop) (pv : Value) : En → Prop
  | none => pv = .pointer none
  | some (false, A) => ∃ bm, pv = .pointer (some ⟨bm, 0, none⟩) ∧ PM w F bm A
  | some (true, A) => ∃ bm q r, pv = .pointer (some ⟨bm, 0, none⟩) ∧ SMx w F bm q r A
/-- the document's -/
def DV (w : World) (F : Nat → Prop) (rv : Value) : En → Prop
  | none => rv = .pointer none
  | some (l, A) => ∃ rm, rv = .pointer (some ⟨rm, 0, none⟩) ∧ RM w F rm l A
section
variable {w w' : World} {F S : Nat → Prop} {pv rv : Value} {e : En} {bm q r : Nat} {A : Mem}
theorem PV.fr (h : PV w F pv e) (hf : Fr S w w') (hS : ∀ k, F k → ¬ S k) : PV w' F pv e := by
  match e, h with
  | none, h => exact h
  | some (false, A), ⟨bm, e, h⟩ => exact ⟨bm, e, h.fr hf hS⟩
  | some (true, A), ⟨bm, q, r, e, h⟩ => exact ⟨bm, q, r, e, h.fr hf hS⟩
theorem DV.fr (h : DV w F rv e) (hf : Fr S w w') (hS : ∀ k, F k → ¬ S k) : DV w' F rv e := by
  match e, h with
  | none, h => exact h
  | some (l, A), ⟨rm, e, h⟩ => exact ⟨rm, e, h.fr hf hS⟩
theorem L_cells (h : SMx w F bm q r A) : Calls Try.prog 33 #[.pointer (some ⟨bm, 0, none⟩)] w fun e w' => e = .returned (.int .i64 A.cells.length) ∧ w = w' := by
  have c1 : w.cell? ⟨bm, 0, none⟩ = some _ := h.bM.cell 0
  have hm : ∀ w : World, (method 224 43 (.pointer (some ⟨q, 0, none⟩)) "shutter/arena.size").run Try.prog w = .ok (67, .pointer (some ⟨q, 0, none⟩)) w := fun _ => by kernel_rfl
  have hs := Lib.hid (s_size h)
  clear h
  go_enter Try.func33, Try.ntmps33
  go_wp2_with fail
  refine hs.out.mono ?_
  rintro e w' ⟨rfl, rfl⟩
  go_wp2
  go_ret
  exact ⟨rfl, rfl⟩
theorem L_made (h : SMx w F bm q r A) : Calls Try.prog 32 #[.pointer (some ⟨bm, 0, none⟩)] w fun e w' => e = .returned (.int .i64 0) ∧ w = w' := by
  have c1 : w.cell? ⟨bm, 2, none⟩ = some (.slice none 0 0) := h.bM.cell 2
  clear h
  go_enter Try.func32, Try.ntmps32
  go_wp2_with fail
  go_ret
  exact ⟨rfl, rfl⟩
theorem PV.peek (h : PV w F pv e) (ok : e.Ok) (x : Int) (h0 : 0 ≤ x) : Calls Try.prog 19 #[pv, .int .u64 x] w fun a w' => a = .returned (.int .u64 (e.peek x)) ∧ w = w' := by
  match e, h, ok with
  | none, h, _ => rw [show pv = .pointer none from h]; exact MPeek_nil w _
  | some (false, A), ⟨bm, he, q, r, tv, rows, hh⟩, ok => subst he; exact peek_any hh x h0 ok.1.n
  | some (true, A), ⟨bm, q, r, he, hh⟩, ok => subst he; exact s_peek hh x h0 ok.1.n
theorem DV.peek (h : DV w F rv e) (ok : e.Ok) (x : Int) (h0 : 0 ≤ x) : Calls Try.prog 31 #[rv, .int .u64 x] w fun a w' => a = .returned (.int .u64 (e.peek x)) ∧ w = w' := by
  match e, h, ok with
  | none, h, _ => rw [show rv = .pointer none from h]; exact RPeek_nil w x
  | some (l, A), ⟨rm, he, r, tv, rows, hh⟩, ok => subst he; exact RPeek_any hh x h0 ok.1.n
theorem PV.cells (h : PV w F pv e) (ok : e.Ok) : Calls Try.prog 33 #[pv] w fun a w' => a = .returned (.int .i64 e.cells) ∧ w = w' := by
  match e, h, ok with
  | none, h, _ => rw [show pv = .pointer none from h]; exact MCells_nil w
  | some (false, A), ⟨bm, he, q, r, tv, rows, hh⟩, ok => subst he; exact Cells_any hh
  | some (true, A), ⟨bm, q, r, he, hh⟩, ok => subst he; exact L_cells hh
theorem PV.made (h : PV w F pv e) (ok : e.Ok) : Calls Try.prog 32 #[pv] w fun a w' => a = .returned (.int .i64 e.trace.length) ∧ w = w' := by
  match e, h, ok with
  | none, h, _ => rw [show pv = .pointer none from h]; exact MMade_nil w
  | some (false, A), ⟨bm, he, q, r, tv, rows, hh⟩, ok => subst he; exact Made_any hh
  | some (true, A), ⟨bm, q, r, he, hh⟩, ok => subst he; have e1 : A.trace = [] := ok.2.2.2.1 rfl; show Calls _ _ _ _ fun a w' => a = .returned (.int .i64 (A.trace.length : Nat)) ∧ w = w'; rw [e1]; exact L_made hh
theorem PV.live (h : PV w F pv e) : Calls Try.prog 34 #[pv] w fun a w' => a = .returned (.bool e.live) ∧ w = w' := by
  match e, h with
  | none, h => rw [show pv = .pointer none from h]; exact MLive_nil w
  | some (false, A), ⟨bm, he, q, r, tv, rows, hh⟩ => subst he; exact Live_any hh
  | some (true, A), ⟨bm, q, r, he, hh⟩ => subst he; exact L_live hh
theorem PV.left (h : PV w F pv e) (ok : e.Ok) : Calls Try.prog 13 #[pv] w fun a w' => a = .returned (.int .i64 e.left) ∧ ∃ k, w' = w.drewN k := by
  match e, h, ok with
  | none, h, _ =>
    rw [show pv = .pointer none from h]
    refine (MLeft_nil w).mono ?_
    rintro a w' ⟨rfl, rfl⟩
    exact ⟨rfl, 0, rfl⟩
  | some (false, A), ⟨bm, he, q, r, tv, rows, hh⟩, ok => subst he; exact Left_any hh ok.1.x ok.1.n
  | some (true, A), ⟨bm, q, r, he, hh⟩, ok => subst he; exact L_next hh ok.1.x ok.1.n
theorem DV.left (h : DV w F rv e) (ok : e.Ok) : Calls Try.prog 35 #[rv] w fun a w' => a = .returned (.int .i64 e.left) ∧ ∃ k, w' = w.drewN k := by
  match e, h, ok with
  | none, h, _ =>
    rw [show rv = .pointer none from h]
    refine (RLeft_nil w).mono ?_
    rintro a w' ⟨rfl, rfl⟩
    exact ⟨rfl, 0, rfl⟩
  | some (l, A), ⟨rm, he, r, tv, rows, hh⟩, ok => subst he; exact RLeft_any hh ok.1.x ok.1.n
theorem TL.nil (w : World) : TL w (.slice none 0 0) [] := ⟨none, 0, rfl, [], rfl, .inl rfl, fun x hx => by simp at hx⟩
theorem PV.trace (h : PV w F pv e) (ok : e.Ok) : Calls Try.prog 20 #[pv] w fun a w' => ∃ u, a = .returned u ∧ TL w' u e.trace ∧ Below w.heap.size w w' := by
  match e, h, ok with
  | none, h, _ =>
    rw [show pv = .pointer none from h]
    refine (MTrace_nil w).mono ?_
    rintro a w' ⟨rfl, rfl⟩
    exact ⟨_, rfl, TL.nil _, Below.refl _ _⟩
  | some (false, A), ⟨bm, he, q, r, tv, rows, hh⟩, ok =>
    subst he
    refine (Trace_x hh ok.1.t ok.2.2.2.2).mono ?_
    rintro a w' ⟨p, c, rfl, h1, h2⟩
    exact ⟨_, rfl, h1.tl, h2⟩
  | some (true, A), ⟨bm, q, r, he, hh⟩, ok =>
    subst he
    have e1 : A.trace = [] := ok.2.2.2.1 rfl
    refine (L_trace hh).mono ?_
    rintro a w' ⟨rfl, rfl⟩
    exact ⟨_, rfl, by show TL w _ A.trace; rw [e1]; exact TL.nil _, Below.refl _ _⟩
end
end Go.Proofs.Ythggpbbnhjaegaa

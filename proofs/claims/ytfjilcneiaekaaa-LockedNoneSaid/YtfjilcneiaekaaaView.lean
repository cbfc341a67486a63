/-
  The plain memory's calls through a view: Load, Store, Cas, Add, and Peek, as the plain Lean memory answers. No condition.
-/
import Derived.Test.YtfjilcneiaekaaaMem
import Derived.Deep.QuietTactic
import Derived.BigQuiet
namespace Go.Proofs.Ytfjilcneiaekaaa
open Go Go.RowKit
set_option linter.unusedSimpArgs false
set_option linter.unusedVariables false
/-- is there a cell? -/
def Mem.has (A : Mem) (x : Int) : Bool := decide (x < A.cells.length)
def Mem.peek (A : Mem) (x : Int) : Int := A.cells.getD x.toNat 0
def Mem.note (A : Mem) (x : Acc) : Mem := { A with trace := A.trace ++ [x] }
def Mem.put (A : Mem) (x v : Int) : Mem := { A with cells := A.cells.set x.toNat v }
def Mem.load (A : Mem) (t x : Int) : Mem := A.note ⟨t, 1, x, 0, 0, [], A.peek x, false⟩
def Mem.store (A : Mem) (t x v : Int) : Mem := (A.put x v).note ⟨t, 2, x, v, 0, [], 0, false⟩
def Mem.hit (A : Mem) (x o : Int) : Bool := A.has x && decide (A.peek x = o)
def Mem.cas (A : Mem) (t x o n : Int) : Mem := (if A.hit x o then A.put x n else A).note ⟨t, 3, x, o, n, [], 0, A.hit x o⟩
def Mem.add (A : Mem) (t x n : Int) : Mem := (A.put x (IntKind.u64.wrap (A.peek x + n))).note ⟨t, 4, x, n, 0, [], A.peek x, false⟩
section
variable {w w' : World} {F G S : Nat → Prop} {bm q r v : Nat} {tv : Value} {rows : List (Acc × Value)} {A : Mem} {th made : Int}
theorem PMx.rowcell (h : PMx w F bm q r tv rows A) {i : Nat} (hi : i < A.cells.length) : w.cell? ⟨r, i, none⟩ = some (.int .u64 (A.cells.getD i 0)) := by
  obtain ⟨sp, h2⟩ := h.bR'
  rw [h2.cell i]; simp [us, hi, List.getD_eq_getElem?_getD, List.getElem?_append_left]
theorem put_past (A : Mem) {x : Int} (hx : A.has x = false) (u : Int) : A.put x u = A := by
  have : (A.cells.length : Int) ≤ x := by simpa [Mem.has] using hx
  unfold Mem.put
  rw [List.set_eq_of_length_le (by omega)]
theorem peek_past (A : Mem) {x : Int} (hx : A.has x = false) : A.peek x = 0 := by
  have : (A.cells.length : Int) ≤ x := by simpa [Mem.has] using hx
  simp [Mem.peek, List.getD_eq_getElem?_getD, show A.cells.length ≤ x.toNat from by omega]
/-- a cell is written -/
theorem PMx.put (h : PMx w F bm q r tv rows A) (i : Nat) (u : Int) : PMx (w.setCell ⟨r, i, none⟩ (.int .u64 u)) F bm q r tv rows (A.put i u) ∧ Fr F w (w.setCell ⟨r, i, none⟩ (.int .u64 u)) := by
  have f : Fr (fun b => b = r) w (w.setCell ⟨r, i, none⟩ (.int .u64 u)) := (Fr.refl (fun b => b = r) w).put (p := ⟨r, i, none⟩) (.inl rfl) _
  refine ⟨⟨h.bM.fr f (Blk.ne h.bM h.bR.choose_spec (by decide)), ?_, ?_, own_fr h.own f ?_, h.fst, ?_, h.fM, h.fQ, h.fR, h.fT⟩, f.mono ?_⟩
  · have := h.Qfr f (Blk.ne h.bQ.choose_spec h.bR.choose_spec (by decide))
    simpa [Mem.put] using this
  · obtain ⟨sp, h2⟩ := h.bR'
    by_cases hi : i < A.cells.length
    · exact ⟨sp, (h2.put i _).eq (by simp [Mem.put, us, List.map_set, List.set_append_left, hi])⟩
    · refine ⟨sp.set (i - A.cells.length) (.int .u64 u), (h2.put i _).eq ?_⟩
      have e : (us A.cells).length = A.cells.length := by simp [us]
      have e2 : A.cells.set i u = A.cells := List.set_eq_of_length_le (by omega)
      simp [Mem.put, e2, List.set_append_right, e, show A.cells.length ≤ i from by omega]
  · intro g e hg; subst hg; exact own_ne h.own h.bR.choose_spec (by decide) e
  · intro y hy
    exact (h.vals y hy).fr f fun k _ hk _ e => hk e
  · rintro k _ rfl; exact h.fR
theorem has_nat {x : Int} (h0 : 0 ≤ x) (h : A.has x = true) : ∃ i : Nat, x = i ∧ i < A.cells.length := by
  have h : x < A.cells.length := by simpa [Mem.has] using h
  exact ⟨x.toNat, by omega, by omega⟩
/-- what a call through a view leaves -/
def Did (w w' : World) (F : Nat → Prop) (bm v : Nat) (th made : Int) (A : Mem) : Prop :=
  PM w' (Ext F w) bm A ∧ VW w' v bm th (made + 1) ∧ Fr (fun b => F b ∨ b = v) w w'
theorem Did.pre {w1 : World} (h : Did w1 w' F bm v th made A) (hf : Fr F w w1) : Did w w' F bm v th made A :=
  ⟨h.1.wide (fun k hk => by rcases hk with hk | hk; exact .inl hk; exact .inr (Nat.le_trans hf.size hk)), h.2.1, (hf.mono (fun _ _ hk => .inl hk)).trans h.2.2⟩
theorem PMx.len (h : PMx w F bm q r tv rows A) : rows.length = A.trace.length := by rw [← h.fst]; simp
theorem VW.fr (hv : VW w v bm th made) (hf : Fr S w w') (hS : ¬ S v) : VW w' v bm th made := Blk.fr hv hf hS
theorem vals_none (w : World) (F : Nat → Prop) (r : Nat) : Vals w F r (.slice none 0 0) [] := .inl ⟨_, _, rfl, rfl⟩
end
end Go.Proofs.Ytfjilcneiaekaaa

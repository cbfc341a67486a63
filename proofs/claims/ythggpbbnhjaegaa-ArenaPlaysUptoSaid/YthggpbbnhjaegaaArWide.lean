/-
  Cells are words, whatever is called. No condition.
-/
import Derived.Test.YthggpbbnhjaegaaArLView
namespace Go.Proofs.Ythggpbbnhjaegaa
open Go Go.RowKit
set_option linter.unusedSimpArgs false
set_option linter.unusedVariables false
section
variable {A : Mem} {l : List Opr} {x : Opr}
def U64 (x : Int) : Prop := 0 ≤ x ∧ x ≤ 18446744073709551615
def Opr.words (x : Opr) : Prop := U64 x.a ∧ U64 x.b ∧ ∀ y ∈ x.vals, U64 y
theorem wide_set (h : A.wide) (i v : Int) (hv : U64 v) : (A.put i v).wide := by
  intro c hc
  rcases List.mem_or_eq_of_mem_set hc with hc | rfl
  · exact h c hc
  · exact hv
theorem wide_made (n : Nat) : (Mem.made n).wide := by
  intro c hc
  have := List.eq_of_mem_replicate hc
  subst this; exact ⟨by decide, by decide⟩
theorem does_wide {x : Opr} (hx : x.words) (h : A.wide) : (x.does A).wide := by
  unfold Opr.does
  split
  · exact h
  split
  · exact wide_set h _ _ hx.1
  split
  · show (if A.hit x.addr x.a then A.put x.addr x.b else A).wide
    split
    · exact wide_set h _ _ hx.2.1
    · exact h
  split
  · refine wide_set h _ _ ⟨?_, ?_⟩ <;> rw [IntKind.wrap_u64] <;> omega
  · show (if A.fits x.vals then A.laid x.vals else A).wide
    split
    · intro c hc
      simp only [Mem.laid, splice, List.mem_append] at hc
      rcases hc with hc | hc | hc
      · exact h c (List.mem_of_mem_take hc)
      · exact hx.2.2 c hc
      · exact h c (List.mem_of_mem_drop hc)
    · exact h
theorem doAll_wide {l : List Opr} (hl : ∀ x ∈ l, x.words) (h : A.wide) : (doAll A l).wide := by
  induction l generalizing A with
  | nil => exact h
  | cons x l ih => exact ih (fun y hy => hl y (List.mem_cons_of_mem _ hy)) (does_wide (hl x List.mem_cons_self) h)
end
end Go.Proofs.Ythggpbbnhjaegaa

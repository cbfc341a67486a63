/-
  A copy of words is a row of one's own. No condition.
-/
import Derived.Test.YthggpbbnhjaegaaTrace
namespace Go.Proofs.Ythggpbbnhjaegaa
open Go Go.RowKit
set_option linter.unusedSimpArgs false
set_option linter.unusedVariables false
section
variable {w w' w1 : World} {vs : List Int} {tv : Value}
theorem CloneU_own (h : VR w tv vs) (hn : vs.length ≤ 1000000000) : Calls Try.prog 39 #[tv] w fun e w' => ∃ v', e = .returned v' ∧ w'.ownsRow w.heap.size 33 1 v' vs.length (us vs) ∧ Below w.heap.size w w' := by
  rcases h with ⟨p, c, rfl, rfl⟩ | ⟨g, c, rfl, hl, hc⟩
  · cases p with
    | none =>
      have heq := fun (w : World) (a : Option Addr) (n c n' c' : Nat) => Lib.run_eql_slice_nil (P := Try.prog) w 34 33 a n c n' c' Try.underlying34
      go_enter Try.func39, Try.ntmps39
      go_wp2
      go_ret
      exact ⟨_, rfl, World.ownsRow_nil _ _ _ _, Below.refl _ _⟩
    | some ad => exact CloneU_some w ad 0 c [] rfl (by decide) (by intro o j u hu; simp [us] at hu)
  · refine CloneU_some w ⟨g, 0, none⟩ vs.length c vs (by simp [us]) hn fun o j u hu => ?_
    have e : ((⟨g, 0, none⟩ : Addr).add j) = ⟨g, j, none⟩ := by unfold Addr.add; split <;> simp_all
    rw [e, World.cell?_alloc_lt w o _ hl]
    exact hc j u hu
end
end Go.Proofs.Ythggpbbnhjaegaa

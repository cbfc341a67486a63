/-
  The great drawn region of SameAccesses: the check that it may be walked in the text's order, in eleven parts. No condition.
-/
import Derived.Test.YtfbdgodebeggbaaTrace
namespace Go.Proofs.Ytfbdgodebeggbaa
open Go Go.RowKit
set_option linter.unusedSimpArgs false
set_option linter.unusedVariables false
/-- the operations of a region, out of the code -/
def opsOf (n : Nat) : Code → Option (Array Oper)
  | .region id ops _ => if id = n then some ops else none
  | .seq a b => (opsOf n a).or (opsOf n b)
  | .loop c => opsOf n c
  | .block _ c => opsOf n c
  | .scope c => opsOf n c
  | .cond _ a b => (opsOf n a).or (opsOf n b)
  | _ => none
noncomputable def OPS : Array Oper := ((Try.f56.body.bind (opsOf 6)).getD #[])
/-- so many steps of the check -/
def lexSteps (md : Region.Mode) (ops : Array Oper) : Nat → Nat → Array Bool → Option (Nat × Array Bool)
  | 0, k, l => some (k, l)
  | n + 1, k, l => if (Region.ready md ops l).contains k && Region.free md ops l k then lexSteps md ops n (k + 1) (l.setIfInBounds k true) else none
theorem lex_steps (md : Region.Mode) (ops : Array Oper) : ∀ (n : Nat) (m k : Nat) (l : Array Bool) (k' : Nat) (l' : Array Bool), lexSteps md ops n k l = some (k', l') → Region.lexFrom md ops m k' l' = true → Region.lexFrom md ops (n + m) k l = true
  | 0, m, k, l, k', l', h, h' => by
    simp only [lexSteps, Option.some.injEq, Prod.mk.injEq] at h
    obtain ⟨rfl, rfl⟩ := h
    simpa using h'
  | n + 1, m, k, l, k', l', h, h' => by
    simp only [lexSteps] at h
    split at h
    · rename_i hc
      rw [show n + 1 + m = (n + m) + 1 from by omega]
      simp only [Region.lexFrom, hc, Bool.true_and]
      exact lex_steps md ops n m _ _ k' l' h h'
    · cases h
def bits (k n : Nat) : Array Bool := ((List.replicate k true) ++ (List.replicate (n - k) false)).toArray
theorem ops_size : OPS.size = 103 := by kernel_rfl
theorem st0 : lexSteps .any OPS 10 0 (bits 0 103) = some (10, bits 10 103) := by kernel_rfl
theorem st1 : lexSteps .any OPS 10 10 (bits 10 103) = some (20, bits 20 103) := by kernel_rfl
theorem st2 : lexSteps .any OPS 10 20 (bits 20 103) = some (30, bits 30 103) := by kernel_rfl
theorem st3 : lexSteps .any OPS 10 30 (bits 30 103) = some (40, bits 40 103) := by kernel_rfl
theorem st4 : lexSteps .any OPS 10 40 (bits 40 103) = some (50, bits 50 103) := by kernel_rfl
theorem st5 : lexSteps .any OPS 10 50 (bits 50 103) = some (60, bits 60 103) := by kernel_rfl
theorem st6 : lexSteps .any OPS 10 60 (bits 60 103) = some (70, bits 70 103) := by kernel_rfl
theorem st7 : lexSteps .any OPS 10 70 (bits 70 103) = some (80, bits 80 103) := by kernel_rfl
theorem st8 : lexSteps .any OPS 10 80 (bits 80 103) = some (90, bits 90 103) := by kernel_rfl
theorem st9 : lexSteps .any OPS 10 90 (bits 90 103) = some (100, bits 100 103) := by kernel_rfl
theorem st10 : lexSteps .any OPS 3 100 (bits 100 103) = some (103, bits 103 103) := by kernel_rfl
theorem st_end : Region.lexFrom .any OPS 0 103 (bits 103 103) = true := by kernel_rfl
theorem no_select : Region.noSelect OPS = true := by kernel_rfl
theorem start : Array.replicate OPS.size false = bits 0 103 := by rw [ops_size]; kernel_rfl
theorem lex_ok : Region.lexB .any OPS = true := by
  rw [Region.lexB, no_select, start, ops_size, Bool.true_and]
  exact (lex_steps .any OPS 10 93 0 _ _ _ st0 (lex_steps .any OPS 10 83 10 _ _ _ st1 (lex_steps .any OPS 10 73 20 _ _ _ st2 (lex_steps .any OPS 10 63 30 _ _ _ st3 (lex_steps .any OPS 10 53 40 _ _ _ st4 (lex_steps .any OPS 10 43 50 _ _ _ st5 (lex_steps .any OPS 10 33 60 _ _ _ st6 (lex_steps .any OPS 10 23 70 _ _ _ st7 (lex_steps .any OPS 10 13 80 _ _ _ st8 (lex_steps .any OPS 10 3 90 _ _ _ st9 (lex_steps .any OPS 3 0 100 _ _ _ st10 st_end)))))))))))
end Go.Proofs.Ytfbdgodebeggbaa

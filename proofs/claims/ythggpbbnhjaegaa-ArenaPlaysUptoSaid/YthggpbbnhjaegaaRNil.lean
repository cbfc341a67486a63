/-
  The document's memory that is nil. No condition.
-/
import Derived.Test.YthggpbbnhjaegaaRFork
namespace Go.Proofs.Ythggpbbnhjaegaa
open Go Go.RowKit
set_option linter.unusedSimpArgs false
set_option linter.unusedVariables false
theorem RLoad_nil (w : World) (th x : Int) : Calls Try.prog 23 #[.pointer none, .int .i64 th, .int .u64 x] w fun e w' => e = .returned (.int .u64 0) ∧ w = w' := by
  go_enter Try.func23, Try.ntmps23
  go_wp2_with fail
  first | (go_ret; exact ⟨rfl, rfl⟩) | (go_end0; exact ⟨rfl, rfl⟩)
theorem RStore_nil (w : World) (th x u : Int) : Calls Try.prog 25 #[.pointer none, .int .i64 th, .int .u64 x, .int .u64 u] w fun e w' => e = .returned (.tuple #[]) ∧ w = w' := by
  go_enter Try.func25, Try.ntmps25
  go_wp2_with fail
  ((try simp only [Exit.inBlock, Exit.then]); refine bodyPost_ret (results_none rfl _ _ _) rfl ?_)
  exact ⟨rfl, rfl⟩
theorem RCas_nil (w : World) (th x o u : Int) : Calls Try.prog 26 #[.pointer none, .int .i64 th, .int .u64 x, .int .u64 o, .int .u64 u] w fun e w' => e = .returned (.bool false) ∧ w = w' := by
  go_enter Try.func26, Try.ntmps26
  go_wp2_with fail
  first | (go_ret; exact ⟨rfl, rfl⟩) | (go_end0; exact ⟨rfl, rfl⟩)
theorem RAdd_nil (w : World) (th x u : Int) : Calls Try.prog 27 #[.pointer none, .int .i64 th, .int .u64 x, .int .u64 u] w fun e w' => e = .returned (.int .u64 0) ∧ w = w' := by
  go_enter Try.func27, Try.ntmps27
  go_wp2_with fail
  first | (go_ret; exact ⟨rfl, rfl⟩) | (go_end0; exact ⟨rfl, rfl⟩)
theorem RAlloc_nil (w : World) (th : Int) (p : Option Addr) (n c : Nat) : Calls Try.prog 29 #[.pointer none, .int .i64 th, .slice p n c] w fun e w' => e = .returned (.int .u64 0) ∧ w = w' := by
  go_enter Try.func29, Try.ntmps29
  go_wp2_with fail
  first | (go_ret; exact ⟨rfl, rfl⟩) | (go_end0; exact ⟨rfl, rfl⟩)
theorem RPeek_nil (w : World) (x : Int) : Calls Try.prog 31 #[.pointer none, .int .u64 x] w fun e w' => e = .returned (.int .u64 0) ∧ w = w' := by
  go_enter Try.func31, Try.ntmps31
  go_wp2_with fail
  first | (go_ret; exact ⟨rfl, rfl⟩) | (go_end0; exact ⟨rfl, rfl⟩)
theorem RLeft_nil (w : World)  : Calls Try.prog 35 #[.pointer none] w fun e w' => e = .returned (.int .i64 0) ∧ w = w' := by
  go_enter Try.func35, Try.ntmps35
  go_wp2_with fail
  first | (go_ret; exact ⟨rfl, rfl⟩) | (go_end0; exact ⟨rfl, rfl⟩)
theorem RFork_nil (w : World)  : Calls Try.prog 9 #[.pointer none] w fun e w' => e = .returned (.pointer none) ∧ w = w' := by
  go_enter Try.func9, Try.ntmps9
  go_wp2_with fail
  first | (go_ret; exact ⟨rfl, rfl⟩) | (go_end0; exact ⟨rfl, rfl⟩)
end Go.Proofs.Ythggpbbnhjaegaa

/-
  The procs of vcas: an Init's step, finding, comparing, whatever is there. No condition.
-/
import Derived.Test.YtenlgfagfpaenaaVrM
import Derived.Test.YtenlgfagfpaenaaVcC
namespace Go.Proofs.Ytenlgfagfpaenaa
open Go Go.RowKit
set_option linter.unusedSimpArgs false
set_option linter.unusedVariables false
section
variable {w0 w w' w1 w2 : World} {ov : Vu} {o : Option Vu} {p q : Nat → Prop} {k g i a : Nat} {t : TypeId} {cam ver obj h0 st val old now n er : Int} {nn sw : Bool} {iv se : Value}
theorem Init_s (h : InitAt w i cam ver a st) (ha : a ≤ 2) (hm : Mx w0 (some ov) p w) (hp : p i) (hc : 0 ≤ cam) (hk : Ok (some (ov.next (ist cam ov.th ov.A ver a st).1))) :
    Calls Try.prog 19 #[.pointer (some ⟨i, 0, none⟩), vv (some ov)] w fun e w' => e = .returned (.bool (decide ((ist cam ov.th ov.A ver a st).2.1 = 3))) ∧ InitAt w' i cam ver (ist cam ov.th ov.A ver a st).2.1 (ist cam ov.th ov.A ver a st).2.2 ∧ Mx w0 (some (ov.next (ist cam ov.th ov.A ver a st).1)) p w' ∧ Kb p i w w' := by
  match a, ha with
  | 0, _ =>
    refine (Init_0 (o := some ov) h hm hp _ rfl hk).mono ?_
    rintro e w' ⟨rfl, h1, h2, h3⟩
    have e1 : pk (some ov) (wr64 (ver + 1)) = ov.A.peek (wr64 (ver + 1)) := rfl
    rw [e1] at h1 ⊢
    refine ⟨?_, ?_, h2, h3⟩
    · by_cases hy : ov.A.peek (wr64 (ver + 1)) = 0 <;> simp [ist, hy]
    · simp only [ist]
      by_cases hy : ov.A.peek (wr64 (ver + 1)) = 0
      · rw [if_pos hy] at h1 ⊢; exact h1
      · rw [if_neg hy] at h1 ⊢; exact h1
  | 1, _ =>
    refine (Init_1 (o := some ov) h hm hp hc _ rfl hk).mono ?_
    rintro e w' ⟨rfl, h1, h2, h3⟩
    exact ⟨by simp [ist], h1, h2, h3⟩
  | 2, _ =>
    refine (Init_2 (o := some ov) h hm hp hk).mono ?_
    rintro e w' ⟨rfl, h1, h2, h3⟩
    exact ⟨by simp [ist], h1, h2, h3⟩
/-- what a comparison writes -/
def cmpW (k : Nat) (old now v : Int) (w : World) : World := if v ≠ old then w.setCell ⟨k, 6, none⟩ (.int .i64 7) else if old = now then (w.setCell ⟨k, 10, none⟩ (.bool true)).setCell ⟨k, 6, none⟩ (.int .i64 7) else w.setCell ⟨k, 6, none⟩ (.int .i64 2)
set_option maxRecDepth 100000 in
theorem compare_any {bg : Bool} {at_ : Int} (h : CaAt w k cam obj bg nn h0 iv at_ old now n sw se er) (v : Int) :
    Calls Try.prog 59 #[.pointer (some ⟨k, 0, none⟩), .int .u64 v] w fun e w' => e = .returned (.tuple #[]) ∧ ∃ d, w' = cmpW k old now v (w.drewN d) := by
  have c7 : w.cell? ⟨k, 7, none⟩ = some (.int .u64 old) := Blk.cell h 7
  have c8 : w.cell? ⟨k, 8, none⟩ = some (.int .u64 now) := Blk.cell h 8
  have c6 : w.cell? ⟨k, 6, none⟩ = some (.int .i64 at_) := Blk.cell h 6
  have f6 := Blk.cold h 6
  have c10 : w.cell? ⟨k, 10, none⟩ = some (.bool sw) := Blk.cell h 10
  have f10 := Blk.cold h 10
  have h10 : CaAt (w.setCell ⟨k, 10, none⟩ (.bool true)) k cam obj bg nn h0 iv at_ old now n true se er := (Blk.put h 10 (.bool true)).eq (by simp [headC])
  have d6 : (w.setCell ⟨k, 10, none⟩ (.bool true)).cell? ⟨k, 6, none⟩ = some (.int .i64 at_) := Blk.cell h10 6
  have g6 := Blk.cold h10 6
  clear h h10
  have e10 : ∀ d, ((w.drewN d).setCell ⟨k, 10, none⟩ (.bool true)).cell? ⟨k, 6, none⟩ = some (.int .i64 at_) := fun _ => d6
  have f10' : ∀ d, ((w.drewN d).setCell ⟨k, 10, none⟩ (.bool true)).frozen? ⟨k, 6, none⟩ = false := fun _ => g6
  have E10 := Lib.hid e10
  have F10 := Lib.hid f10'
  clear d6 g6 e10 f10'
  by_cases hv : v = old
  · subst hv
    by_cases hn : v = now
    · subst hn
      have HE : Hid (∀ d, cmpW k v v v (w.drewN d) = ((w.drewN d).setCell ⟨k, 10, none⟩ (.bool true)).setCell ⟨k, 6, none⟩ (.int .i64 7)) := fun d => by simp [cmpW]
      go_enter Try.func59, Try.ntmps59
      go_wp2_with fail
      go_quiet (fail)
      have e6 := E10.out nq
      have g6 := F10.out nq
      go_wp2
      go_end0
      exact ⟨rfl, nq, (HE.out nq).symm⟩
    · have hz : (v == now) = false := by simpa using hn
      have HE : Hid (∀ d, cmpW k v now v (w.drewN d) = (w.drewN d).setCell ⟨k, 6, none⟩ (.int .i64 2)) := fun d => by simp [cmpW, hn]
      go_enter Try.func59, Try.ntmps59
      go_wp2_with fail
      go_quiet (fail)
      go_wp2
      go_end0
      exact ⟨rfl, nq, (HE.out nq).symm⟩
  · have hz : (v != old) = true := by simpa using hv
    have HE : Hid (cmpW k old now v (w.drewN 0) = w.setCell ⟨k, 6, none⟩ (.int .i64 7)) := by show _ = _; simp [cmpW, hv]; rfl
    go_enter Try.func59, Try.ntmps59
    go_wp2
    go_end0
    exact ⟨rfl, 0, HE.out.symm⟩
end
end Go.Proofs.Ytenlgfagfpaenaa

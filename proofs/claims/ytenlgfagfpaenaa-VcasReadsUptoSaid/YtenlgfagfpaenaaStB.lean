/-
  A runner: is a thread idle, are all done; the steps of accesses are written down. No condition.
-/
import Derived.Test.YtenlgfagfpaenaaStA
import Derived.Deep.QuietTactic
import Derived.BigQuiet
import Derived.LoopTactic
namespace Go.Proofs.Ytenlgfagfpaenaa
open Go Go.RowKit
set_option linter.unusedSimpArgs false
set_option linter.unusedVariables false
/-- has a thread nothing to do? -/
def idle (T : List Thr) (t : Int) : Bool := if 0 ≤ t ∧ t < T.length then (match T[t.toNat]? with | some x => decide (x.procs.length ≤ x.pos) | none => true) else true
section
variable {w0 w w' : World} {R S G : Nat → Prop} {rp bm : Nat} {vws : List Nat} {T : List Thr} {steps : Nat} {evs : List Ev} {ats : List Int} {cs : Array Value} {tv ev av u : Value}
theorem idle_in {t : Nat} {x : Thr} (hx : T[t]? = some x) : idle T t = decide (x.procs.length ≤ x.pos) := by
  have := (List.getElem?_eq_some_iff.1 hx).1
  unfold idle
  rw [if_pos ⟨by omega, by omega⟩]
  simp [hx]
set_option maxRecDepth 100000 in
theorem isIdle_any (h : RX w R rp bm vws T steps evs ats cs tv ev av) (hn : T.length ≤ 1000000000) (t : Int) (hpl : ∀ x ∈ T, x.procs.length ≤ 1000000000) :
    Calls Try.prog 78 #[.pointer (some ⟨rp, 0, none⟩), .int .i64 t] w fun e w' => e = .returned (.bool (idle T t)) ∧ ∃ n, w' = w.drewN n := by
  by_cases h0 : t < 0
  · have h1 : decide (t < 0) = true := by simpa using h0
    have hi : idle T t = true := by unfold idle; rw [if_neg (by omega)]
    rw [hi]
    clear hi h0 h
    go_enter Try.func78, Try.ntmps78
    go_wp2_with fail
    go_quiet (fail)
    all_goals
      go_wp2
      go_ret
      exact ⟨rfl, _, rfl⟩
  · have h1 : decide (t < 0) = false := by simpa using h0
    obtain ⟨tp, tc, rfl⟩ := bk_form h.thr
    have c1 : w.cell? ⟨rp, 1, none⟩ = some (.slice tp T.length tc) := (h.blk.cell 1).trans h.rc.c1
    obtain ⟨k, rfl⟩ : ∃ k : Nat, t = k := ⟨t.toNat, by omega⟩
    by_cases h2 : k < T.length
    · obtain ⟨x, hx⟩ : ∃ x, T[k]? = some x := ⟨_, List.getElem?_eq_getElem h2⟩
      obtain ⟨tg, tc', e, d0, d1, -⟩ := h.tcell hx
      obtain ⟨p, c, e3, -⟩ := h.pcell hx
      have hpx := hpl x (List.mem_of_getElem? hx)
      injection e with e1 _ e2
      subst e1 e2
      rw [e3] at d0
      rw [idle_in hx]
      have h3 : decide ((T.length : Int) ≤ (k : Int)) = false := by simp; omega
      have h4 : decide (T.length ≤ k) = false := by simp; omega
      clear h hx e3 hpl h0
      generalize x.procs.length = pn at *
      generalize x.pos = px at *
      generalize T.length = n at *
      go_enter Try.func78, Try.ntmps78
      go_wp2_with fail
      go_quiet (fail)
      all_goals
        go_wp2
        go_ret
        exact ⟨by simp, _, rfl⟩
    · have h3 : decide ((T.length : Int) ≤ (k : Int)) = true := by simp; omega
      have h4 : decide (T.length ≤ k) = true := by simp; omega
      have hi : idle T (k : Int) = true := by unfold idle; rw [if_neg (by omega)]
      rw [hi]
      clear hi h hpl h0
      generalize T.length = n at *
      go_enter Try.func78, Try.ntmps78
      go_wp2_with fail
      go_quiet (fail)
      all_goals
        go_wp2
        go_ret
        exact ⟨rfl, _, rfl⟩
end
end Go.Proofs.Ytenlgfagfpaenaa

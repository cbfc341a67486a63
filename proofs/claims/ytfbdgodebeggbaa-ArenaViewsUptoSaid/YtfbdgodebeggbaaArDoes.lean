/-
  What a script's call writes down, and that the trace alone does the same. No condition.
-/
import Derived.Test.YtfbdgodebeggbaaArDone
namespace Go.Proofs.Ytfbdgodebeggbaa
open Go Go.RowKit
set_option linter.unusedSimpArgs false
set_option linter.unusedVariables false
/-- what a call writes down -/
def Opr.acc (x : Opr) (A : Mem) : Acc :=
  if x.sort = 0 then ⟨x.thread, 1, x.addr, 0, 0, [], A.peek x.addr, false⟩ else if x.sort = 1 then ⟨x.thread, 2, x.addr, x.a, 0, [], 0, false⟩ else if x.sort = 2 then ⟨x.thread, 3, x.addr, x.a, x.b, [], 0, A.hit x.addr x.a⟩
  else if x.sort = 3 then ⟨x.thread, 4, x.addr, x.a, 0, [], A.peek x.addr, false⟩ else ⟨x.thread, 5, A.spot x.vals, 0, 0, x.vals, 0, false⟩
section
variable {w w' : World} {g : Nat} {A : Mem} {u : Value} {l : List Opr} {x : Opr}
theorem does_acc (x : Opr) (A : Mem) : (x.does A).trace = A.trace ++ [x.acc A] := by
  unfold Opr.does Opr.acc
  split
  · rfl
  split
  · rfl
  split
  · simp only [Mem.cas, Mem.note]; split <;> rfl
  split
  · rfl
  · simp only [Mem.alloc, Mem.note]; split <;> rfl
theorem does_one (x : Opr) (A : Mem) (h : 1 ≤ A.next) : 1 ≤ (x.does A).next := by
  unfold Opr.does
  split
  · exact h
  split
  · exact h
  split
  · simp only [Mem.cas, Mem.note]; split <;> exact h
  split
  · exact h
  · simp only [Mem.alloc, Mem.note]; split
    · show 1 ≤ A.next + x.vals.length; omega
    · exact h
theorem doAll_one (A : Mem) (l : List Opr) (h : 1 ≤ A.next) : 1 ≤ (doAll A l).next := by
  induction l generalizing A with
  | nil => exact h
  | cons x l ih => exact ih (x.does A) (does_one x A h)
theorem doAll_take {k : Nat} (A : Mem) (hx : l[k]? = some x) : doAll A (l.take (k + 1)) = x.does (doAll A (l.take k)) := by
  rw [List.take_add_one, hx]; exact doAll_snoc _ _ _
theorem doAll_prefix (A : Mem) (l : List Opr) {i : Nat} (hi : i < A.trace.length) : (doAll A l).trace[i]? = A.trace[i]? := by
  induction l generalizing A with
  | nil => rfl
  | cons y l ih =>
    show (doAll (y.does A) l).trace[i]? = _
    have ht := does_acc y A
    rw [ih (y.does A) (by rw [ht]; simp; omega), ht, List.getElem?_append_left hi]
/-- the trace, call by call -/
theorem doAll_trace (A : Mem) (l : List Opr) (k : Nat) (x : Opr) (hx : l[k]? = some x) : (doAll A l).trace[A.trace.length + k]? = some (x.acc (doAll A (l.take k))) := by
  induction l generalizing A k with
  | nil => simp at hx
  | cons y l ih =>
    have ht := does_acc y A
    show (doAll (y.does A) l).trace[A.trace.length + k]? = _
    cases k with
    | zero =>
      obtain rfl : y = x := by simpa using hx
      rw [doAll_prefix _ _ (by rw [ht]; simp), ht]
      simp [doAll]
    | succ k =>
      have h2 := ih (y.does A) k (by simpa using hx)
      rw [ht] at h2
      simp only [List.length_append, List.length_cons, List.length_nil] at h2
      rw [show A.trace.length + (k + 1) = A.trace.length + (0 + 1) + k from by omega, h2]
      rfl
theorem done_does (x : Opr) (h : Blk w g 22 (us A.cells).toArray) (hx : x.fits) (hn0 : 1 ≤ A.cells.length) (hn : A.cells.length ≤ 4194304) (h1 : 1 ≤ A.next) (hA : A.next ≤ A.cells.length)
    (hu : VR w u (x.acc A).vals) (hug : (x.acc A).vals ≠ [] → ∀ b, u.ownBlock = some b → b ≠ g) :
    Calls Try.prog 40 #[.slice (some ⟨g, 0, none⟩) A.cells.length A.cells.length, .int .i64 A.next, .agg (accC (x.acc A, u)).toArray] w fun e w' => Does w w' g e (x.does A) := by
  obtain ⟨up, un, uc, rfl⟩ := hu.form
  have hz5 : x.sort = 0 ∨ x.sort = 1 ∨ x.sort = 2 ∨ x.sort = 3 ∨ x.sort = 4 := by unfold Opr.sort; omega
  rcases hz5 with hz | hz | hz | hz | hz
  · have e1 : x.acc A = ⟨x.thread, 1, x.addr, 0, 0, [], A.peek x.addr, false⟩ := by simp [Opr.acc, hz]
    have e2 : x.does A = A.load x.thread x.addr := by simp [Opr.does, hz]
    rw [e1, e2]
    exact done_load h hx.1 hn0 hn
  · have e1 : x.acc A = ⟨x.thread, 2, x.addr, x.a, 0, [], 0, false⟩ := by simp [Opr.acc, hz]
    have e2 : x.does A = A.store x.thread x.addr x.a := by simp [Opr.does, hz]
    rw [e1, e2]
    exact done_store h hx.1 hn0 hn
  · have e1 : x.acc A = ⟨x.thread, 3, x.addr, x.a, x.b, [], 0, A.hit x.addr x.a⟩ := by simp [Opr.acc, hz]
    have e2 : x.does A = A.cas x.thread x.addr x.a x.b := by simp [Opr.does, hz]
    rw [e1, e2]
    exact done_cas h hx.1 hn0 hn
  · have e1 : x.acc A = ⟨x.thread, 4, x.addr, x.a, 0, [], A.peek x.addr, false⟩ := by simp [Opr.acc, hz]
    have e2 : x.does A = A.add x.thread x.addr x.a := by simp [Opr.does, hz]
    rw [e1, e2]
    exact done_add h hx.1 hn0 hn
  · have e1 : x.acc A = ⟨x.thread, 5, A.spot x.vals, 0, 0, x.vals, 0, false⟩ := by simp [Opr.acc, hz]
    have e2 : x.does A = A.alloc x.thread x.vals := by simp [Opr.does, hz]
    have hun : un = x.vals.length := by
      rw [e1] at hu
      rcases hu with ⟨p, c, e, e0⟩ | ⟨gb, c, e, _⟩
      · injection e with _ e _
        rw [e]; have e0 : x.vals = [] := e0; rw [e0]; rfl
      · injection e with _ e _
    subst hun
    rw [e1] at hu hug
    rw [e1, e2]
    have hl := hx.2.1
    cases hf : A.fits x.vals
    · have hs : A.spot x.vals = 0 := by simp [Mem.spot, hf]
      rw [hs]
      exact done_alloc_no h hn0 hn (by omega) hA hf
    · have hs : A.spot x.vals = A.next := by simp [Mem.spot, hf]
      rw [hs]
      exact done_alloc_yes h hn0 hn (by omega) h1 hf hu (hug (by simp [Mem.fits] at hf; exact hf.1))
end
end Go.Proofs.Ytfbdgodebeggbaa

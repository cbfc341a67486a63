/-
  The procs of vcas as plain Lean: what a step does to a memory. No condition.
-/
import Derived.Test.YtenlgfagfpaenaaVcB
namespace Go.Proofs.Ytenlgfagfpaenaa
open Go Go.RowKit
set_option linter.unusedSimpArgs false
set_option linter.unusedVariables false
/-- a call: 0 Read, 1 Cas, 2 At, 3 Take -/
structure Cl where
  kind : Int
  obj : Int
  a : Int
  b : Int
/-- how far a call is -/
inductive Vs where
  | new
  | find (h : Int) (a : Nat) (st : Int)
  | load (h : Int)
  | make (h : Int)
  | swap (h n : Int)
  | look (h n : Int)
  | settle (h n : Int) (sw : Bool) (ver : Int) (a : Nat) (st : Int)
  | alook (h : Int)
  | awalk (h : Int)
  | loaded (t : Int)
  | done (val : Int) (sw : Bool)
def Vs.fin : Vs → Bool
  | .done _ _ => true
  | _ => false
/-- an Init's step: the memory, what is next, its stamp -/
def ist (cam th : Int) (A : Mem) (ver : Int) (a : Nat) (st : Int) : Mem × Nat × Int :=
  match a with
  | 0 => (A.load th (wr64 (ver + 1)), if A.peek (wr64 (ver + 1)) = 0 then 1 else 3, st)
  | 1 => (A.load th cam, 2, A.peek cam)
  | _ => (A.cas th (wr64 (ver + 1)) 0 st, 3, st)
/-- a Cas that knows what is there -/
def cmpv (c : Cl) (h v : Int) : Vs := if v ≠ c.a then .done 0 false else if c.a = c.b then .done 0 true else .make h
/-- a call's step -/
def Cl.step (c : Cl) (cam th : Int) (A : Mem) (s : Vs) : Mem × Vs :=
  match s with
  | .new =>
    if c.kind = 3 then (A.load th cam, if A.peek cam < c.a then .loaded (A.peek cam) else .done 0 false)
    else (A.load th c.obj, if A.peek c.obj ≠ 0 then .find (A.peek c.obj) 0 0 else if c.kind = 1 then cmpv c 0 0 else .done 0 false)
  | .find h a st =>
    ((ist cam th A h a st).1, if (ist cam th A h a st).2.1 = 3 then (if c.kind = 2 then .alook h else .load h) else .find h (ist cam th A h a st).2.1 (ist cam th A h a st).2.2)
  | .load h => (A.load th h, if c.kind = 1 then cmpv c h (A.peek h) else .done (A.peek h) false)
  | .make h => (A.alloc th [c.b, 0, h], if A.spot [c.b, 0, h] = 0 then .done 0 false else .swap h (A.spot [c.b, 0, h]))
  | .swap h n => (A.cas th c.obj h n, if A.hit c.obj h then .settle h n true n 0 0 else .look h n)
  | .look h n => (A.load th c.obj, .settle h n false (A.peek c.obj) 0 0)
  | .settle h n sw ver a st =>
    ((ist cam th A ver a st).1, if (ist cam th A ver a st).2.1 = 3 then .done 0 sw else .settle h n sw ver (ist cam th A ver a st).2.1 (ist cam th A ver a st).2.2)
  | .alook h => (A.load th (wr64 (h + 1)), if c.a < A.peek (wr64 (h + 1)) then .awalk h else .load h)
  | .awalk h => (A.load th (wr64 (h + 2)), if A.peek (wr64 (h + 2)) = 0 then .done 0 false else .alook (A.peek (wr64 (h + 2))))
  | .loaded t => (A.cas th cam t (wr64 (t + 1)), .done t (A.hit cam t))
  | .done v sw => (A, .done v sw)
/-- what a call of this kind can be at -/
def Cl.may (c : Cl) (s : Vs) : Prop :=
  match s with
  | .new => True
  | .find h a st => c.kind ≠ 3 ∧ h ≠ 0 ∧ 0 ≤ h ∧ a ≤ 2 ∧ 0 ≤ st
  | .load h => c.kind ≠ 3 ∧ h ≠ 0 ∧ 0 ≤ h
  | .make h => c.kind = 1 ∧ 0 ≤ h
  | .swap h n => c.kind = 1 ∧ 0 ≤ h ∧ n ≠ 0 ∧ 0 ≤ n
  | .look _ n => c.kind = 1 ∧ n ≠ 0 ∧ 0 ≤ n
  | .settle _ _ _ ver a st => c.kind = 1 ∧ 0 ≤ ver ∧ a ≤ 2 ∧ 0 ≤ st
  | .alook h => c.kind = 2 ∧ h ≠ 0 ∧ 0 ≤ h
  | .awalk h => c.kind = 2 ∧ h ≠ 0 ∧ 0 ≤ h
  | .loaded _ => c.kind = 3
  | .done _ _ => True
end Go.Proofs.Ytenlgfagfpaenaa

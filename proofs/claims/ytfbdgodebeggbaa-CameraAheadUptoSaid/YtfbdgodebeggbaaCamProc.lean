/-
  A call under way, of the program and of the document: begin, same, step. No condition.
-/
import Derived.Test.YtfbdgodebeggbaaRCam
import Derived.Test.YtfbdgodebeggbaaCamLive
namespace Go.Proofs.Ytfbdgodebeggbaa
open Go Go.RowKit
set_option linter.unusedSimpArgs false
set_option linter.unusedVariables false
/-- the state of a call, that of both: its own kind, and the two procs -/
structure CS where
  isNow : Bool
  most : Int
  n : NowS
  t : TakeS
  fr : Int
  to : Int
def CS.ps (s : CS) (np tp : Nat) : PS := ⟨s.isNow, s.most, np, tp, if s.n.at_ = 2 then 1 else 0, s.n.cell, s.n.t, s.t.at_, s.t.cell, s.t.most, s.t.t, s.t.stamp, s.t.e, s.t.moved, s.fr, s.to⟩
/-- a call lies at pb, its procs in blocks of their own, all within C -/
structure CAt (w : World) (C : Nat → Prop) (pb np tp : Nat) (s : CS) : Prop where
  p : PAt w pb (s.ps np tp)
  n : NowAt w np s.n
  t : TakeAt w tp s.t
  cp : C pb
  cn : C np
  ct : C tp
section
variable {w w' w1 : World} {F G S C : Nat → Prop} {rm bm r pb np tp v : Nat} {A : Mem} {s : CS} {th made : Int}
theorem CAt.fr (h : CAt w C pb np tp s) (hf : Fr S w w') (hS : ∀ k, C k → ¬ S k) : CAt w' C pb np tp s :=
  ⟨Blk.fr h.p hf (hS _ h.cp), Blk.fr h.n hf (hS _ h.cn), Blk.fr h.t hf (hS _ h.ct), h.cp, h.cn, h.ct⟩
theorem CAt.wide (h : CAt w C pb np tp s) (hC : ∀ k, C k → S k) : CAt w S pb np tp s := ⟨h.p, h.n, h.t, hC _ h.cp, hC _ h.cn, hC _ h.ct⟩
set_option maxRecDepth 100000 in
theorem same_any (h : CAt w C pb np tp s) : Calls Try.prog 54 #[.pointer (some ⟨pb, 0, none⟩)] w fun e w' => e = .returned (.bool true) ∧ ∃ n, w' = w.drewN n := by
  have c0 : w.cell? ⟨pb, 0, none⟩ = some (.bool s.isNow) := Blk.cell h.p 0
  cases hb : s.isNow
  · rw [hb] at c0
    have c3 : w.cell? ⟨pb, 3, none⟩ = some (.pointer (some ⟨tp, 0, none⟩)) := Blk.cell h.p 3
    have c11 : w.cell? ⟨pb, 11, none⟩ = some (.int .u64 s.t.stamp) := Blk.cell h.p 11
    have c12 : w.cell? ⟨pb, 12, none⟩ = some (.int .i64 s.t.e) := Blk.cell h.p 12
    have c13 : w.cell? ⟨pb, 13, none⟩ = some (.bool s.t.moved) := Blk.cell h.p 13
    clear hb
    go_enter Try.func54, Try.ntmps54
    go_wp2_with fail
    go_quiet ((first
      | (go_at_call 20; exact Calls.quiet_of_same ((Take_Stamp_any (w := w.drewN _) h.t).mono fun _ _ hh => ⟨hh.1, hh.2.symm⟩))
      | (go_at_call 21; exact Calls.quiet_of_same ((Take_Errno_any (w := w.drewN _) h.t).mono fun _ _ hh => ⟨hh.1, hh.2.symm⟩))
      | (go_at_call 22; exact Calls.quiet_of_same ((Take_Moved_any (w := w.drewN _) h.t).mono fun _ _ hh => ⟨hh.1, hh.2.symm⟩))))
    all_goals
      go_wp2
      go_ret
      exact ⟨rfl, _, rfl⟩
  · rw [hb] at c0
    have c3 : w.cell? ⟨pb, 2, none⟩ = some (.pointer (some ⟨np, 0, none⟩)) := Blk.cell h.p 2
    have c11 : w.cell? ⟨pb, 6, none⟩ = some (.int .u64 s.n.t) := Blk.cell h.p 6
    clear hb
    go_enter Try.func54, Try.ntmps54
    go_wp2_with fail
    go_quiet ((go_at_call 19; exact Calls.quiet_of_same ((Now_Stamp_any (w := w.drewN _) h.n).mono fun _ _ hh => ⟨hh.1, hh.2.symm⟩)))
    all_goals
      go_wp2
      go_ret
      exact ⟨rfl, _, rfl⟩
theorem RM.tight {lv : Bool} (h : RM w F rm lv A) : RM w (fun b => F b ∧ b < w.heap.size) rm lv A := by
  obtain ⟨r, tv, rows, h⟩ := h
  refine ⟨r, tv, rows, h.bM, h.bR, h.own, h.fst, fun x hx => ?_, ⟨h.fM, h.bM.lt⟩, ⟨h.fR, h.bR.lt⟩, fun g e => ⟨h.fT g e, own_lt h.own e⟩⟩
  rcases h.vals x hx with h0 | ⟨h0, h1⟩
  · exact .inl h0
  · exact .inr ⟨h0, fun g e => ⟨⟨(h1 g e).1, own_lt h0 e⟩, (h1 g e).2⟩⟩
/-- whose block is it: old ones as lab says, new ones k's -/
def relab (lab : Nat → Nat) (w : World) (k : Nat) : Nat → Nat := fun b => if b < w.heap.size then lab b else k
def Ex (w : World) (lab lab' : Nat → Nat) : Prop := ∀ b, b < w.heap.size → lab' b = lab b
/-- both memories say the same; the program's blocks bear 1, the document's 2 -/
structure Both (w : World) (lab : Nat → Nat) (bm rm : Nat) (A : Mem) : Prop where
  pm : PM w (fun b => lab b = 1) bm A
  rm : RM w (fun b => lab b = 2) rm false A
theorem Both.fr {lab : Nat → Nat} (h : Both w lab bm rm A) (hf : Fr S w w') (hS : ∀ k, lab k = 1 ∨ lab k = 2 → ¬ S k) : Both w' lab bm rm A :=
  ⟨h.pm.fr hf fun k hk => hS k (.inl hk), h.rm.fr hf fun k hk => hS k (.inr hk)⟩
theorem Both.ex {lab lab' : Nat → Nat} (h : Both w lab bm rm A) (hx : Ex w lab lab') : Both w lab' bm rm A :=
  ⟨h.pm.tight.wide fun k hk => (hx k hk.2).trans hk.1, h.rm.tight.wide fun k hk => (hx k hk.2).trans hk.1⟩
/-- first the program's step, then the document's -/
theorem both_step {lab : Nat → Nat} {A' : Mem} {p : Nat} (h : Both w lab bm rm A) (h1 : Stepped w w1 (fun b => lab b = 1) bm v p th made A') (hv : lab v = 4) (hp : lab p = 3) (hpb : lab pb = 3) (hvl : v < w.heap.size) (hpl : pb < w.heap.size)
    (h2 : RStepped w1 w' (fun b => lab b = 2 ∧ b < w.heap.size) rm pb A') :
    ∃ lab', Ex w lab lab' ∧ Both w' lab' bm rm A' ∧ VW w' v bm th made ∧ Fr (fun b => lab b = 1 ∨ lab b = 2 ∨ b = v ∨ b = p ∨ b = pb) w w' := by
  refine ⟨relab (relab lab w 1) w1 2, ?_, ⟨?_, ?_⟩, VW.fr h1.2.1 h2.2 ?_, ?_⟩
  · intro b hb
    have := h1.2.2.size
    simp [relab, hb, show b < w1.heap.size from by omega]
  · refine (h1.1.tight.fr h2.2 ?_).wide ?_
    · rintro k ⟨hk, hl⟩ (e | e)
      · rcases hk with hk | hk
        · omega
        · omega
      · subst e
        rcases hk with hk | hk <;> omega
    · rintro k ⟨hk, hl⟩
      simp only [relab, hl, if_true]
      rcases hk with hk | hk
      · by_cases hb : k < w.heap.size
        · rw [if_pos hb]; exact hk
        · rw [if_neg hb]
      · rw [if_neg (by omega)]
  · refine h2.1.tight.wide ?_
    rintro k ⟨hk, hl⟩
    simp only [relab]
    have := h1.2.2.size
    rcases hk with hk | hk
    · rw [if_pos (by omega), if_pos hk.2]; exact hk.1
    · rw [if_neg (by omega)]
  · rintro (e | e)
    · omega
    · subst e; omega
  · refine (h1.2.2.mono ?_).trans (h2.2.mono ?_)
    · rintro k _ (e | e | e)
      · exact .inl e
      · exact .inr (.inr (.inl e))
      · exact .inr (.inr (.inr (.inl e)))
    · rintro k _ (e | e)
      · exact .inr (.inl e.1)
      · exact .inr (.inr (.inr (.inr e)))
/-- the document's memory behind the program's step -/
theorem rm_behind {lab : Nat → Nat} {A' : Mem} {p : Nat} (h : Both w lab bm rm A) (h1 : Stepped w w1 (fun b => lab b = 1) bm v p th made A') (hv : lab v = 4) (hp : lab p = 3) :
    RM w1 (fun b => lab b = 2 ∧ b < w.heap.size) rm false A := by
  refine h.rm.tight.fr h1.2.2 ?_
  rintro k ⟨hk, _⟩ (e | e | e)
  · omega
  · subst e; omega
  · subst e; omega
def CS.ok (s : CS) : Prop := 0 ≤ s.n.cell ∧ 0 ≤ s.t.cell ∧ (s.n.at_ = 0 ∨ s.n.at_ = 2) ∧ (s.t.at_ = 0 ∨ s.t.at_ = 1 ∨ s.t.at_ = 2)
/-- is it done? -/
def CS.fin (s : CS) : Bool := if s.isNow then decide (s.n.at_ = 2) else decide (s.t.at_ = 2)
/-- a step of a call: its state, the memory -/
def CS.step (s : CS) (A : Mem) (th : Int) : CS × Mem :=
  if s.fin then (s, A)
  else if s.isNow then ({ s with n := ⟨2, s.n.cell, A.peek s.n.cell⟩ }, A.load th s.n.cell)
  else if s.t.at_ = 0 then (if A.peek s.t.cell < s.t.most then { s with t := { s.t with at_ := 1, t := A.peek s.t.cell } } else { s with t := { s.t with at_ := 2, t := A.peek s.t.cell, e := 31 } }, A.load th s.t.cell)
  else ({ s with t := { s.t with at_ := 2, stamp := s.t.t, moved := A.hit s.t.cell s.t.t } }, A.cas th s.t.cell s.t.t (IntKind.u64.wrap (s.t.t + 1)))
/-- what a step leaves -/
def Went (w w' : World) (lab : Nat → Nat) (bm rm v pb np tp : Nat) (th : Int) (made : Int) (s : CS) (A : Mem) : Prop :=
  ∃ lab' made', Ex w lab lab' ∧ Both w' lab' bm rm A ∧ CAt w' (fun b => lab' b = 3) pb np tp s ∧ VW w' v bm th made' ∧ made ≤ made' ∧ made' ≤ made + 1 ∧ Fr (fun b => lab b = 1 ∨ lab b = 2 ∨ b = v ∨ b = pb ∨ b = np ∨ b = tp) w w'
end
end Go.Proofs.Ytfbdgodebeggbaa

/-
  What holds of every run of calls, in plain Lean: the stamps. No condition.
-/
import Derived.Test.YtfbdgodebeggbaaCamRan
namespace Go.Proofs.Ytfbdgodebeggbaa
open Go Go.RowKit
set_option linter.unusedSimpArgs false
set_option linter.unusedVariables false
theorem peek_put {A : Mem} {x : Int} (h0 : 0 ≤ x) (hx : A.has x = true) (v : Int) : (A.put x v).peek x = v := by
  obtain ⟨i, rfl, hi⟩ := has_nat h0 hx
  simp [Mem.peek, Mem.put, List.getD_eq_getElem?_getD, List.getElem?_set, hi]
theorem peek_note (A : Mem) (a : Acc) (x : Int) : (A.note a).peek x = A.peek x := rfl
/-- what is so of each call: how far it is, and what its stamp is beside what the cell held -/
def CG (cell first V : Int) (m : Nat) (H : Nat → Int) (c : CS) : Prop :=
  c.n.cell = cell ∧ c.t.cell = cell ∧ c.t.most = c.most ∧ 0 ≤ c.most ∧ c.most ≤ 18446744073709551615 ∧ 0 ≤ c.fr ∧ c.fr < m ∧
  (if c.isNow = true then
     c.t.moved = false ∧ ((c.n.at_ = 0 ∧ c.to = -1) ∨ (c.n.at_ = 2 ∧ 0 ≤ c.to ∧ c.to < m ∧ (∀ k : Nat, (k : Int) < c.fr → H k ≤ c.n.t) ∧ c.n.t ≤ H c.to.toNat))
   else
     (c.t.at_ = 0 ∧ c.to = -1 ∧ c.t.moved = false ∧ c.t.e = 0) ∨
     (c.t.at_ = 1 ∧ c.to = -1 ∧ c.t.moved = false ∧ c.t.e = 0 ∧ first ≤ c.t.t ∧ c.t.t ≤ V ∧ c.t.t < c.most ∧ ∀ k : Nat, (k : Int) < c.fr → H k ≤ c.t.t) ∨
     (c.t.at_ = 2 ∧ 0 ≤ c.to ∧ c.to < m ∧ ((c.t.e = 31 ∧ c.t.moved = false) ∨ (c.t.e = 0 ∧ first ≤ c.t.stamp ∧ c.t.stamp < H c.to.toNat ∧ ∀ k : Nat, (k : Int) < c.fr → H k ≤ c.t.stamp))))
/-- a Take that moved the cell -/
def CS.mv (c : CS) : Bool := !c.isNow && c.t.moved
structure LI (cell first : Int) (H : Nat → Int) (i m : Nat) (s : RS) : Prop where
  len : s.A.cells.length = 128
  lo : first ≤ s.A.peek cell
  hi : s.A.peek cell ≤ 18446744073709551615
  hist : ∀ k, k < i → H k ≤ s.A.peek cell
  cg : ∀ c ∈ s.all, CG cell first (s.A.peek cell) m H c
  cnt : ∀ v, s.all.countP (fun c => c.mv && decide (c.t.stamp = v)) = if first ≤ v ∧ v < s.A.peek cell then 1 else 0
  tot : (s.all.countP CS.mv : Int) = s.A.peek cell - first
  top : s.A.peek cell = first ∨ ∃ c ∈ s.all, c.isNow = false ∧ s.A.peek cell ≤ c.most
section
variable {cell first V V' : Int} {H : Nat → Int} {i m m' t j : Nat} {s : RS} {c : CS} {th : List (List (Bool × Int))} {picks : List Int}
theorem CG.more (h : CG cell first V m H c) (hV : V ≤ V') (hm : m ≤ m') : CG cell first V' m' H c := by
  obtain ⟨h1, h2, h3, h4, h5, h6, h7, h8⟩ := h
  refine ⟨h1, h2, h3, h4, h5, h6, by omega, ?_⟩
  split at h8
  · rename_i hb
    rw [if_pos hb]
    refine ⟨h8.1, ?_⟩
    rcases h8.2 with h | ⟨k1, k2, k3, k4, k5⟩
    · exact .inl h
    · exact .inr ⟨k1, k2, by omega, k4, k5⟩
  · rename_i hb
    rw [if_neg hb]
    rcases h8 with h | ⟨k1, k2, k3, k4, k5, k6, k7⟩ | ⟨k1, k2, k3, k4⟩
    · exact .inl h
    · exact .inr (.inl ⟨k1, k2, k3, k4, k5, by omega, k7⟩)
    · exact .inr (.inr ⟨k1, k2, by omega, k4⟩)
theorem LI.more (h : LI cell first H i m s) (hm : m ≤ m') : LI cell first H i m' s :=
  ⟨h.len, h.lo, h.hi, h.hist, fun c hc => (h.cg c hc).more (Int.le_refl _) hm, h.cnt, h.tot, h.top⟩
theorem LI.begin (h : LI cell first H i i s) (hth : ∀ l ∈ th, ∀ x ∈ l, 0 ≤ x.2 ∧ x.2 ≤ 18446744073709551615) (t : Nat) : LI cell first H i (i + 1) (s.begin cell th i t) := by
  unfold RS.begin
  split
  · exact h.more (by omega)
  · generalize hx : (th.getD t []).getD (s.at_.getD t 0) (false, 0) = x
    have hb : 0 ≤ x.2 ∧ x.2 ≤ 18446744073709551615 := by
      rw [← hx]
      rw [List.getD_eq_getElem?_getD]
      cases he : (th.getD t [])[s.at_.getD t 0]? with
      | none => simp
      | some y =>
        simp only [Option.getD_some]
        have hy := List.mem_of_getElem? he
        rw [List.getD_eq_getElem?_getD] at hy
        cases hl : th[t]? with
        | none => rw [hl] at hy; simp at hy
        | some l => rw [hl] at hy; exact hth l (List.mem_of_getElem? hl) y hy
    have e1 : ({ CS.fresh cell x.1 x.2 with fr := (i : Int) } : CS).mv = false := by simp [CS.mv, CS.fresh]
    refine ⟨h.len, h.lo, h.hi, h.hist, ?_, ?_, ?_, ?_⟩
    · intro c hc
      rcases List.mem_append.1 hc with hc | hc
      · exact (h.cg c hc).more (Int.le_refl _) (by omega)
      · rw [List.mem_singleton] at hc
        subst hc
        refine ⟨rfl, rfl, rfl, hb.1, hb.2, by show (0 : Int) ≤ i; omega, by show (i : Int) < (i + 1 : Nat); omega, ?_⟩
        show if x.1 = true then _ else _
        split
        · exact ⟨rfl, .inl ⟨rfl, rfl⟩⟩
        · exact .inl ⟨rfl, rfl, rfl, rfl⟩
    · intro v
      show List.countP _ (s.all ++ [_]) = _
      rw [List.countP_append, h.cnt v]
      simp [e1]
    · show ((List.countP _ (s.all ++ [_]) : Nat) : Int) = _
      rw [List.countP_append]
      have := h.tot
      simp [e1]
      exact this
    · rcases h.top with h1 | ⟨c, hc, h2⟩
      · exact .inl h1
      · exact .inr ⟨c, List.mem_append.2 (.inl hc), h2⟩
/-- one call's state is turned, and with it the cell: what is asked -/
theorem LI.turn (h : LI cell first H i m s) (hc : s.all[j]? = some c) {c' : CS} {A' : Mem} (hl : A'.cells.length = 128) (hV : s.A.peek cell ≤ A'.peek cell) (hhi : A'.peek cell ≤ 18446744073709551615)
    (hcg : CG cell first (A'.peek cell) m H c') (hmv : c.mv = true → c'.mv = true ∧ c'.t.stamp = c.t.stamp) (hmost : c'.isNow = c.isNow ∧ c'.most = c.most)
    (hnew : (c'.mv = c.mv ∧ A'.peek cell = s.A.peek cell) ∨ (c.mv = false ∧ c'.mv = true ∧ c'.t.stamp = s.A.peek cell ∧ A'.peek cell = s.A.peek cell + 1 ∧ c.isNow = false ∧ A'.peek cell ≤ c.most)) :
    LI cell first H i m { s with all := s.all.set j c', A := A' } := by
  have hj : j < s.all.length := (List.getElem?_eq_some_iff.1 hc).1
  have hcj : s.all[j] = c := (List.getElem?_eq_some_iff.1 hc).2
  have hcm : c ∈ s.all := List.mem_of_getElem? hc
  have hlo := h.lo
  refine ⟨hl, by show first ≤ A'.peek cell; omega, hhi, fun k hk => Int.le_trans (h.hist k hk) hV, ?_, ?_, ?_, ?_⟩
  · intro d hd
    rcases List.mem_or_eq_of_mem_set hd with hd | rfl
    · exact (h.cg d hd).more hV (Nat.le_refl _)
    · exact hcg
  · intro v
    show List.countP _ (s.all.set j c') = if first ≤ v ∧ v < A'.peek cell then 1 else 0
    rw [List.countP_set hj, hcj, h.cnt v]
    have hpos : (c.mv && decide (c.t.stamp = v)) = true → 1 ≤ s.all.countP (fun c => c.mv && decide (c.t.stamp = v)) := fun e => List.countP_pos_iff.2 ⟨c, hcm, e⟩
    rw [h.cnt v] at hpos
    rcases hnew with ⟨e1, e2⟩ | ⟨e1, e2, e3, e4, _⟩
    · rw [e2]
      cases hm : c.mv with
      | false => simp [hm, e1]
      | true =>
        obtain ⟨k1, k2⟩ := hmv hm
        rw [hm] at hpos
        simp only [k1, hm, k2, Bool.true_and]
        by_cases hs : c.t.stamp = v
        · have := hpos (by simp [hs])
          simp only [hs, decide_true, if_true]
          omega
        · simp [hs]
    · rw [e4]
      simp only [e1, e2, e3, Bool.false_and, Bool.true_and, Bool.false_eq_true, if_false, Nat.sub_zero]
      by_cases hs : s.A.peek cell = v
      · subst hs
        have q1 : ¬ (first ≤ s.A.peek cell ∧ s.A.peek cell < s.A.peek cell) := by omega
        have q2 : first ≤ s.A.peek cell ∧ s.A.peek cell < s.A.peek cell + 1 := by omega
        rw [if_neg q1, if_pos q2]; simp
      · simp only [hs, decide_false, Bool.false_eq_true, if_false, Nat.add_zero]
        by_cases q : first ≤ v ∧ v < s.A.peek cell
        · rw [if_pos q, if_pos (by omega)]
        · rw [if_neg q, if_neg (by omega)]
  · show ((List.countP CS.mv (s.all.set j c') : Nat) : Int) = A'.peek cell - first
    rw [List.countP_set hj, hcj]
    have ht := h.tot
    have hpos : c.mv = true → 1 ≤ s.all.countP CS.mv := fun e => List.countP_pos_iff.2 ⟨c, hcm, e⟩
    rcases hnew with ⟨e1, e2⟩ | ⟨e1, e2, e3, e4, _⟩
    · rw [e1, e2]
      cases hm : c.mv with
      | false => simp; omega
      | true => have := hpos hm; simp; omega
    · rw [e1, e2, e4]; simp; omega
  · rcases hnew with ⟨e1, e2⟩ | ⟨e1, e2, e3, e4, e5, e6⟩
    · show A'.peek cell = first ∨ _
      rw [e2]
      rcases h.top with h1 | ⟨d, hd, h2, h3⟩
      · exact .inl h1
      · right
        obtain ⟨k, hk, rfl⟩ := List.getElem_of_mem hd
        by_cases hkj : k = j
        · subst hkj
          refine ⟨c', List.mem_set hj _, ?_, ?_⟩
          · rw [hmost.1, ← hcj]; exact h2
          · rw [hmost.2, ← hcj]; exact h3
        · refine ⟨s.all[k], ?_, h2, h3⟩
          exact List.mem_iff_getElem.2 ⟨k, by simpa using hk, by simp [List.getElem_set, Ne.symm hkj]⟩
    · exact .inr ⟨c', List.mem_set hj _, by rw [hmost.1]; exact e5, by rw [hmost.2]; exact e6⟩
theorem LI.same {s' : RS} {y : List (Option Nat)} (h : LI cell first H i m s') : LI cell first H i m { s' with now := y } := ⟨h.len, h.lo, h.hi, h.hist, h.cg, h.cnt, h.tot, h.top⟩
theorem LI.next (h : LI cell first H i m s) (hH : H i = s.A.peek cell) : LI cell first H (i + 1) m s :=
  ⟨h.len, h.lo, h.hi, fun k hk => by
    by_cases e : k = i
    · subst e; omega
    · exact h.hist k (by omega), h.cg, h.cnt, h.tot, h.top⟩
theorem LI.step (hf0 : 0 ≤ first) (h : LI cell first H i (i + 1) s) (h0 : 0 ≤ cell) (h1 : cell < 128) (hnow : ∀ t j : Nat, s.now[t]? = some (some j) → j < s.all.length) (t : Nat) (hH : H i = (s.step i t).A.peek cell) : LI cell first H (i + 1) (i + 1) (s.step i t) := by
  refine LI.next ?_ hH
  revert hH
  unfold RS.step
  cases hj : s.now.getD t none with
  | none => intro _; exact h
  | some j =>
    have hjl : j < s.all.length := by
      refine hnow t j ?_
      rw [List.getD_eq_getElem?_getD] at hj
      cases he : s.now[t]? with
      | none => rw [he] at hj; cases hj
      | some y => rw [he] at hj; exact congrArg some hj
    have hc : s.all[j]? = some s.all[j] := List.getElem?_eq_getElem hjl
    have hgd : s.all.getD j (CS.fresh 0 false 0) = s.all[j] := by rw [List.getD_eq_getElem?_getD, hc]; rfl
    simp only [hgd]
    generalize s.all[j] = c at *
    have hcg := h.cg c (List.mem_of_getElem? hc)
    obtain ⟨g1, g2, g3, g4, g5, g6, g7, g8⟩ := hcg
    have hlen := h.len
    have hlo := h.lo
    have hhi := h.hi
    have hist := h.hist
    have hbefore : ∀ k : Nat, (k : Int) < c.fr → H k ≤ s.A.peek cell := fun k hk => hist k (by omega)
    have hhas : s.A.has cell = true := by simp [Mem.has, hlen]; omega
    cases hf : c.fin
    · cases hb : c.isNow
      · rw [if_neg (by simp [hb])] at g8
        have hne : c.t.at_ ≠ 2 := by simpa [CS.fin, hb] using hf
        by_cases ha : c.t.at_ = 0
        · obtain ⟨q1, q2, q3⟩ : c.to = -1 ∧ c.t.moved = false ∧ c.t.e = 0 := by
            rcases g8 with ⟨_, q1, q2, q3⟩ | ⟨q, _⟩ | ⟨q, _⟩
            · exact ⟨q1, q2, q3⟩
            · omega
            · omega
          by_cases hlt : s.A.peek cell < c.t.most
          · have e : c.step s.A t = ({ c with t := { c.t with at_ := 1, t := s.A.peek cell } }, s.A.load t cell) := by
              unfold CS.step; rw [hf, hb, g2]; simp only [if_true, if_false, ha, hlt, Bool.false_eq_true]
            have e2 : CS.fin { c with t := { c.t with at_ := 1, t := s.A.peek cell } } = false := by simp [CS.fin, hb]
            simp only [e, e2, Bool.false_eq_true, if_false]
            intro hH
            refine h.turn hc (by simpa [Mem.load, Mem.note] using hlen) (Int.le_refl _) hhi ⟨g1, g2, g3, g4, g5, g6, g7, ?_⟩ (fun e => by simp [CS.mv, hb, q2] at e) ⟨rfl, rfl⟩ (.inl ⟨rfl, rfl⟩)
            rw [if_neg (by simp [hb])]
            exact .inr (.inl ⟨rfl, q1, q2, q3, hlo, Int.le_refl _, by rw [← g3]; exact hlt, hbefore⟩)
          · have e : c.step s.A t = ({ c with t := { c.t with at_ := 2, t := s.A.peek cell, e := 31 } }, s.A.load t cell) := by
              unfold CS.step; rw [hf, hb, g2]; simp only [if_true, if_false, ha, hlt, Bool.false_eq_true]
            have e2 : CS.fin { c with t := { c.t with at_ := 2, t := s.A.peek cell, e := 31 } } = true := by simp [CS.fin, hb]
            simp only [e, e2, if_true]
            intro hH
            refine (h.turn hc (c' := CS.ended { c with t := { c.t with at_ := 2, t := s.A.peek cell, e := 31 } } i) (A' := s.A.load t cell) (by simpa [Mem.load, Mem.note] using hlen) (Int.le_refl _) hhi ⟨g1, g2, g3, g4, g5, g6, g7, ?_⟩ (fun e => by simp [CS.mv, hb, q2] at e) ⟨rfl, rfl⟩ (.inl ⟨rfl, rfl⟩)).same
            rw [if_neg (by simp [hb, CS.ended])]
            exact .inr (.inr ⟨rfl, by show (0 : Int) ≤ i; omega, by show (i : Int) < (i + 1 : Nat); omega, .inl ⟨rfl, q2⟩⟩)
        · obtain ⟨q0, q1, q2, q3, q4, q5, q6, q7⟩ : c.t.at_ = 1 ∧ c.to = -1 ∧ c.t.moved = false ∧ c.t.e = 0 ∧ first ≤ c.t.t ∧ c.t.t ≤ s.A.peek cell ∧ c.t.t < c.most ∧ ∀ k : Nat, (k : Int) < c.fr → H k ≤ c.t.t := by
            rcases g8 with ⟨q, _⟩ | q | ⟨q, _⟩
            · exact absurd q ha
            · exact q
            · exact absurd q hne
          have hw : IntKind.u64.wrap (c.t.t + 1) = c.t.t + 1 := IntWalk.u64_in _ ⟨by omega, by omega⟩
          have e : c.step s.A t = ({ c with t := { c.t with at_ := 2, stamp := c.t.t, moved := s.A.hit cell c.t.t } }, s.A.cas t cell c.t.t (c.t.t + 1)) := by
            unfold CS.step; rw [hf, hb, g2, hw]; simp only [if_true, if_false, q0, Bool.false_eq_true]; rfl
          have e2 : CS.fin { c with t := { c.t with at_ := 2, stamp := c.t.t, moved := s.A.hit cell c.t.t } } = true := by simp [CS.fin, hb]
          simp only [e, e2, if_true]
          by_cases hit : s.A.peek cell = c.t.t
          · have hh : s.A.hit cell c.t.t = true := by simp [Mem.hit, hhas, hit]
            have hp : (s.A.cas t cell c.t.t (c.t.t + 1)).peek cell = s.A.peek cell + 1 := by
              simp only [Mem.cas, hh, if_true]
              rw [peek_note, peek_put h0 hhas, hit]
            have hl : (s.A.cas t cell c.t.t (c.t.t + 1)).cells.length = 128 := by simp [Mem.cas, hh, Mem.note, Mem.put, hlen]
            rw [hh]
            generalize s.A.cas t cell c.t.t (c.t.t + 1) = A' at *
            intro hH
            replace hH : H i = A'.peek cell := hH
            refine (h.turn hc (c' := CS.ended { c with t := { c.t with at_ := 2, stamp := c.t.t, moved := true } } i) (A' := A') hl (by omega) (by omega) ⟨g1, g2, g3, g4, g5, g6, g7, ?_⟩ (fun e => by simp [CS.mv, hb, q2] at e) ⟨rfl, rfl⟩ (.inr ⟨by simp [CS.mv, q2], by simp [CS.mv, CS.ended, hb], hit.symm, hp, hb, by omega⟩)).same
            rw [if_neg (by simp [hb, CS.ended])]
            refine .inr (.inr ⟨rfl, by show (0 : Int) ≤ i; omega, by show (i : Int) < (i + 1 : Nat); omega, .inr ⟨q3, q4, ?_, q7⟩⟩)
            show c.t.t < H (Int.toNat (i : Int))
            rw [Int.toNat_natCast, hH, hp]; omega
          · have hh : s.A.hit cell c.t.t = false := by simp [Mem.hit, hit]
            have hp : (s.A.cas t cell c.t.t (c.t.t + 1)).peek cell = s.A.peek cell := by simp only [Mem.cas, hh, Bool.false_eq_true, if_false]; rfl
            have hl : (s.A.cas t cell c.t.t (c.t.t + 1)).cells.length = 128 := by simp [Mem.cas, hh, Mem.note, hlen]
            rw [hh]
            generalize s.A.cas t cell c.t.t (c.t.t + 1) = A' at *
            intro hH
            replace hH : H i = A'.peek cell := hH
            refine (h.turn hc (c' := CS.ended { c with t := { c.t with at_ := 2, stamp := c.t.t, moved := false } } i) (A' := A') hl (by omega) (by omega) ⟨g1, g2, g3, g4, g5, g6, g7, ?_⟩ (fun e => by simp [CS.mv, hb, q2] at e) ⟨rfl, rfl⟩ (.inl ⟨by simp [CS.mv, CS.ended, q2], hp⟩)).same
            rw [if_neg (by simp [hb, CS.ended])]
            refine .inr (.inr ⟨rfl, by show (0 : Int) ≤ i; omega, by show (i : Int) < (i + 1 : Nat); omega, .inr ⟨q3, q4, ?_, q7⟩⟩)
            show c.t.t < H (Int.toNat (i : Int))
            rw [Int.toNat_natCast, hH, hp]; omega
      · rw [if_pos hb] at g8
        have hne : c.n.at_ ≠ 2 := by simpa [CS.fin, hb] using hf
        have e : c.step s.A t = ({ c with n := ⟨2, cell, s.A.peek cell⟩ }, s.A.load t cell) := by
          unfold CS.step; rw [hf, hb, g1]; simp only [if_true, if_false, Bool.false_eq_true]
        have e2 : CS.fin { c with n := ⟨2, cell, s.A.peek cell⟩ } = true := by simp [CS.fin, hb]
        simp only [e, e2, if_true]
        intro hH
        replace hH : H i = s.A.peek cell := hH
        refine (h.turn hc (c' := CS.ended { c with n := ⟨2, cell, s.A.peek cell⟩ } i) (A' := s.A.load t cell) (by simpa [Mem.load, Mem.note] using hlen) (Int.le_refl _) hhi ⟨rfl, g2, g3, g4, g5, g6, g7, ?_⟩ (fun e => by simp [CS.mv, hb] at e) ⟨rfl, rfl⟩ (.inl ⟨rfl, rfl⟩)).same
        rw [if_pos (by simpa [CS.ended] using hb)]
        refine ⟨g8.1, .inr ⟨rfl, by show (0 : Int) ≤ i; omega, by show (i : Int) < (i + 1 : Nat); omega, hbefore, ?_⟩⟩
        show s.A.peek cell ≤ H (Int.toNat (i : Int))
        rw [Int.toNat_natCast, hH]; omega
    · have e : c.step s.A t = (c, s.A) := by unfold CS.step; rw [if_pos hf]
      simp only [e, hf, if_true]
      intro hH
      replace hH : H i = s.A.peek cell := hH
      have hto : ∀ x : Int, 0 ≤ x → x < (i + 1 : Nat) → H x.toNat ≤ s.A.peek cell := by
        intro x hx0 hx1
        by_cases e : x.toNat = i
        · rw [e, hH]; omega
        · exact hist _ (by omega)
      refine (h.turn hc (c' := c.ended i) (A' := s.A) hlen (Int.le_refl _) hhi ⟨g1, g2, g3, g4, g5, g6, g7, ?_⟩ (fun e => ⟨e, rfl⟩) ⟨rfl, rfl⟩ (.inl ⟨rfl, rfl⟩)).same
      have hi0 : (0 : Int) ≤ i := by omega
      have hi1 : (i : Int) < (i + 1 : Nat) := by omega
      cases hb : c.isNow
      · rw [if_neg (by simp [hb])] at g8
        rw [if_neg (by simp [CS.ended, hb])]
        have ha : c.t.at_ = 2 := by simpa [CS.fin, hb] using hf
        rcases g8 with ⟨q, _⟩ | ⟨q, _⟩ | ⟨q1, q2, q3, q4⟩
        · omega
        · omega
        · refine .inr (.inr ⟨q1, hi0, hi1, ?_⟩)
          rcases q4 with q4 | ⟨r1, r2, r3, r4⟩
          · exact .inl q4
          · refine .inr ⟨r1, r2, ?_, r4⟩
            show c.t.stamp < H (Int.toNat (i : Int))
            have := hto c.to q2 q3
            rw [Int.toNat_natCast, hH]; omega
      · rw [if_pos hb] at g8
        rw [if_pos (by simpa [CS.ended] using hb)]
        have ha : c.n.at_ = 2 := by simpa [CS.fin, hb] using hf
        rcases g8 with ⟨q0, ⟨q, _⟩ | ⟨q1, q2, q3, q4, q5⟩⟩
        · omega
        · refine ⟨q0, .inr ⟨q1, hi0, hi1, q4, ?_⟩⟩
          show c.n.t ≤ H (Int.toNat (i : Int))
          have := hto c.to q2 q3
          rw [Int.toNat_natCast, hH]; omega
/-- which call a thread is at is one that began -/
def RS.nok (s : RS) : Prop := ∀ t j : Nat, s.now[t]? = some (some j) → j < s.all.length
theorem nok_begin (h : s.nok) (t : Nat) : (s.begin cell th i t).nok := by
  unfold RS.begin
  split
  · exact h
  · intro t' j hj
    replace hj : (s.now.set t (some s.all.length))[t']? = some (some j) := hj
    show j < (s.all ++ [_]).length
    rw [List.getElem?_set] at hj
    split at hj
    · split at hj
      · injection hj with hj; injection hj with hj; subst hj; simp
      · cases hj
    · have := h t' j hj
      simp; omega
theorem nok_step (h : s.nok) (t : Nat) : (s.step i t).nok := by
  unfold RS.step
  split
  · exact h
  · split
    · intro t' j hj
      replace hj : (s.now.set t none)[t']? = some (some j) := hj
      rw [List.getElem?_set] at hj
      split at hj
      · split at hj <;> cases hj
      · simpa using h t' j hj
    · intro t' j hj
      simpa using h t' j hj
theorem upto_nok (cell first : Int) (th : List (List (Bool × Int))) (picks : List Int) : ∀ k, (RS.upto cell first th picks k).nok
  | 0 => by
    intro t j hj
    replace hj : (List.replicate th.length (none : Option Nat))[t]? = some (some j) := hj
    rw [List.getElem?_replicate] at hj
    split at hj <;> cases hj
  | k + 1 => by
    have ih := upto_nok cell first th picks k
    simp only [RS.upto, RS.one]
    split
    · exact ih
    · exact nok_step (nok_begin ih _) _
theorem upto_li (h0 : 0 ≤ cell) (h1 : cell < 128) (hf0 : 0 ≤ first) (hf1 : first ≤ 18446744073709551615) (hth : ∀ l ∈ th, ∀ x ∈ l, 0 ≤ x.2 ∧ x.2 ≤ 18446744073709551615) (picks : List Int) :
    ∀ k, LI cell first (fun k => (RS.upto cell first th picks (k + 1)).A.peek cell) k k (RS.upto cell first th picks k)
  | 0 => by
    have hhas : (Mem.made 128).has cell = true := by simp [Mem.has, Mem.made]; omega
    have hp : (RS.upto cell first th picks 0).A.peek cell = first := by
      show ((Mem.made 128).store (-1) cell first).peek cell = first
      unfold Mem.store
      rw [peek_note, peek_put h0 hhas]
    refine ⟨by simp [RS.upto, RS.start, Mem.store, Mem.note, Mem.put, Mem.made], by omega, by omega, (by intro k hk; omega), (by intro c hc; simp [RS.upto, RS.start] at hc), ?_, ?_, .inl hp⟩
    · intro v
      rw [hp, if_neg (by omega)]
      simp [RS.upto, RS.start]
    · rw [hp]; simp [RS.upto, RS.start]
  | k + 1 => by
    have ih := upto_li h0 h1 hf0 hf1 hth picks k
    have hn := upto_nok cell first th picks k
    have hH : (fun k => (RS.upto cell first th picks (k + 1)).A.peek cell) k = (RS.upto cell first th picks (k + 1)).A.peek cell := rfl
    generalize (fun k => (RS.upto cell first th picks (k + 1)).A.peek cell) = H at *
    simp only [RS.upto, RS.one] at hH ⊢
    split
    · rename_i hid
      rw [if_pos hid] at hH
      exact (ih.next hH).more (by omega)
    · rename_i hid
      rw [if_neg hid] at hH
      exact LI.step hf0 (ih.begin hth _) h0 h1 (nok_begin hn _) _ hH
/-- a cell that is not there -/
structure LZ (cell : Int) (s : RS) : Prop where
  len : s.A.cells.length = 128
  cg : ∀ c ∈ s.all, c.t.cell = cell ∧ c.t.moved = false
theorem upto_lz {cell : Int} (h1 : ¬ cell < 128) (first : Int) (th : List (List (Bool × Int))) (picks : List Int) : ∀ k, LZ cell (RS.upto cell first th picks k)
  | 0 => ⟨by simp [RS.upto, RS.start, Mem.store, Mem.note, Mem.put, Mem.made], by simp [RS.upto, RS.start]⟩
  | k + 1 => by
    have ih := upto_lz h1 first th picks k
    simp only [RS.upto, RS.one]
    have hb : ∀ s t, LZ cell s → LZ cell (RS.begin cell th k t s) := by
      intro s t h
      unfold RS.begin
      split
      · exact h
      · refine ⟨h.len, fun c hc => ?_⟩
        rcases List.mem_append.1 hc with hc | hc
        · exact h.cg c hc
        · rw [List.mem_singleton] at hc
          subst hc; exact ⟨rfl, rfl⟩
    have hs : ∀ s t, LZ cell s → RS.nok s → LZ cell (RS.step k t s) := by
      intro s t h hn
      unfold RS.step
      cases hj : s.now.getD t none with
      | none => exact h
      | some j =>
        have hjl : j < s.all.length := by
          refine hn t j ?_
          rw [List.getD_eq_getElem?_getD] at hj
          cases he : s.now[t]? with
          | none => rw [he] at hj; cases hj
          | some y => rw [he] at hj; exact congrArg some hj
        have hc : s.all[j]? = some s.all[j] := List.getElem?_eq_getElem hjl
        have hgd : s.all.getD j (CS.fresh 0 false 0) = s.all[j] := by rw [List.getD_eq_getElem?_getD, hc]; rfl
        simp only [hgd]
        have hcg := h.cg _ (List.mem_of_getElem? hc)
        generalize s.all[j] = c at *
        have hmem := cs_step_mem c s.A t
        have hst : (c.step s.A t).1.t.cell = cell ∧ (c.step s.A t).1.t.moved = false := by
          unfold CS.step
          split
          · exact hcg
          split
          · exact hcg
          split
          · split
            · exact hcg
            · exact hcg
          · refine ⟨hcg.1, ?_⟩
            show s.A.hit c.t.cell c.t.t = false
            have : s.A.has cell = false := by simp [Mem.has, h.len]; omega
            rw [hcg.1]; simp [Mem.hit, this]
        split
        · refine ⟨hmem.1.trans h.len, fun d hd => ?_⟩
          rcases List.mem_or_eq_of_mem_set hd with hd | rfl
          · exact h.cg d hd
          · exact hst
        · refine ⟨hmem.1.trans h.len, fun d hd => ?_⟩
          rcases List.mem_or_eq_of_mem_set hd with hd | rfl
          · exact h.cg d hd
          · exact hst
    split
    · exact ih
    · exact hs _ _ (hb _ _ ih) (nok_begin (upto_nok cell first th picks k) _)
/-- the greatest last stamp, and what there was at first -/
def mostOf (first : Int) (l : List CS) : Int := l.foldl (fun m c => if c.isNow = false ∧ m < c.most then c.most else m) first
theorem mostOf_cons (c : CS) (l : List CS) (m : Int) : mostOf m (c :: l) = mostOf (if c.isNow = false ∧ m < c.most then c.most else m) l := rfl
theorem mostOf_ge : ∀ (l : List CS) (m : Int), m ≤ mostOf m l
  | [], m => Int.le_refl _
  | c :: l, m => by
    rw [mostOf_cons]
    refine Int.le_trans ?_ (mostOf_ge l _)
    by_cases h : c.isNow = false ∧ m < c.most
    · rw [if_pos h]; exact Int.le_of_lt h.2
    · rw [if_neg h]; exact Int.le_refl _
theorem mostOf_mem : ∀ (l : List CS) (m : Int) (c : CS), c ∈ l → c.isNow = false → c.most ≤ mostOf m l
  | [], m, c, hc, hb => by cases hc
  | d :: l, m, c, hc, hb => by
    rw [mostOf_cons]
    rcases List.mem_cons.1 hc with e | hc
    · refine Int.le_trans ?_ (mostOf_ge l _)
      rw [← e]
      by_cases h : c.isNow = false ∧ m < c.most
      · rw [if_pos h]; exact Int.le_refl _
      · rw [if_neg h]
        by_cases h2 : m < c.most
        · exact absurd ⟨hb, h2⟩ h
        · omega
    · exact mostOf_mem l _ c hc hb
theorem mostOf_snoc (l : List CS) (m : Int) (c : CS) : mostOf m (l ++ [c]) = if c.isNow = false ∧ mostOf m l < c.most then c.most else mostOf m l := by
  unfold mostOf; rw [List.foldl_append]; rfl
theorem take_snoc {α : Type} {l : List α} {k : Nat} {x : α} (h : l[k]? = some x) : l.take (k + 1) = l.take k ++ [x] := by
  rw [List.take_add_one, h]; rfl
/-- what CameraRises looks at -/
theorem rises_law (h0 : 0 ≤ cell) (hf0 : 0 ≤ first) (hf1 : first ≤ 18446744073709551615) (hth : ∀ l ∈ th, ∀ x ∈ l, 0 ≤ x.2 ∧ x.2 ≤ 18446744073709551615) (picks : List Int) (k : Nat) :
    (RS.upto cell first th picks k).A.peek cell = (if cell < 128 then first else 0) + ((RS.upto cell first th picks k).all.countP CS.mv : Int) ∧ (RS.upto cell first th picks k).A.peek cell ≤ mostOf (if cell < 128 then first else 0) (RS.upto cell first th picks k).all ∧ 0 ≤ (RS.upto cell first th picks k).A.peek cell ∧ (RS.upto cell first th picks k).A.peek cell ≤ 18446744073709551615 := by
  by_cases h1 : cell < 128
  · have h := upto_li h0 h1 hf0 hf1 hth picks k
    have ht := h.tot
    have hl := h.lo
    have hh := h.hi
    rw [if_pos h1]
    refine ⟨by omega, ?_, by omega, hh⟩
    rcases h.top with e | ⟨c, hc, hb, e⟩
    · rw [e]; exact mostOf_ge _ _
    · exact Int.le_trans e (mostOf_mem _ _ c hc hb)
  · have h := upto_lz h1 first th picks k
    have hp : (RS.upto cell first th picks k).A.peek cell = 0 := peek_past _ (by simp [Mem.has, h.len]; omega)
    have hc : (RS.upto cell first th picks k).all.countP CS.mv = 0 := by
      rw [List.countP_eq_zero]
      intro c hc
      simp [CS.mv, (h.cg c hc).2]
    rw [if_neg h1, hp, hc]
    exact ⟨by simp, mostOf_ge _ _, by omega, by omega⟩
theorem upto_all_le (cell first : Int) (th : List (List (Bool × Int))) (picks : List Int) (k : Nat) : (RS.upto cell first th picks k).all.length ≤ k := upto_cnt th picks k
end
end Go.Proofs.Ytfbdgodebeggbaa

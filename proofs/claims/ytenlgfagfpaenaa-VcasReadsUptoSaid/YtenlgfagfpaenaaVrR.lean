/-
  A run of calls of vcas as plain Lean: which thread takes a step; what stays sane. No condition.
-/
import Derived.Test.YtenlgfagfpaenaaVrE
namespace Go.Proofs.Ytenlgfagfpaenaa
open Go Go.RowKit
set_option linter.unusedSimpArgs false
set_option linter.unusedVariables false
structure Mem.Sane (A : Mem) : Prop where
  pos : ∀ c ∈ A.cells, 0 ≤ c
  next : A.next ≤ A.cells.length
  len : A.cells.length ≤ 4194304
/-- a thread: which call is next, or under way; how far each is -/
structure TV where
  pos : Nat
  ss : List Vs
structure Sv where
  A : Mem
  th : List TV
/-- a pick -/
def Sv.one (cam : Int) (cls : List (List Cl)) (s : Sv) (t : Int) : Sv :=
  if t < 0 then s else
  match s.th[t.toNat]?, cls[t.toNat]? with
  | some x, some l =>
    match l[x.pos]?, x.ss[x.pos]? with
    | some c, some st => ⟨(c.step cam t s.A st).1, s.th.set t.toNat ⟨if (c.step cam t s.A st).2.fin then x.pos + 1 else x.pos, x.ss.set x.pos (c.step cam t s.A st).2⟩⟩
    | _, _ => s
  | _, _ => s
def Sv.many (cam : Int) (cls : List (List Cl)) (s : Sv) (l : List Int) : Sv := l.foldl (Sv.one cam cls) s
/-- all that is asked for -/
def ClOK (c : Cl) : Prop := 0 ≤ c.kind ∧ c.kind ≤ 3 ∧ 0 ≤ c.obj ∧ 0 ≤ c.a ∧ 0 ≤ c.b
structure Sv.Ok (cls : List (List Cl)) (s : Sv) (n : Nat) : Prop where
  sane : s.A.Sane
  tr : s.A.trace.length ≤ n
  lt : s.th.length = cls.length
  row : ∀ (t : Nat) x l, s.th[t]? = some x → cls[t]? = some l → x.ss.length = l.length ∧ x.pos ≤ l.length ∧ ∀ (j : Nat) c st, l[j]? = some c → x.ss[j]? = some st → c.may st ∧ st.fin = decide (j < x.pos)
section
variable {A : Mem} {x n cam th : Int} {vs : List Int} {c : Cl} {st : Vs} {cls : List (List Cl)} {s : Sv}
theorem Mem.Sane.peek (h : A.Sane) (x : Int) : 0 ≤ A.peek x := by
  unfold Mem.peek
  rw [List.getD_eq_getElem?_getD]
  cases hc : A.cells[x.toNat]? with
  | none => exact Int.le_refl _
  | some c => exact h.pos c (List.mem_of_getElem? hc)
theorem Mem.Sane.load (h : A.Sane) (t x : Int) : (A.load t x).Sane := ⟨h.pos, h.next, h.len⟩
theorem Mem.Sane.cas (h : A.Sane) (t x o : Int) (hn : 0 ≤ n) : (A.cas t x o n).Sane := by
  have e : (A.cas t x o n).cells = (if A.hit x o then A.put x n else A).cells := rfl
  have e2 : (A.cas t x o n).next = A.next := by unfold Mem.cas; split <;> rfl
  refine ⟨?_, ?_, ?_⟩
  · rw [e]
    split
    · intro c hc
      rcases List.mem_or_eq_of_mem_set hc with hc | rfl
      · exact h.pos c hc
      · exact hn
    · exact h.pos
  · rw [e, e2]; split
    · simpa [Mem.put] using h.next
    · exact h.next
  · rw [e]; split
    · simpa [Mem.put] using h.len
    · exact h.len
theorem Mem.Sane.alloc (h : A.Sane) (t : Int) (hv : ∀ v ∈ vs, 0 ≤ v) : (A.alloc t vs).Sane := by
  have e : (A.alloc t vs).cells = (if A.fits vs then A.laid vs else A).cells := rfl
  have e2 : (A.alloc t vs).next = (if A.fits vs then A.laid vs else A).next := rfl
  by_cases hf : A.fits vs = true
  · rw [if_pos hf] at e e2
    have hf2 := hf
    simp [Mem.fits] at hf2
    have hl : (splice A.cells A.next vs).length = A.cells.length := length_splice _ _ _ hf2.2
    refine ⟨?_, ?_, ?_⟩
    · rw [e]
      intro c hc
      simp only [Mem.laid, splice, List.mem_append] at hc
      rcases hc with hc | hc | hc
      · exact h.pos c (List.mem_of_mem_take hc)
      · exact hv c hc
      · exact h.pos c (List.mem_of_mem_drop hc)
    · rw [e, e2]
      show A.next + vs.length ≤ (splice A.cells A.next vs).length
      rw [hl]; exact hf2.2
    · rw [e]
      show (splice A.cells A.next vs).length ≤ _
      rw [hl]; exact h.len
  · rw [if_neg hf] at e e2
    exact ⟨by rw [e]; exact h.pos, by rw [e, e2]; exact h.next, by rw [e]; exact h.len⟩
theorem Mem.Sane.fit (h : A.Sane) (ht : A.trace.length ≤ 1000000000) : A.Fit := ⟨h.len, ht, h.next⟩
theorem tr_load (t x : Int) : (A.load t x).trace.length = A.trace.length + 1 := by simp [Mem.load, Mem.note]
theorem tr_cas (t x o n : Int) : (A.cas t x o n).trace.length = A.trace.length + 1 := by
  unfold Mem.cas; split <;> simp [Mem.note, Mem.put]
theorem tr_alloc (t : Int) : (A.alloc t vs).trace.length = A.trace.length + 1 := by
  unfold Mem.alloc; split <;> simp [Mem.note, Mem.laid]
theorem spot_pos (A : Mem) (vs : List Int) : 0 ≤ A.spot vs := by unfold Mem.spot; split <;> omega
theorem ist_facts (h : A.Sane) (a : Nat) (y ver : Int) (hy : 0 ≤ y) : (ist cam th A ver a y).1.Sane ∧ (ist cam th A ver a y).1.trace.length = A.trace.length + 1 ∧ 0 ≤ (ist cam th A ver a y).2.2 ∧ ((ist cam th A ver a y).2.1 ≠ 3 → (ist cam th A ver a y).2.1 ≤ 2) := by
  match a with
  | 0 => exact ⟨h.load _ _, tr_load _ _, hy, fun hz => by
      simp only [ist] at hz ⊢
      split
      · decide
      · rename_i h2; rw [if_neg h2] at hz; exact absurd rfl hz⟩
  | 1 => exact ⟨h.load _ _, tr_load _ _, h.peek _, fun _ => Nat.le_refl 2⟩
  | a + 2 => exact ⟨h.cas _ _ _ hy, tr_cas _ _ _ _, hy, fun hz => absurd rfl hz⟩
theorem cmp_may (hk : c.kind = 1) (h v : Int) (h0 : 0 ≤ h) : c.may (cmpv c h v) := by
  unfold cmpv
  split
  · trivial
  · split
    · trivial
    · exact ⟨hk, h0⟩
theorem step_facts (hc : ClOK c) (h : A.Sane) (hm : c.may st) (hf : st.fin = false) : (c.step cam th A st).1.Sane ∧ (c.step cam th A st).1.trace.length = A.trace.length + 1 ∧ c.may (c.step cam th A st).2 := by
  cases st with
  | new =>
    unfold Cl.step
    by_cases hk : c.kind = 3
    · simp only [hk, if_true]
      refine ⟨h.load _ _, tr_load _ _, ?_⟩
      split
      · exact hk
      · trivial
    · simp only [hk, if_false]
      refine ⟨h.load _ _, tr_load _ _, ?_⟩
      split
      · rename_i hy; exact ⟨hk, hy, h.peek _, by decide, Int.le_refl _⟩
      · split
        · rename_i h1; exact cmp_may h1 _ _ (Int.le_refl _)
        · trivial
  | find x a y =>
    obtain ⟨m1, m2, m3, m4, m5⟩ := hm
    obtain ⟨f1, f2, f3, f4⟩ := ist_facts (cam := cam) (th := th) h a y x m5
    refine ⟨f1, f2, ?_⟩
    show c.may (if (ist cam th A x a y).2.1 = 3 then (if c.kind = 2 then .alook x else .load x) else .find x (ist cam th A x a y).2.1 (ist cam th A x a y).2.2)
    split
    · split
      · rename_i h2; exact ⟨h2, m2, m3⟩
      · exact ⟨m1, m2, m3⟩
    · rename_i h2; exact ⟨m1, m2, m3, f4 h2, f3⟩
  | load x =>
    refine ⟨h.load _ _, tr_load _ _, ?_⟩
    show c.may (if c.kind = 1 then cmpv c x (A.peek x) else .done (A.peek x) false)
    split
    · rename_i h1; exact cmp_may h1 _ _ hm.2.2
    · trivial
  | make x =>
    refine ⟨h.alloc _ (by intro v hv; simp at hv; rcases hv with rfl | rfl | rfl; exact hc.2.2.2.2; decide; exact hm.2), tr_alloc _, ?_⟩
    show c.may (if A.spot [c.b, 0, x] = 0 then .done 0 false else .swap x (A.spot [c.b, 0, x]))
    split
    · trivial
    · rename_i h1; exact ⟨hm.1, hm.2, h1, spot_pos _ _⟩
  | swap x n =>
    refine ⟨h.cas _ _ _ hm.2.2.2, tr_cas _ _ _ _, ?_⟩
    show c.may (if A.hit c.obj x then .settle x n true n 0 0 else .look x n)
    split
    · exact ⟨hm.1, hm.2.2.2, by decide, Int.le_refl _⟩
    · exact ⟨hm.1, hm.2.2.1, hm.2.2.2⟩
  | look x n => exact ⟨h.load _ _, tr_load _ _, hm.1, h.peek _, by decide, Int.le_refl _⟩
  | settle x n sw ver a y =>
    obtain ⟨m1, m2, m3, m4⟩ := hm
    obtain ⟨f1, f2, f3, f4⟩ := ist_facts (cam := cam) (th := th) h a y ver m4
    refine ⟨f1, f2, ?_⟩
    show c.may (if (ist cam th A ver a y).2.1 = 3 then .done 0 sw else .settle x n sw ver (ist cam th A ver a y).2.1 (ist cam th A ver a y).2.2)
    split
    · trivial
    · rename_i h2; exact ⟨m1, m2, f4 h2, f3⟩
  | alook x =>
    refine ⟨h.load _ _, tr_load _ _, ?_⟩
    show c.may (if c.a < A.peek (wr64 (x + 1)) then .awalk x else .load x)
    split
    · exact hm
    · exact ⟨by rw [hm.1]; decide, hm.2⟩
  | awalk x =>
    refine ⟨h.load _ _, tr_load _ _, ?_⟩
    show c.may (if A.peek (wr64 (x + 2)) = 0 then .done 0 false else .alook (A.peek (wr64 (x + 2))))
    split
    · trivial
    · rename_i h1; exact ⟨hm.1, h1, h.peek _⟩
  | loaded t => exact ⟨h.cas _ _ _ (wr64_pos _), tr_cas _ _ _ _, trivial⟩
  | done v sw => cases hf
/-- what a pick does: nothing, or a step -/
theorem one_cases (cam : Int) (cls : List (List Cl)) (s : Sv) (t : Int) : s.one cam cls t = s ∨ ∃ (k : Nat) (x : TV) (l : List Cl) (c : Cl) (st : Vs), t = (k : Int) ∧ s.th[k]? = some x ∧ cls[k]? = some l ∧ l[x.pos]? = some c ∧ x.ss[x.pos]? = some st ∧
    s.one cam cls t = ⟨(c.step cam k s.A st).1, s.th.set k ⟨if (c.step cam k s.A st).2.fin then x.pos + 1 else x.pos, x.ss.set x.pos (c.step cam k s.A st).2⟩⟩ := by
  unfold Sv.one
  split
  · exact .inl rfl
  · rename_i h0
    obtain ⟨k, rfl⟩ : ∃ k : Nat, t = k := ⟨t.toNat, by omega⟩
    rw [Int.toNat_natCast]
    split
    · rename_i x l h1 h2
      split
      · rename_i c st h3 h4
        exact .inr ⟨k, x, l, c, st, rfl, h1, h2, h3, h4, rfl⟩
      · exact .inl rfl
    · exact .inl rfl
theorem Sv.Ok.one {m : Nat} (h : s.Ok cls m) (hc : ∀ l ∈ cls, ∀ c ∈ l, ClOK c) (t : Int) : (s.one cam cls t).Ok cls (m + 1) := by
  rcases one_cases cam cls s t with e | ⟨k, x, l, c, st, rfl, h1, h2, h3, h4, e⟩
  · rw [e]; exact ⟨h.sane, Nat.le_succ_of_le h.tr, h.lt, h.row⟩
  · rw [e]
    obtain ⟨r1, r2, r3⟩ := h.row k x l h1 h2
    obtain ⟨m1, m2⟩ := r3 _ c st h3 h4
    have hf : st.fin = false := by rw [m2]; simp
    have hlt : x.pos < l.length := (List.getElem?_eq_some_iff.1 h3).1
    obtain ⟨f1, f2, f3⟩ := step_facts (cam := cam) (th := (k : Int)) (hc l (List.mem_of_getElem? h2) c (List.mem_of_getElem? h3)) h.sane m1 hf
    refine ⟨f1, by rw [f2]; have := h.tr; omega, by simpa using h.lt, fun t2 x2 l2 q1 q2 => ?_⟩
    rw [List.getElem?_set] at q1
    by_cases hk : k = t2
    · subst hk
      rw [h2] at q2
      injection q2 with q2
      subst q2
      have hkl := (List.getElem?_eq_some_iff.1 h1).1
      rw [if_pos rfl, if_pos hkl] at q1
      injection q1 with q1
      subst q1
      refine ⟨by simpa using r1, by show (if (c.step cam k s.A st).2.fin = true then x.pos + 1 else x.pos) ≤ l.length; split <;> omega, fun j c2 st2 p1 p2 => ?_⟩
      have p2 : (x.ss.set x.pos (c.step cam k s.A st).2)[j]? = some st2 := p2
      rw [List.getElem?_set] at p2
      by_cases hj : x.pos = j
      · subst hj
        rw [h3] at p1
        injection p1 with p1
        subst p1
        rw [if_pos rfl, if_pos (by omega)] at p2
        injection p2 with p2
        subst p2
        refine ⟨f3, ?_⟩
        show _ = decide (x.pos < if (c.step cam k s.A st).2.fin then x.pos + 1 else x.pos)
        cases hfin : (c.step cam k s.A st).2.fin <;> simp
      · rw [if_neg hj] at p2
        obtain ⟨n1, n2⟩ := r3 j c2 st2 p1 p2
        refine ⟨n1, ?_⟩
        rw [n2]
        show _ = decide (j < if (c.step cam k s.A st).2.fin then x.pos + 1 else x.pos)
        split
        · congr 1; apply propext; omega
        · rfl
    · rw [if_neg hk] at q1
      exact h.row t2 x2 l2 q1 q2
end
end Go.Proofs.Ytenlgfagfpaenaa

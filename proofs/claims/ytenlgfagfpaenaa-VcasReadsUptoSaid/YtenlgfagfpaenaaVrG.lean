/-
  A run of calls of vcas keeps what is known of all of them. No condition.
-/
import Derived.Test.YtenlgfagfpaenaaVrL
namespace Go.Proofs.Ytenlgfagfpaenaa
open Go Go.RowKit
set_option linter.unusedSimpArgs false
set_option linter.unusedVariables false
section
variable {A A' : Mem} {L L' : Int → List Int} {c : Cl} {st : Vs} {cam th x v : Int} {cls : List (List Cl)} {s : Sv}
theorem head_mem {l : List Int} (h : l.headD 0 ≠ 0) : l.headD 0 ∈ l := by
  cases l with
  | nil => exact absurd rfl h
  | cons x r => exact List.mem_cons_self
theorem cmp_pst (h0 : Int) (v : Int) (h : h0 = 0 ∨ h0 ∈ L c.obj) : Pst A L c (cmpv c h0 v) := by
  unfold cmpv
  split
  · exact fun _ => .inl rfl
  · split
    · exact fun _ => .inl rfl
    · exact h
theorem cmp_ns (h0 v : Int) : ∀ h n, cmpv c h0 v ≠ .swap h n := by
  intro h n
  unfold cmpv
  split
  · intro e; cases e
  · split <;> (intro e; cases e)
theorem ist_next (a : Nat) (y : Int) (ver : Int) : True := trivial
/-- what a step of one call leaves -/
def Stp (A : Mem) (L : Int → List Int) (c : Cl) (st : Vs) (A' : Mem) (st' : Vs) : Prop :=
  ∃ L', Inv A' L' ∧ Le A A' L L' ∧ Pst A' L' c st' ∧ (∀ n', (∀ o, n' ∉ L o) → (∀ h, st ≠ .swap h n') → ∀ o, n' ∉ L' o) ∧ ∀ h n, st' = .swap h n → ¬ Al A n
theorem Stp.same {st' : Vs} (h : Inv A' L ∧ Le A A' L L) (hp : Pst A' L c st') (hn : ∀ h n, st' ≠ .swap h n) : Stp A L c st A' st' :=
  ⟨L, h.1, h.2, hp, fun _ h _ => h, fun h n e => absurd e (hn h n)⟩
theorem step_inv (h : Inv A L) (hc : ClOK c) (ho : Ob c.obj) (hp : Pst A L c st) (hm : c.may st) (hf : st.fin = false) : Stp A L c st (c.step 1 th A st).1 (c.step 1 th A st).2 := by
  cases st with
  | new =>
    unfold Cl.step
    by_cases hk : c.kind = 3
    · simp only [hk, if_true]
      refine Stp.same (h.load _) ?_ ?_
      · split
        · trivial
        · exact fun e => absurd (hk.symm.trans e) (by decide)
      · intro h n
        split <;> (intro e; cases e)
    · simp only [hk, if_false]
      have hh := h.hd c.obj ho
      refine Stp.same (h.load _) ?_ ?_
      · split
        · rename_i hy
          show A.peek c.obj ∈ L c.obj
          rw [hh] at hy ⊢
          exact head_mem hy
        · split
          · exact cmp_pst 0 0 (.inl rfl)
          · exact fun _ => .inl rfl
      · intro h n
        split
        · intro e; cases e
        · split
          · exact cmp_ns 0 0 h n
          · intro e; cases e
  | find x a y =>
    have hx : x ∈ L c.obj := hp
    have hi := ist_inv (th := th) h (h.al _ ho x hx) a (hm.2.2.2.2)
    show Stp A L c _ (ist 1 th A x a y).1 (if (ist 1 th A x a y).2.1 = 3 then (if c.kind = 2 then .alook x else .load x) else .find x (ist 1 th A x a y).2.1 (ist 1 th A x a y).2.2)
    refine Stp.same hi ?_ ?_
    · split
      · split <;> exact hx
      · exact hx
    · intro h n
      split
      · split <;> (intro e; cases e)
      · intro e; cases e
  | load x =>
    have hx : x ∈ L c.obj := hp
    show Stp A L c _ (A.load th x) (if c.kind = 1 then cmpv c x (A.peek x) else .done (A.peek x) false)
    refine Stp.same (h.load _) ?_ ?_
    · split
      · exact cmp_pst x _ (.inr hx)
      · exact fun _ => .inr ⟨x, hx, h.al _ ho x hx, rfl⟩
    · intro h n
      split
      · exact cmp_ns x _ h n
      · intro e; cases e
  | make x =>
    have hx : x = 0 ∨ x ∈ L c.obj := hp
    obtain ⟨i1, i2, i3⟩ := h.made (th := th) hc.2.2.2.2 hm.2
    show Stp A L c _ (A.alloc th [c.b, 0, x]) (if A.spot [c.b, 0, x] = 0 then .done 0 false else .swap x (A.spot [c.b, 0, x]))
    have hlx : x < A.next := by
      have := h.nx.1
      rcases hx with rfl | hx
      · omega
      · have := (h.al _ ho x hx).2.1; omega
    by_cases hz : A.spot [c.b, 0, x] = 0
    · rw [if_pos hz]
      exact Stp.same ⟨i1, i2⟩ (fun _ => .inl rfl) (fun _ _ e => by cases e)
    · rw [if_neg hz]
      obtain ⟨j1, j2, j3, j4⟩ := i3 hz
      have nl : ∀ m, Al A m → m ≠ A.spot [c.b, 0, x] := fun m hm e => by have := hm.2.1; omega
      refine ⟨L, i1, i2, ⟨hx, j1, j3, by rw [j2]; exact hlx, fun o hm => ?_⟩, fun _ h _ => h, fun h' n e => ?_⟩
      · by_cases hob : Ob o
        · exact nl _ (h.al o hob _ hm) rfl
        · exact h.no o hob _ hm
      · injection e with _ e
        subst e
        intro ha
        exact nl _ ha rfl
  | swap x n =>
    obtain ⟨p1, p2, p3, p4, p5⟩ := hp
    show Stp A L c _ (A.cas th c.obj x n) (if A.hit c.obj x then .settle x n true n 0 0 else .look x n)
    cases hh : A.hit c.obj x
    · have e : (A.cas th c.obj x n).cells = A.cells := by
        have e : (A.cas th c.obj x n).cells = (if A.hit c.obj x then A.put c.obj n else A).cells := rfl
        rw [hh] at e; exact e
      have e2 : (A.cas th c.obj x n).next = A.next := by unfold Mem.cas; split <;> rfl
      refine Stp.same (h.same (h.sane.cas th c.obj x hm.2.2.2) e e2) ?_ (fun _ _ e => by cases e)
      show L c.obj ≠ []
      intro hL
      have hpk := h.hd c.obj ho
      rw [hL] at hpk p1
      have hx0 : x = 0 := p1.elim id (fun h => by cases h)
      have : A.hit c.obj x = true := by
        unfold Mem.hit Mem.has
        rw [hx0]
        have : c.obj < A.cells.length := by rw [h.len]; rcases ho with e | e | e <;> omega
        simp [this]
        exact hpk
      rw [hh] at this
      cases this
    · obtain ⟨i1, i2⟩ := h.swapped (th := th) ho hh p2 p3 p4 p5
      refine ⟨_, i1, i2, ?_, fun n' hn hne o => ?_, fun h n e => by cases e⟩
      · show n ∈ (if c.obj = c.obj then n :: L c.obj else L c.obj)
        rw [if_pos rfl]; exact List.mem_cons_self
      · show n' ∉ (if o = c.obj then n :: L c.obj else L o)
        split
        · intro hm2
          rcases List.mem_cons.1 hm2 with rfl | hm2
          · exact hne x rfl
          · exact hn _ hm2
        · exact hn o
  | look x n =>
    have hL : L c.obj ≠ [] := hp
    refine Stp.same (h.load _) ?_ (fun _ _ e => by cases e)
    show A.peek c.obj ∈ L c.obj
    rw [h.hd _ ho]
    cases hl : L c.obj with
    | nil => exact absurd hl hL
    | cons m r => exact List.mem_cons_self
  | settle x n sw ver a y =>
    have hx : ver ∈ L c.obj := hp
    have hi := ist_inv (th := th) h (h.al _ ho ver hx) a (hm.2.2.2)
    show Stp A L c _ (ist 1 th A ver a y).1 (if (ist 1 th A ver a y).2.1 = 3 then .done 0 sw else .settle x n sw ver (ist 1 th A ver a y).2.1 (ist 1 th A ver a y).2.2)
    refine Stp.same hi ?_ ?_
    · split
      · exact fun _ => .inl rfl
      · exact hx
    · intro h n
      split <;> (intro e; cases e)
  | alook x =>
    have hx : x ∈ L c.obj := hp
    show Stp A L c _ (A.load th (wr64 (x + 1))) (if c.a < A.peek (wr64 (x + 1)) then .awalk x else .load x)
    refine Stp.same (h.load _) ?_ ?_
    · split <;> exact hx
    · intro h n
      split <;> (intro e; cases e)
  | awalk x =>
    have hx : x ∈ L c.obj := hp
    have ha := h.al _ ho x hx
    obtain ⟨l1, l2⟩ := ha.lt h
    have e : wr64 (x + 2) = x + 2 := by show IntKind.u64.wrap _ = _; rw [IntKind.wrap_u64]; omega
    obtain ⟨i, hi⟩ := List.getElem?_of_mem hx
    have hch := h.ch _ ho i x hi
    show Stp A L c _ (A.load th (wr64 (x + 2))) (if A.peek (wr64 (x + 2)) = 0 then .done 0 false else .alook (A.peek (wr64 (x + 2))))
    refine Stp.same (h.load _) ?_ ?_
    · split
      · exact fun _ => .inl rfl
      · rename_i hz
        show A.peek (wr64 (x + 2)) ∈ L c.obj
        rw [e, hch] at hz ⊢
        cases hg : (L c.obj)[i + 1]? with
        | none => rw [hg] at hz; exact absurd rfl hz
        | some m => exact List.mem_of_getElem? hg
    · intro h n
      split <;> (intro e; cases e)
  | loaded t =>
    show Stp A L c _ (A.cas th 1 t (wr64 (t + 1))) (.done t (A.hit 1 t))
    refine Stp.same (h.cas t _ (wr64_pos _) (by decide) (by decide) (fun o ho => by rcases ho with rfl | rfl | rfl <;> decide) (fun n hn => by have := hn.1; omega)) ?_ (fun _ _ e => by cases e)
    exact fun e => absurd (hm.symm.trans e) (by decide)
  | done v sw => cases hf
/-- all that is known of a run -/
structure Gv (cls : List (List Cl)) (s : Sv) (L : Int → List Int) : Prop where
  inv : Inv s.A L
  st : ∀ t j c st, at2 cls t j = some c → at2 (s.th.map (·.ss)) t j = some st → Pst s.A L c st
  un : ∀ t j t' j' h n h', at2 (s.th.map (·.ss)) t j = some (.swap h n) → at2 (s.th.map (·.ss)) t' j' = some (.swap h' n) → t = t' ∧ j = j'
theorem Gv.one {m : Nat} (h : Gv cls s L) (ok : s.Ok cls m) (hc : ∀ l ∈ cls, ∀ c ∈ l, ClOK c ∧ Ob c.obj) (t : Int) : ∃ L', Gv cls (s.one 1 cls t) L' := by
  rcases one_cases 1 cls s t with e | ⟨k, x, l, c, st, rfl, h1, h2, h3, h4, e⟩
  · rw [e]; exact ⟨L, h⟩
  · rw [e]
    obtain ⟨r1, r2, r3⟩ := ok.row k x l h1 h2
    obtain ⟨m1, m2⟩ := r3 _ c st h3 h4
    have hf : st.fin = false := by rw [m2]; simp
    obtain ⟨hc1, hc2⟩ := hc l (List.mem_of_getElem? h2) c (List.mem_of_getElem? h3)
    have ha : at2 cls k x.pos = some c := by unfold at2; rw [h2]; exact h3
    have hs : at2 (s.th.map (·.ss)) k x.pos = some st := by unfold at2; rw [List.getElem?_map, h1]; exact h4
    obtain ⟨L', i1, i2, i3, i4, i5⟩ := step_inv (th := (k : Int)) h.inv hc1 hc2 (h.st _ _ _ _ ha hs) m1 hf
    have hset : (s.th.set k ⟨if (c.step 1 k s.A st).2.fin then x.pos + 1 else x.pos, x.ss.set x.pos (c.step 1 k s.A st).2⟩).map (·.ss) = set2 (s.th.map (·.ss)) k x.pos (c.step 1 k s.A st).2 := by
      apply List.ext_getElem?
      intro i
      unfold set2
      rw [List.getElem?_map, List.getElem?_modify, List.getElem?_map, List.getElem?_set]
      by_cases hi : k = i
      · subst hi
        have hl := (List.getElem?_eq_some_iff.1 h1).1
        rw [if_pos rfl, if_pos hl, h1]
        simp
      · rw [if_neg hi]
        cases s.th[i]? <;> simp [hi]
    refine ⟨L', i1, fun t2 j2 c2 st2 q1 q2 => ?_, fun t2 j2 t3 j3 h' n h'' q1 q2 => ?_⟩
    · rw [hset] at q2
      rcases at2_set q2 with ⟨rfl, rfl, rfl⟩ | ⟨hne, r2⟩
      · rw [ha] at q1
        injection q1 with q1
        subst q1
        exact i3
      · have hp := h.st t2 j2 c2 st2 q1 r2
        refine hp.le i2 fun h' n hst o => ?_
        subst hst
        refine i4 n hp.2.2.2.2 (fun h'' hst => ?_) o
        subst hst
        obtain ⟨e1, e2⟩ := h.un t2 j2 k x.pos _ n _ r2 hs
        exact hne ⟨e1, e2⟩
    · rw [hset] at q1 q2
      have old : ∀ t j h n, at2 (s.th.map (·.ss)) t j = some (.swap h n) → Al s.A n := by
        intro t j h' n hq
        have hx : ∃ c, at2 cls t j = some c := by
          unfold at2 at hq ⊢
          rw [List.getElem?_map] at hq
          cases ht : s.th[t]? with
          | none => rw [ht] at hq; cases hq
          | some y =>
            rw [ht] at hq
            have hq : y.ss[j]? = some (.swap h' n) := hq
            have htl := (List.getElem?_eq_some_iff.1 ht).1
            have hl2 : cls[t]? = some (cls[t]'(by rw [← ok.lt]; exact htl)) := List.getElem?_eq_getElem _
            rw [hl2]
            have := (ok.row t y _ ht hl2).1
            have hj := (List.getElem?_eq_some_iff.1 hq).1
            exact ⟨_, List.getElem?_eq_getElem (by omega)⟩
        obtain ⟨c', hc'⟩ := hx
        exact (h.st t j c' _ hc' hq).2.1
      rcases at2_set q1 with ⟨a1, a2, e1⟩ | ⟨hne1, s1⟩
      · rcases at2_set q2 with ⟨b1, b2, e2⟩ | ⟨hne2, s2⟩
        · exact ⟨a1.trans b1.symm, a2.trans b2.symm⟩
        · exact absurd (old _ _ _ _ s2) (i5 _ _ e1.symm)
      · rcases at2_set q2 with ⟨b1, b2, e2⟩ | ⟨hne2, s2⟩
        · exact absurd (old _ _ _ _ s1) (i5 _ _ e2.symm)
        · exact h.un _ _ _ _ _ _ _ s1 s2
end
end Go.Proofs.Ytenlgfagfpaenaa

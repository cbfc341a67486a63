/-
  Threads that use cells of their own end the same by any picks: the plain law. No condition.
-/
import Derived.Test.YtkaplifhaafpdaaMStTwo
namespace Go.Proofs.Ytkaplifhaafpdaa
open Go Go.RowKit
set_option linter.unusedSimpArgs false
set_option linter.unusedVariables false
def inB (i : Nat) (x : Int) : Prop := 60 + 10 * (i : Int) ≤ x ∧ x < 70 + 10 * (i : Int)
/-- threads with cells of their own -/
def Apart (ll : List (List Plan)) : Prop := ∀ (i : Nat) l, ll[i]? = some l → ∀ p ∈ l, ∀ d ∈ p.l, d.kind ≠ 5 ∧ inB i d.addr
/-- the same to thread i -/
structure Sim (i : Nat) (a b : St) : Prop where
  th : a.th[i]? = b.th[i]?
  len : a.A.cells.length = b.A.cells.length
  pk : ∀ x, inB i x → a.A.peek x = b.A.peek x
def solo (ll : List (List Plan)) (i : Nat) (s : St) : Nat → St
  | 0 => s
  | k + 1 => (solo ll i s k).one ll (i : Int)
def Reach (ll : List (List Plan)) (s0 s : St) : Prop := s.A.cells.length = s0.A.cells.length ∧ (∀ x, 0 ≤ x → (∀ i : Nat, i < ll.length → ¬ inB i x) → s.A.peek x = s0.A.peek x) ∧ ∀ i : Nat, ∃ k, Sim i s (solo ll i s0 k)
section
variable {ll : List (List Plan)} {s s0 s' a b : St} {i j t k : Nat} {x : TS} {p : Plan} {l : List Plan} {d : Do} {A B : Mem}
theorem peek_putx (A : Mem) (y v x : Int) : (A.put y v).peek x = if y.toNat = x.toNat then (if y.toNat < A.cells.length then v else 0) else A.peek x := by
  unfold Mem.peek Mem.put
  rw [List.getD_eq_getElem?_getD, List.getElem?_set, List.getD_eq_getElem?_getD]
  by_cases h : y.toNat = x.toNat
  · rw [if_pos h, if_pos h]
    split <;> rfl
  · rw [if_neg h, if_neg h]
theorem peek_notex (A : Mem) (a : Acc) (x : Int) : (A.note a).peek x = A.peek x := rfl
theorem make_other {x0 : Int} (h0 : 0 ≤ x0) (hd0 : 0 ≤ d.addr) (hk : d.kind ≠ 5) (hx : x0 ≠ d.addr) (t : Int) : (A.make t d).peek x0 = A.peek x0 := by
  have hn : ¬ d.addr.toNat = x0.toNat := by omega
  unfold Mem.make
  split
  · rfl
  split
  · unfold Mem.store; rw [peek_notex, peek_putx, if_neg hn]
  split
  · unfold Mem.cas
    rw [peek_notex]
    split
    · rw [peek_putx, if_neg hn]
    · rfl
  split
  · unfold Mem.add; rw [peek_notex, peek_putx, if_neg hn]
  rfl
theorem hit_same (hl : A.cells.length = B.cells.length) (hp : A.peek d.addr = B.peek d.addr) : A.hit d.addr d.a = B.hit d.addr d.a := by
  unfold Mem.hit Mem.has
  rw [hl, hp]
theorem make_same (hl : A.cells.length = B.cells.length) (hk : d.kind ≠ 5) (hp : A.peek d.addr = B.peek d.addr) (x0 : Int) (hx : A.peek x0 = B.peek x0) (t u : Int) : (A.make t d).peek x0 = (B.make u d).peek x0 := by
  have hh := hit_same hl hp
  unfold Mem.make
  split
  · exact hx
  split
  · unfold Mem.store; rw [peek_notex, peek_notex, peek_putx, peek_putx, hl, hx]
  split
  · unfold Mem.cas
    rw [peek_notex, peek_notex, hh]
    split
    · rw [peek_putx, peek_putx, hl, hx]
    · exact hx
  split
  · unfold Mem.add; rw [peek_notex, peek_notex, peek_putx, peek_putx, hl, hx, hp]
  exact hx
theorem tell_same (hl : A.cells.length = B.cells.length) (hk : d.kind ≠ 5) (hp : A.peek d.addr = B.peek d.addr) : A.tell d = B.tell d := by
  have hh := hit_same hl hp
  unfold Mem.tell
  rw [hp, hh, if_neg hk, if_neg hk]
theorem act_in (h : p.act k = some d) : d ∈ p.l := by
  unfold Plan.act at h
  split at h
  · cases h
  · exact List.mem_of_getElem? h
theorem Sim.refl (i : Nat) (a : St) : Sim i a a := ⟨rfl, rfl, fun _ _ => rfl⟩
theorem Sim.symm (h : Sim i a b) : Sim i b a := ⟨h.th.symm, h.len.symm, fun x hx => (h.pk x hx).symm⟩
theorem Sim.trans {c : St} (h : Sim i a b) (h' : Sim i b c) : Sim i a c := ⟨h.th.trans h'.th, h.len.trans h'.len, fun x hx => (h.pk x hx).trans (h'.pk x hx)⟩
theorem Sim.at (h : Sim i a b) : a.at? ll i = b.at? ll i := by
  unfold St.at?
  rw [h.th]
theorem one_nat (s : St) (i : Nat) : s.one ll (i : Int) = match s.at? ll i with | some (x, p) => s.go i x p | none => { s with steps := s.steps + 1 } := by
  unfold St.one
  rw [if_pos (by omega)]
  rfl
theorem at_plan (h : s.at? ll i = some (x, p)) : ∃ l, ll[i]? = some l ∧ p ∈ l := by
  obtain ⟨_, l, hl, hp⟩ := at_some h
  exact ⟨l, hl, List.mem_of_getElem? hp⟩
theorem Sim.one (hA : Apart ll) (h : Sim i a b) : Sim i (a.one ll (i : Int)) (b.one ll (i : Int)) := by
  rw [one_nat, one_nat, h.at]
  cases hat : b.at? ll i with
  | none => exact ⟨h.th, h.len, h.pk⟩
  | some y =>
    obtain ⟨x, p⟩ := y
    obtain ⟨l, hl, hp⟩ := at_plan hat
    have hxa : a.th[i]? = some x := by rw [h.th]; exact (at_some hat).1
    have hxb : b.th[i]? = some x := (at_some hat).1
    have hla := (List.getElem?_eq_some_iff.1 hxa).1
    have hlb := (List.getElem?_eq_some_iff.1 hxb).1
    have hsay : a.says (p.act x.at_) = b.says (p.act x.at_) := by
      unfold St.says
      cases ha : p.act x.at_ with
      | none => rfl
      | some d =>
        obtain ⟨h1, h2⟩ := hA i l hl p hp d (act_in ha)
        simp only
        rw [tell_same h.len h1 (h.pk _ h2)]
    refine ⟨?_, ?_, fun x0 hx0 => ?_⟩
    · show (a.th.set i _)[i]? = (b.th.set i _)[i]?
      rw [List.getElem?_set_self hla, List.getElem?_set_self hlb, hsay]
    · show (a.mem i (p.act x.at_)).cells.length = (b.mem i (p.act x.at_)).cells.length
      unfold St.mem
      cases p.act x.at_ with
      | none => exact h.len
      | some d => simp only; rw [make_cells, make_cells]; exact h.len
    · show (a.mem i (p.act x.at_)).peek x0 = (b.mem i (p.act x.at_)).peek x0
      unfold St.mem
      cases ha : p.act x.at_ with
      | none => exact h.pk x0 hx0
      | some d =>
        obtain ⟨h1, h2⟩ := hA i l hl p hp d (act_in ha)
        exact make_same h.len h1 (h.pk _ h2) x0 (h.pk x0 hx0) _ _
theorem one_cells (s : St) (t : Int) : (s.one ll t).A.cells.length = s.A.cells.length := by
  cases h : s.idle ll t
  · obtain ⟨k, x, p, rfl, h1, h2⟩ := idle_false h
    rw [h2]
    show (s.mem k (p.act x.at_)).cells.length = _
    unfold St.mem
    cases p.act x.at_ with
    | none => rfl
    | some d => exact make_cells _ _ _
  · rw [idle_true h]
theorem inB_one {y : Int} (h : inB i y) (h' : inB j y) : i = j := by unfold inB at h h'; omega
theorem one_peek (hA : Apart ll) (s : St) (t : Int) (x0 : Int) (h0 : 0 ≤ x0) (hx : ∀ j : Nat, t = j → j < ll.length → ¬ inB j x0) : (s.one ll t).A.peek x0 = s.A.peek x0 := by
  cases h : s.idle ll t
  · obtain ⟨k, x, p, rfl, h1, h2⟩ := idle_false h
    rw [h2]
    show (s.mem k (p.act x.at_)).peek x0 = _
    unfold St.mem
    obtain ⟨l, hl, hp⟩ := at_plan h1
    cases ha : p.act x.at_ with
    | none => rfl
    | some d =>
      obtain ⟨h3, h4⟩ := hA k l hl p hp d (act_in ha)
      refine make_other h0 (by unfold inB at h4; omega) h3 (fun e => ?_) _
      subst e
      exact hx k rfl (List.getElem?_eq_some_iff.1 hl).1 h4
  · rw [idle_true h]
theorem Sim.other (hA : Apart ll) (s : St) (t : Int) (hne : t ≠ i) : Sim i (s.one ll t) s := by
  refine ⟨?_, one_cells s t, fun x0 hx0 => one_peek hA s t x0 (by unfold inB at hx0; omega) fun j e _ hj => hne (by rw [e, inB_one hx0 hj])⟩
  cases h : s.idle ll t
  · obtain ⟨k, x, p, rfl, h1, h2⟩ := idle_false h
    rw [h2]
    show (s.th.set k _)[i]? = _
    rw [List.getElem?_set_ne (by omega)]
  · rw [idle_true h]
theorem Reach.start (ll : List (List Plan)) (s : St) : Reach ll s s := ⟨rfl, fun _ _ _ => rfl, fun i => ⟨0, .refl _ _⟩⟩
theorem Reach.one (hA : Apart ll) (h : Reach ll s0 s) (t : Int) : Reach ll s0 (s.one ll t) := by
  refine ⟨(one_cells s t).trans h.1, fun x0 h0 hx => ?_, fun i => ?_⟩
  · rw [one_peek hA s t x0 h0 fun j _ hj => hx j hj]
    exact h.2.1 x0 h0 hx
  · obtain ⟨k, hk⟩ := h.2.2 i
    by_cases e : t = i
    · subst e
      exact ⟨k + 1, hk.one hA⟩
    · exact ⟨k, (Sim.other hA s t e).trans hk⟩
theorem Reach.many (hA : Apart ll) : ∀ (vs : List Int) (s : St), Reach ll s0 s → Reach ll s0 (s.many ll vs)
  | [], s, h => h
  | t :: vs, s, h => Reach.many hA vs (s.one ll t) (h.one hA t)
theorem Reach.fin (hA : Apart ll) {most : Int} {f : Nat} {r : Bool} (h : Reach ll s0 s) (hf : rfin ll most f 0 s = some (r, s')) : Reach ll s0 s' :=
  fin_keep (P := fun s => Reach ll s0 s) (fun s t h _ => h.one hA _) f 0 s (r, s') h hf
theorem solo_stay (hA : Apart ll) (hat : (solo ll i s k).at? ll i = none) : ∀ m, Sim i (solo ll i s (k + m)) (solo ll i s k)
  | 0 => .refl _ _
  | m + 1 => by
    have h := solo_stay hA hat m
    have h2 : (solo ll i s (k + m)).at? ll i = none := by rw [h.at]; exact hat
    show Sim i ((solo ll i s (k + m)).one ll (i : Int)) _
    rw [one_nat, h2]
    exact ⟨h.th, h.len, h.pk⟩
theorem done_at (h : s.done ll = true) (hi : i < ll.length) : s.at? ll i = none := by
  unfold St.done at h
  have := List.all_eq_true.1 h i (List.mem_range.2 hi)
  unfold St.idle at this
  rw [if_pos (by omega)] at this
  simpa using this
theorem solo_one (hA : Apart ll) (hk : Sim i s (solo ll i s0 k)) (hj : Sim i s' (solo ll i s0 j)) (d1 : s.at? ll i = none) (d2 : s'.at? ll i = none) : Sim i s s' := by
  rcases Nat.le_total k j with h | h
  · have e := solo_stay hA (by rw [← hk.at]; exact d1) (j - k) (s := s0)
    rw [show k + (j - k) = j by omega] at e
    exact hk.trans (e.symm.trans hj.symm)
  · have e := solo_stay hA (by rw [← hj.at]; exact d2) (k - j) (s := s0)
    rw [show j + (k - j) = k by omega] at e
    exact hk.trans (e.trans hj.symm)
/-- all done: the same -/
theorem apart_same (hA : Apart ll) (h : Reach ll s0 s) (h' : Reach ll s0 s') (d : s.done ll = true) (d' : s'.done ll = true) :
    (∀ i : Nat, i < ll.length → s.th[i]? = s'.th[i]?) ∧ ∀ x0, 0 ≤ x0 → s.A.peek x0 = s'.A.peek x0 := by
  have hs : ∀ i : Nat, i < ll.length → Sim i s s' := fun i hi => by
    obtain ⟨k, hk⟩ := h.2.2 i
    obtain ⟨j, hj⟩ := h'.2.2 i
    exact solo_one hA hk hj (done_at d hi) (done_at d' hi)
  refine ⟨fun i hi => (hs i hi).th, fun x0 h0 => ?_⟩
  by_cases hx : ∃ i : Nat, i < ll.length ∧ inB i x0
  · obtain ⟨i, hi, hb⟩ := hx
    exact (hs i hi).pk x0 hb
  · have hn : ∀ i : Nat, i < ll.length → ¬ inB i x0 := fun i hi hb => hx ⟨i, hi, hb⟩
    rw [h.2.1 x0 h0 hn, h'.2.1 x0 h0 hn]
end
end Go.Proofs.Ytkaplifhaafpdaa

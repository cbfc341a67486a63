/-
  What the calls of a run work on: a memory, views, their procs; one of them takes a step. No condition.
-/
import Derived.Test.YtenlgfagfpaenaaVrC
import Derived.Test.YtenlgfagfpaenaaStE
namespace Go.Proofs.Ytenlgfagfpaenaa
open Go Go.RowKit
set_option linter.unusedSimpArgs false
set_option linter.unusedVariables false
/-- a world without memory -/
def nul (W : World) : World := { W with heap := #[] }
theorem nul_size (W : World) : (nul W).heap.size = 0 := rfl
def at2 {α : Type} (l : List (List α)) (t j : Nat) : Option α := match l[t]? with | some r => r[j]? | none => none
def set2 {α : Type} (l : List (List α)) (t j : Nat) (x : α) : List (List α) := l.modify t (·.set j x)
theorem at2_set {α : Type} {l : List (List α)} {t j t2 j2 : Nat} {x y : α} (h : at2 (set2 l t j x) t2 j2 = some y) : (t2 = t ∧ j2 = j ∧ y = x) ∨ (¬ (t2 = t ∧ j2 = j) ∧ at2 l t2 j2 = some y) := by
  unfold at2 set2 at h
  rw [List.getElem?_modify] at h
  cases hl : l[t2]? with
  | none => rw [hl] at h; simp at h
  | some r =>
    rw [hl] at h
    by_cases ht : t = t2
    · subst ht
      simp only [if_true, Option.map_eq_map, Option.map_some] at h
      rw [List.getElem?_set] at h
      by_cases hj : j = j2
      · subst hj
        simp only [if_true] at h
        split at h
        · injection h with h; exact .inl ⟨rfl, rfl, h.symm⟩
        · cases h
      · rw [if_neg hj] at h
        exact .inr ⟨fun e => hj e.2.symm, by unfold at2; rw [hl]; exact h⟩
    · simp only [if_neg ht, Option.map_eq_map, Option.map_some, id] at h
      exact .inr ⟨fun e => ht e.1.symm, by unfold at2; rw [hl]; exact h⟩
/-- memory, views, procs; pl: where each call's proc lies, and the call -/
structure EnvX (W : World) (bm : Nat) (vws : List Nat) (cam : Int) (pl : List (List (Nat × Cl))) (A : Mem) (ss : List (List Vs)) (bnd : Nat) (E : Nat → Prop) (w : World) (F : Nat → Prop) (lab : Nat → Option (Nat × Nat)) : Prop where
  own : Own W w F bm A
  fE : ∀ b, F b → E b
  vw : ∀ (t : Nat) v, vws[t]? = some v → (∃ made : Nat, VW w v bm t made ∧ made ≤ bnd) ∧ ¬ F v ∧ W.heap.size ≤ v ∧ E v ∧ lab v = none
  pr : ∀ t j k c st, at2 pl t j = some (k, c) → at2 ss t j = some st → ∃ i s, VpAt w cam c k i s st ∧ ∀ b, Vblk k i s st b → lab b = some (t, j) ∧ ¬ F b ∧ E b ∧ W.heap.size ≤ b ∧ b < w.heap.size
  pos : ∀ b, E b → b < w.heap.size
  arg : ∀ b, b < W.heap.size → E b
def EnvV (W : World) (bm : Nat) (vws : List Nat) (cam : Int) (pl : List (List (Nat × Cl))) (A : Mem) (ss : List (List Vs)) (bnd : Nat) (E : Nat → Prop) (w : World) : Prop := ∃ F lab, EnvX W bm vws cam pl A ss bnd E w F lab
section
variable {W w w' : World} {S E F : Nat → Prop} {bm t j k v bnd : Nat} {vws : List Nat} {cam : Int} {pl : List (List (Nat × Cl))} {A : Mem} {ss : List (List Vs)} {lab : Nat → Option (Nat × Nat)} {c : Cl} {st : Vs}
theorem EnvX.fr (h : EnvX W bm vws cam pl A ss bnd E w F lab) (hf : Fr S w w') (hS : ∀ b, E b → ¬ S b) : EnvX W bm vws cam pl A ss bnd E w' F lab := by
  refine ⟨h.own.fr hf (fun b hb => hS b (h.fE b hb)) (fun b hb => hS b (h.arg b hb)), h.fE, fun t v hv => ?_, fun t j k c st h1 h2 => ?_, fun b hb => Nat.lt_of_lt_of_le (h.pos b hb) hf.size, h.arg⟩
  · obtain ⟨⟨m, a, b⟩, d, e, f, g⟩ := h.vw t v hv
    exact ⟨⟨m, VW.fr a hf (hS v f), b⟩, d, e, f, g⟩
  · obtain ⟨i, s, a, b⟩ := h.pr t j k c st h1 h2
    exact ⟨i, s, a.keep fun x hx => hf.block x (b x hx).2.2.2.2 (hS x (b x hx).2.2.1), fun x hx => ⟨(b x hx).1, (b x hx).2.1, (b x hx).2.2.1, (b x hx).2.2.2.1, Nat.lt_of_lt_of_le (b x hx).2.2.2.2 hf.size⟩⟩
theorem EnvV.ok : EnvOK (nul W) bm (EnvV W bm vws cam pl A ss bnd) A.trace.length where
  st := fun E S w w' ⟨F, lab, h⟩ hf hS => ⟨F, lab, h.fr hf hS⟩
  pos := fun E w ⟨F, lab, h⟩ k hk => ⟨Nat.zero_le _, h.pos k hk⟩
  made := fun E w ⟨F, lab, h⟩ => by
    obtain ⟨q, r, tv, rows, hx⟩ := h.own.mine.1
    exact Made_any hx
open Classical in
/-- one of them takes a step -/
theorem EnvX.go {f : FuncId} {A' : Mem} {st' : Vs} {d : Bool} (h : EnvX W bm vws cam pl A ss bnd E w F lab) (hv : vws[t]? = some v) (hpl : at2 pl t j = some (k, c)) (hss : at2 ss t j = some st) (hfit : A.Fit) (hb : bnd ≤ 99999999)
    (hstep : ∀ (made : Nat) (p : Nat → Prop) (i s : Nat), made ≤ bnd → VpAt w cam c k i s st → Mx W (some ⟨bm, v, t, A, made⟩) p w → (∀ b, Vblk k i s st b → p b) →
      Calls Try.prog f #[.pointer (some ⟨k, 0, none⟩), .pointer (some ⟨v, 0, none⟩)] w fun e w' => e = .returned (.bool d) ∧ Wt W ⟨bm, v, t, A, made⟩ A' cam c k i s p w w' st st') :
    Calls Try.prog f #[.pointer (some ⟨k, 0, none⟩), .pointer (some ⟨v, 0, none⟩)] w fun e w' => e = .returned (.bool d) ∧ ∃ E', EnvV W bm vws cam pl A' (set2 ss t j st') (bnd + 1) E' w' ∧ (∀ b, b < w.heap.size → ¬ E b → ¬ E' b) ∧ Fr E w w' := by
  obtain ⟨⟨made, hvw, hmade⟩, hvF, hvW, hvE, hvl⟩ := h.vw t v hv
  obtain ⟨i, s, hat, hbl⟩ := h.pr t j k c st hpl hss
  have hmx : Mx W (some ⟨bm, v, t, A, made⟩) (fun b => W.heap.size ≤ b ∧ b < w.heap.size ∧ ¬ F b ∧ b ≠ v) w := ⟨F, h.own, hvw, hvF, hvW, fun b hb => hb, hfit, by show made ≤ 100000000; omega⟩
  have hvb : ∀ b, Vblk k i s st b → b ≠ v := fun b hb e => by
    have := (hbl b hb).1
    rw [e, hvl] at this
    cases this
  refine (hstep made _ i s hmade hat hmx fun b hb => ⟨(hbl b hb).2.2.2.1, (hbl b hb).2.2.2.2, (hbl b hb).2.1, hvb b hb⟩).mono ?_
  rintro e w' ⟨rfl, i', s', q, hat', hmx', hpq, hbl', hsz, hkeep⟩
  obtain ⟨F', o', vw', nF', vW', hq', fit', made'⟩ := hmx'
  refine ⟨rfl, fun b => (E b ∨ w.heap.size ≤ b) ∧ b < w'.heap.size, ⟨F', fun b => if Vblk k i' s' st' b then some (t, j) else if lab b = some (t, j) then none else lab b, ?_⟩, fun b hb hE hE' => hE'.1.elim hE fun h2 => by omega, ?_⟩
  · refine ⟨o', fun b hb => ?_, fun t2 v2 hv2 => ?_, fun t2 j2 k2 c2 st2 hp2 hs2 => ?_, fun b hb => hb.2, fun b hb => ⟨.inl (h.arg b hb), Nat.lt_of_lt_of_le hb (Nat.le_trans h.own.below.size hsz)⟩⟩
    · have hm := o'.mine.2 b hb
      refine ⟨?_, hm.2⟩
      rcases Nat.lt_or_ge b w.heap.size with h1 | h1
      · left
        by_cases hF : F b
        · exact h.fE b hF
        · by_cases hbv : b = v
          · subst hbv; exact hvE
          · exact absurd hb (hq' b (hpq b ⟨hm.1, h1, hF, hbv⟩)).2.2.1
      · exact .inr h1
    · by_cases hvv : v2 = v
      · obtain ⟨⟨m2, a2, b2⟩, -⟩ := h.vw t2 v2 hv2
        have htt : t2 = t := by
          rw [hvv] at a2
          have h1 : w.heap[v]? = _ := a2
          have h2 : w.heap[v]? = _ := hvw
          rw [h1] at h2
          injection h2 with h2
          injection h2 with h2
          have h3 := congrArg (fun a : Array Value => a[1]?) h2
          have h4 : (Value.int .i64 (t2 : Int)) = Value.int .i64 (t : Int) := by simpa using h3
          injection h4 with _ h4
          omega
        subst htt
        rw [hvv]
        refine ⟨⟨made + 1, by simpa [Vu.next] using vw', by omega⟩, nF', vW', ⟨.inl hvE, Nat.lt_of_lt_of_le (h.pos v hvE) hsz⟩, ?_⟩
        rw [if_neg, hvl]
        · rfl
        · intro hb
          exact (hq' v (hbl' v hb).1).2.2.2 rfl
      · obtain ⟨⟨m2, a2, b2⟩, c2, d2, e2, l2⟩ := h.vw t2 v2 hv2
        have hp : W.heap.size ≤ v2 ∧ v2 < w.heap.size ∧ ¬ F v2 ∧ v2 ≠ v := ⟨d2, h.pos v2 e2, c2, hvv⟩
        have hnb : ¬ Vblk k i s st v2 := fun hb => by have := (hbl v2 hb).1; rw [l2] at this; cases this
        refine ⟨⟨m2, (hkeep v2 hp hnb).trans a2, by omega⟩, (hq' v2 (hpq v2 hp)).2.2.1, d2, ⟨.inl e2, Nat.lt_of_lt_of_le (h.pos v2 e2) hsz⟩, ?_⟩
        rw [if_neg, l2]
        · rfl
        · intro hb
          rcases (hbl' v2 hb).2 with h1 | h1
          · exact hnb h1
          · exact h1 hp
    · rcases at2_set hs2 with ⟨rfl, rfl, rfl⟩ | ⟨hne, hs2⟩
      · rw [hpl] at hp2
        injection hp2 with hp2
        injection hp2 with e1 e2
        subst e1 e2
        refine ⟨i', s', hat', fun b hb => ?_⟩
        have hqb := hq' b (hbl' b hb).1
        refine ⟨if_pos hb, hqb.2.2.1, ⟨?_, hqb.2.1⟩, hqb.1, hqb.2.1⟩
        rcases (hbl' b hb).2 with h1 | h1
        · exact .inl (hbl b h1).2.2.1
        · rcases Nat.lt_or_ge b w.heap.size with h2 | h2
          · left
            by_cases hF : F b
            · exact h.fE b hF
            · exact absurd ⟨hqb.1, h2, hF, hqb.2.2.2⟩ h1
          · exact .inr h2
      · obtain ⟨i2, s2, a2, b2⟩ := h.pr t2 j2 k2 c2 st2 hp2 hs2
        have hl2 : ∀ b, Vblk k2 i2 s2 st2 b → (W.heap.size ≤ b ∧ b < w.heap.size ∧ ¬ F b ∧ b ≠ v) ∧ ¬ Vblk k i s st b := by
          intro b hb
          obtain ⟨x1, x2, x3, x4, x5⟩ := b2 b hb
          refine ⟨⟨x4, x5, x2, fun e => by rw [e, hvl] at x1; cases x1⟩, fun hb2 => ?_⟩
          have := (hbl b hb2).1
          rw [x1] at this
          injection this with this
          injection this with e1 e2
          exact hne ⟨e1, e2⟩
        refine ⟨i2, s2, a2.keep fun b hb => hkeep b (hl2 b hb).1 (hl2 b hb).2, fun b hb => ?_⟩
        obtain ⟨x1, x2, x3, x4, x5⟩ := b2 b hb
        have hnb : ¬ Vblk k i' s' st' b := fun hb2 => by
          rcases (hbl' b hb2).2 with h1 | h1
          · exact (hl2 b hb).2 h1
          · exact h1 (hl2 b hb).1
        refine ⟨?_, (hq' b (hpq b (hl2 b hb).1)).2.2.1, ⟨.inl x3, Nat.lt_of_lt_of_le x5 hsz⟩, x4, Nat.lt_of_lt_of_le x5 hsz⟩
        rw [if_neg hnb, x1, if_neg]
        intro e
        injection e with e
        injection e with e1 e2
        exact hne ⟨e1, e2⟩
  · have hb1 := h.own.below
    have hb2 := o'.below
    refine ⟨hb2.os.trans hb1.os.symm, hb2.tape.trans hb1.tape.symm, hb2.output.trans hb1.output.symm, hsz, fun b hb hE => ?_⟩
    rcases Nat.lt_or_ge b W.heap.size with h1 | h1
    · exact absurd (h.arg b h1) hE
    · refine hkeep b ⟨h1, hb, fun hF => hE (h.fE b hF), fun e => hE (e ▸ hvE)⟩ fun hb2 => hE (hbl b hb2).2.2.1
end
end Go.Proofs.Ytenlgfagfpaenaa

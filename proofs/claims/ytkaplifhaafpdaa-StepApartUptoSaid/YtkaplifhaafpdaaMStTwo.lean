/-
  Two pairs of runners beside each other. No condition.
-/
import Derived.Test.YtkaplifhaafpdaaMStHisP
namespace Go.Proofs.Ytkaplifhaafpdaa
open Go Go.RowKit
set_option linter.unusedSimpArgs false
set_option linter.unusedVariables false
set_option maxRecDepth 100000 in
theorem Run_empty (w : World) (x : Value) (p : Option Addr) (c : Nat) : Calls Try.prog 28 #[x, .slice p 0 c] w fun e w' => e = .returned (.tuple #[]) ∧ w = w' := by
  go_enter Try.func28, Try.ntmps28
  go_wp2_with fail
  go_loopw [8] (fun i wr => i = .int .i64 0 ∧ wr = w) (fun i _ => 0)
  case atStart => exact ⟨rfl, rfl⟩
  case round =>
    obtain ⟨rfl, rfl⟩ := hrel
    go_wp2
    go_end0
    exact ⟨rfl, rfl⟩
/-- two pairs that share nothing -/
def Two (W : World) (ll : List (List Plan)) (wd q : Nat) (L : Lay) (s1 s2 : St) (wd2 q2 : Nat) (L2 : Lay) (t1 t2 : St) (w : World) : Prop :=
  ∃ U V, Duo W ll wd q L s1 s2 w U ∧ Duo W ll wd2 q2 L2 t1 t2 w V ∧ ∀ k, U k → ¬ V k
section
variable {W w w' w1 w0 : World} {ll : List (List Plan)} {wd q wd2 q2 : Nat} {L L2 : Lay} {s s1 s2 t1 t2 : St} {vs : List Int} {v : Value}
theorem Two.one (h : Two W ll wd q L s1 s2 wd2 q2 L2 t1 t2 w) : Twin W ll wd q L s1 s2 w := let ⟨U, _, h, _⟩ := h; ⟨U, h⟩
theorem Two.two (h : Two W ll wd q L s1 s2 wd2 q2 L2 t1 t2 w) : Twin W ll wd2 q2 L2 t1 t2 w := let ⟨_, V, _, h, _⟩ := h; ⟨V, h⟩
theorem Two.bl (h : Two W ll wd q L s1 s2 wd2 q2 L2 t1 t2 w) (hb : Below w.heap.size w w') : Two W ll wd q L s1 s2 wd2 q2 L2 t1 t2 w' := let ⟨U, V, a, b, c⟩ := h; ⟨U, V, a.bl hb, b.bl hb, c⟩
theorem Two.bel (h : Two W ll wd q L s1 s2 wd2 q2 L2 t1 t2 w) : Below W.heap.size W w := h.one.bel
theorem Two.runA (h : Two W ll wd q L s s2 wd2 q2 L2 t1 t2 w) (hn : Fits ll) (hs : s.steps + vs.length ≤ 40000000) (hv : RdI w v vs) (hb : 0 < vs.length → ∀ b o c, v = .slice (some ⟨b, o, none⟩) vs.length c → b < W.heap.size) :
    Calls Try.prog 28 #[.pointer (some ⟨L.rp, 0, none⟩), v] w fun e w' => e = .returned (.tuple #[]) ∧ Two W ll wd q L (s.many ll vs) s2 wd2 q2 L2 t1 t2 w' := by
  by_cases h0 : vs = []
  · subst h0
    obtain ⟨p, c, rfl, _⟩ := hv
    refine (Run_empty w _ p c).mono ?_
    rintro e w' ⟨rfl, rfl⟩
    exact ⟨rfl, h⟩
  have hb := hb (List.length_pos_iff.2 h0)
  obtain ⟨U, V, a, b, c⟩ := h
  refine (a.runP hn hs hv (fun x o cc e => ?_)).mono ?_
  · have h1 := hb x o cc e
    have h2 := a.bel.size
    exact ⟨by omega, fun e2 => by have := (a.pos x e2).1; omega⟩
  · rintro e w' ⟨rfl, U', h', k⟩
    refine ⟨rfl, U', V, h', b.fr k.fr (fun x hx => ⟨(a.pos x hx).1, c x hx⟩), fun x hx hv => ?_⟩
    by_cases hu : U x
    · exact c x hu hv
    · exact k.ne x (b.pos x hv).2 hu hx
theorem Two.runB (h : Two W ll wd q L s1 s2 wd2 q2 L2 s t2 w0) (hw : Below w0.heap.size w0 w) (hn : Fits ll) (hs : s.steps + vs.length ≤ 40000000) (hv : RdI w v vs) (hb : ∀ b o c, v = .slice (some ⟨b, o, none⟩) vs.length c → w0.heap.size ≤ b ∧ b < w.heap.size) :
    Calls Try.prog 28 #[.pointer (some ⟨L2.rp, 0, none⟩), v] w fun e w' => e = .returned (.tuple #[]) ∧ Two W ll wd q L s1 s2 wd2 q2 L2 (s.many ll vs) t2 w' := by
  obtain ⟨U, V, a, b, c⟩ := h
  have b2 := b.bl hw
  have a2 := a.bl hw
  refine (b2.runP hn hs hv (fun x o cc e => ?_)).mono ?_
  · have h1 := hb x o cc e
    exact ⟨h1.2, fun e2 => by have := (b.pos x e2).2; omega⟩
  · rintro e w' ⟨rfl, V', h', k⟩
    refine ⟨rfl, U, V', a2.fr k.fr (fun x hx => ⟨(b2.pos x hx).1, fun hu => c x hu hx⟩), h', fun x hx hv => ?_⟩
    by_cases hu : V x
    · exact c x hx hu
    · exact k.ne x (a2.pos x hx).2 hu hv
theorem Twin.pickZ' (h : Twin W ll wd q L s1 s w) (hn : Fits ll) (hs : s.steps ≤ 40000000) (t : Int) : Calls Try.prog 26 #[.pointer (some ⟨q, 0, none⟩), .int .i64 t] w fun e w' => e = .returned (.bool (!s.idle ll t)) ∧ Twin W ll wd q L s1 (s.one ll t) w' := h.pickZ hn hs t
theorem Twin.events (h : Twin W ll wd q L s1 s2 w) (hs : s1.steps ≤ 40000000) : Calls Try.prog 43 #[.pointer (some ⟨L.rp, 0, none⟩)] w fun e w' => ∃ v, e = .returned v ∧ ReadsE w' v s1.evs ∧ Below w.heap.size w w' := by
  obtain ⟨U, h⟩ := h
  exact h.Events (by omega)
theorem Twin.trace (h : Twin W ll wd q L s1 s2 w) (hs : s1.steps ≤ 40000000) (ht : s1.TrOK) : Calls Try.prog 38 #[.pointer (some ⟨L.bm, 0, none⟩)] w fun e w' => ∃ v, e = .returned v ∧ TL w' v s1.A.trace ∧ Below w.heap.size w w' := by
  obtain ⟨U, h⟩ := h
  exact h.Trace (by omega) ht
theorem Twin.stepsP (h : Twin W ll wd q L s1 s2 w) : Calls Try.prog 21 #[.pointer (some ⟨L.rp, 0, none⟩)] w fun e w' => e = .returned (.int .i64 s1.steps) ∧ w = w' := by
  obtain ⟨U, h⟩ := h
  exact h.Steps
theorem Twin.doneP (h : Twin W ll wd q L s1 s2 w) (hn : Fits ll) : Calls Try.prog 23 #[.pointer (some ⟨L.rp, 0, none⟩)] w fun e w' => e = .returned (.bool (s1.done ll)) ∧ Below w.heap.size w w' := by
  obtain ⟨U, h⟩ := h
  exact h.Done hn
theorem Twin.pendP (h : Twin W ll wd q L s1 s2 w) (hn : Fits ll) : Calls Try.prog 45 #[.pointer (some ⟨L.rp, 0, none⟩)] w fun e w' => ∃ v, e = .returned v ∧ ReadsI w' v s1.pending ∧ Below w.heap.size w w' := by
  obtain ⟨U, h⟩ := h
  exact h.Pending hn
set_option maxRecDepth 100000 in
/-- a whole row of numbers behind a row that is the call's own -/
theorem step_app_i64 {ops : Array Oper} {o : Oper} {a : Act} {K : Act → World → Prop} {Q : Exit → Act → World → Prop} {E : Prop} (hgd : o.guard = none) (s x : Operand)
    (ho : o.op = .call { callee := .builtin .append, args := #[s, x], argTypes := #[46, 46] }) (base : Nat) (v : Value) (xs ys : List Int) (hs : a.eval s = v) (hown : w.ownsRow base 3 1 v xs.length (is64 xs))
    (v2 : Value) (hx : a.eval x = v2) (hr : Reads w v2 (is64 ys))
    (hb : xs.length + ys.length ≤ 2000000000) (hbase : base ≤ w.heap.size) (h : ∀ up uc w', w'.ownsRow base 3 1 (.slice up (xs ++ ys).length uc) (xs ++ ys).length (is64 (xs ++ ys)) → w.grownBy w' v.ownBlock → K (a.put o.dst (.slice up (xs ++ ys).length uc)) w') :
    if Region.wanted o (yielded ops a.tmps) = true then Oper.wp Try.prog o a w K Q else E := by
  have hw : Region.wanted o (yielded ops a.tmps) = true := by simp [Region.wanted, hgd]
  rw [if_pos hw]
  obtain ⟨i0, hi, hz0, hz1, hz2⟩ := info_parts infoI
  obtain ⟨ao, c, rfl, hnone, hc⟩ := hr
  have hus : is64 (xs ++ ys) = is64 xs ++ is64 ys := by simp [is64]
  have hyl : (is64 ys).length = ys.length := by simp [is64]
  cases ao with
  | some ad =>
    refine wp_append_own w s x 46 ho base 3 i0 _ 1 8 Try.underlying46 hi hz0 hz1 hz2 rfl (by decide) _ xs.length (is64 xs) hs hown ad ys.length c (is64 ys) (by rw [hx, hyl]) (by rw [hyl]; omega) (fun j u hu => ?_) (by intro u hu; obtain ⟨z, _, rfl⟩ := List.mem_map.1 hu; rfl) (by unfold maxLen; omega) (by omega) hbase ?_
    · obtain ⟨b, o2, e, _, hcc⟩ := hc j u hu
      have e2 : ad = ⟨b, o2, none⟩ := Option.some.inj e
      subst e2
      have : (⟨b, o2, none⟩ : Addr).add j = ⟨b, o2 + j, none⟩ := by unfold Addr.add; split <;> simp_all
      rw [this]
      exact hcc
    · intro v' w' h1 h2 _
      rw [← hus, ← List.length_append] at h1
      obtain ⟨up, uc, rfl⟩ := r_form h1
      exact h up uc w' h1 h2
  | none =>
    have h0 : ys = [] := by
      cases ys with
      | nil => rfl
      | cons y ys => obtain ⟨b, o2, e, _⟩ := hc 0 (.int .i64 y) rfl; cases e
    subst h0
    have hc0 := hnone rfl
    subst hc0
    obtain ⟨up, uc, rfl⟩ := r_form hown
    have hrun := run_append_owned_none (P := Try.prog) w base 46 o.type 3 i0 1 Try.underlying46 hi _ xs.length (is64 xs) hown
    unfold Oper.wp
    have hx' : a.eval x = .slice none 0 0 := hx
    simp [execOp, ho, resolve, invoke, builtin, hs, hx', hrun, Result.andThen]
    have h2 : K (a.put o.dst (.slice up xs.length uc)) w := by simpa using h up uc w (by simpa using hown) ⟨rfl, rfl, rfl, Nat.le_refl _, fun _ _ _ => rfl⟩
    exact h2
end
end Go.Proofs.Ytkaplifhaafpdaa

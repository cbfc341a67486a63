/-
  A row alone, step by step: the plain law. No condition.
-/
import Derived.Test.YtkaplifhaafpdaaMAnRow
namespace Go.Proofs.Ytkaplifhaafpdaa
open Go Go.RowKit
set_option linter.unusedSimpArgs false
set_option linter.unusedVariables false
def cum (l : List Plan) (i : Nat) : Nat := ((l.take i).map Plan.cost).sum
def run3 (l : List Plan) (s : St) : Nat → St
  | 0 => s
  | k + 1 => (run3 l s k).one (l4 l) 3
section
variable {l : List Plan} {s : St} {k i : Nat} {x : TS} {p : Plan}
theorem cum_succ (hp : l[i]? = some p) : cum l (i + 1) = cum l i + p.cost := by
  obtain ⟨h, e⟩ := List.getElem?_eq_some_iff.1 hp
  unfold cum
  rw [List.take_add_one, hp]
  simp
theorem cum_mono (i : Nat) : cum l i ≤ cum l (i + 1) := by
  cases hp : l[i]? with
  | none =>
    have := List.getElem?_eq_none_iff.1 hp
    unfold cum
    rw [List.take_of_length_le this, List.take_of_length_le (by omega)]
    exact Nat.le_refl _
  | some p => rw [cum_succ hp]; omega
theorem cum_le {j : Nat} (h : i ≤ j) : cum l i ≤ cum l j := by
  induction h with
  | refl => exact Nat.le_refl _
  | step _ ih => exact Nat.le_trans ih (cum_mono _)
theorem dn_cost (p : Plan) (a : Nat) (ha : a < p.cost) : p.dn a = decide (p.cost = a + 1) := by
  unfold Plan.dn Plan.cost at *
  cases hn : p.none
  · simp only [hn, Bool.false_eq_true, if_false] at ha ⊢
    rw [Bool.eq_iff_iff]; simp; omega
  · simp only [hn, if_true] at ha ⊢
    simp; omega
theorem wt_sum (l : List Plan) : (l.map Plan.cost).sum + 1 ≤ planWt l := by
  have h : ∀ l : List Plan, (l.map Plan.cost).sum ≤ (l.map Plan.wt).sum := by
    intro l
    induction l with
    | nil => simp
    | cons y l ih =>
      have h1 : y.cost ≤ y.wt := by
        unfold Plan.cost Plan.wt
        have : ∀ L : List Do, L.length ≤ (L.map fun d => 1 + d.vals.length).sum := by
          intro L
          induction L with
          | nil => simp
          | cons d L ih => simp; omega
        have := this y.l
        split <;> omega
      simp; omega
  have := h l
  unfold planWt
  omega
theorem cum_wt (i : Nat) : cum l i + 1 ≤ planWt l := by
  have h : cum l i ≤ (l.map Plan.cost).sum := by
    have : (l.map Plan.cost).sum = cum l l.length := by unfold cum; rw [List.take_length]
    rw [this]
    rcases Nat.le_total i l.length with h | h
    · exact cum_le h
    · unfold cum; rw [List.take_of_length_le h, List.take_length]; exact Nat.le_refl _
  have := wt_sum l
  omega
theorem has3 (ok : s.Ok (l4 l)) : ∃ x, s.th[3]? = some x ∧ x.Ok l := by
  obtain ⟨x, hx⟩ : ∃ x, s.th[3]? = some x := ⟨_, List.getElem?_eq_getElem (by rw [ok.tl]; simp [l4])⟩
  exact ⟨x, hx, ok.th 3 x l hx rfl⟩
theorem run_ok (ok : s.Ok (l4 l)) (h0 : s.steps = 0) : ∀ k, k ≤ 40000000 → (run3 l s k).Ok (l4 l) ∧ (run3 l s k).steps = k
  | 0, _ => ⟨ok, h0⟩
  | k + 1, hk => by
    obtain ⟨a, b⟩ := run_ok ok h0 k (by omega)
    exact ⟨a.one 3 (by omega), by show ((run3 l s k).one (l4 l) 3).steps = _; rw [one_steps, b]⟩
/-- where the thread is after k steps -/
def At (l : List Plan) (s : St) (k : Nat) : Prop := ∃ x, s.th[3]? = some x ∧ x.Ok l ∧ (x.call < l.length → cum l x.call + x.at_ = k) ∧ (x.call = l.length → cum l l.length ≤ k)
theorem at_lt (hok : x.Ok l) (hp : l[x.call]? = some p) : x.at_ < p.cost := by
  by_cases h : x.at_ = 0
  · rw [h]; exact cost_pos p
  · have := hok.at_ p hp h
    unfold Plan.cost
    rw [this.1]
    simp; omega
theorem run_at (ok : s.Ok (l4 l)) (h0 : s.steps = 0) (hs : ∃ x, s.th[3]? = some x ∧ x.call = 0 ∧ x.at_ = 0) : ∀ k, k ≤ 40000000 → At l (run3 l s k) k
  | 0, _ => by
    obtain ⟨x, hx, h1, h2⟩ := hs
    exact ⟨x, hx, ok.th 3 x l hx rfl, fun _ => by rw [h1, h2]; simp [cum], fun e => by rw [← e, h1]; simp [cum]⟩
  | k + 1, hk => by
    obtain ⟨x, hx, hok, h1, h2⟩ := run_at ok h0 hs k (by omega)
    have ok1 := (run_ok ok h0 (k + 1) hk).1
    have okk := (run_ok ok h0 k (by omega)).1
    show At l ((run3 l s k).one (l4 l) 3) (k + 1)
    by_cases hc : x.call = l.length
    · rw [one_idle hx hc]
      exact ⟨x, hx, hok, fun e => by omega, fun _ => by have := h2 hc; omega⟩
    · have hc2 : x.call < l.length := by have := hok.cl; omega
      obtain ⟨p, hp⟩ : ∃ p, l[x.call]? = some p := ⟨_, List.getElem?_eq_getElem hc2⟩
      have ha := at_lt hok hp
      have hth := go_th hx p
      have e1 : (run3 l s k).one (l4 l) 3 = (run3 l s k).go 3 x p := one_go hx hp
      rw [e1]
      have ok2 : ((run3 l s k).go 3 x p).Ok (l4 l) := e1 ▸ ok1
      refine ⟨_, hth, ok2.th 3 _ l hth rfl, ?_, ?_⟩
      · intro hlt
        have h3 := h1 hc2
        simp only [TS.next] at hlt ⊢
        rw [dn_cost p x.at_ ha] at hlt ⊢
        by_cases e : p.cost = x.at_ + 1
        · simp only [decide_eq_true e, if_true] at hlt ⊢
          rw [cum_succ hp]; omega
        · simp only [decide_eq_false e, Bool.false_eq_true, if_false] at hlt ⊢
          omega
      · intro hlt
        have h3 := h1 hc2
        simp only [TS.next] at hlt
        rw [dn_cost p x.at_ ha] at hlt
        by_cases e : p.cost = x.at_ + 1
        · simp only [decide_eq_true e, if_true] at hlt
          rw [← hlt, cum_succ hp]; omega
        · simp only [decide_eq_false e, Bool.false_eq_true, if_false] at hlt
          omega
/-- the same but for the count of steps -/
def Alike (a b : St) : Prop := a.A = b.A ∧ a.th = b.th
theorem run_stay {y : TS} (hy : (run3 l s k).th[3]? = some y) (hc : y.call = l.length) : ∀ j, Alike (run3 l s (k + j)) (run3 l s k)
  | 0 => ⟨rfl, rfl⟩
  | j + 1 => by
    obtain ⟨a, b⟩ := run_stay hy hc j
    have hy2 : (run3 l s (k + j)).th[3]? = some y := by rw [b]; exact hy
    show Alike ((run3 l s (k + j)).one (l4 l) 3) _
    rw [one_idle hy2 hc]
    exact ⟨a, b⟩
/-- what a proc that is done was told stays -/
theorem run_got (ok : s.Ok (l4 l)) (h0 : s.steps = 0) {y z : TS} (hy : (run3 l s k).th[3]? = some y) (hc : i < y.call) : ∀ j, k + j ≤ 40000000 → ∃ z, (run3 l s (k + j)).th[3]? = some z ∧ i < z.call ∧ z.got.getD i [] = y.got.getD i []
  | 0, _ => ⟨y, hy, hc, rfl⟩
  | j + 1, hj => by
    obtain ⟨z, hz, h1, h2⟩ := run_got (y := y) (z := y) ok h0 hy hc j (by omega)
    have okz := (run_ok ok h0 (k + j) (by omega)).1.th 3 z l hz rfl
    by_cases hcz : z.call = l.length
    · refine ⟨z, ?_, h1, h2⟩
      show ((run3 l s (k + j)).one (l4 l) 3).th[3]? = _
      rw [one_idle hz hcz]; exact hz
    · obtain ⟨p, hp⟩ : ∃ p, l[z.call]? = some p := ⟨_, List.getElem?_eq_getElem (by have := okz.cl; omega)⟩
      refine ⟨_, by show ((run3 l s (k + j)).one (l4 l) 3).th[3]? = _; rw [one_go hz hp]; exact go_th hz p, ?_, ?_⟩
      · simp only [TS.next]; split <;> omega
      · rw [← h2]
        simp only [TS.next, List.getD_eq_getElem?_getD, List.getElem?_modify]
        have : ¬ z.call = i := by omega
        cases z.got[i]? <;> simp [this]
end
end Go.Proofs.Ytkaplifhaafpdaa

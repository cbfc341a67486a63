/-
  How many steps are left; again and again in turn: what the runner and the document's agree on. No condition.
-/
import Derived.Test.YtkaplifhaafpdaaGreatM23
import Derived.Test.YtkaplifhaafpdaaGreatM12
namespace Go.Proofs.YtkaplifhaafpdaaGreat
open Go Go.RowKit
set_option linter.unusedSimpArgs false
set_option linter.unusedVariables false
def Plan.cost (p : Plan) : Nat := if p.none then 1 else max 1 p.l.length
def TS.rem (x : TS) (l : List Plan) : Nat := ((l.drop x.call).map Plan.cost).sum - x.at_
def St.left (ll : List (List Plan)) (s : St) : Nat := (List.zipWith TS.rem s.th ll).sum
section
variable {ll : List (List Plan)} {s : St} {t : Nat} {x : TS} {p : Plan} {l : List Plan}
theorem cost_pos (p : Plan) : 1 ≤ p.cost := by unfold Plan.cost; split <;> omega
theorem drop_cons {α : Type} {l : List α} {k : Nat} {a : α} (h : l[k]? = some a) : l.drop k = a :: l.drop (k + 1) := by
  have hk := (List.getElem?_eq_some_iff.1 h).1
  rw [List.drop_eq_getElem_cons hk]
  rw [List.getElem?_eq_getElem hk] at h
  injection h with h
  rw [h]
theorem rem_next (ok : x.Ok l) (hp : l[x.call]? = some p) (wd : List Int) : (x.next wd (p.dn x.at_)).rem l + 1 = x.rem l := by
  have ha : x.at_ ≠ 0 → p.none = false ∧ x.at_ < p.l.length := ok.at_ p hp
  have hd := drop_cons hp
  have hc := cost_pos p
  have hlt : x.at_ < p.cost := by
    by_cases h0 : x.at_ = 0
    · omega
    · obtain ⟨h1, h2⟩ := ha h0
      unfold Plan.cost
      rw [h1]
      simp; omega
  unfold TS.rem TS.next
  cases hdn : p.dn x.at_
  · have h2 : x.at_ + 1 < p.cost := by
      unfold Plan.dn at hdn
      simp at hdn
      unfold Plan.cost
      rw [hdn.1]
      simp; omega
    simp only [Bool.false_eq_true, if_false]
    rw [hd]
    simp only [List.map_cons, List.sum_cons]
    omega
  · have h2 : x.at_ + 1 = p.cost := by
      unfold Plan.dn at hdn
      unfold Plan.cost
      cases hn : p.none
      · rw [hn] at hdn
        simp at hdn
        simp
        by_cases h0 : x.at_ = 0
        · omega
        · have := (ha h0).2; omega
      · by_cases h0 : x.at_ = 0
        · simp [h0]
        · have := (ha h0).1; rw [hn] at this; cases this
    simp only [if_true]
    rw [hd]
    simp only [List.map_cons, List.sum_cons]
    omega
theorem zip_set : ∀ {th : List TS} {ll : List (List Plan)} {t : Nat} {x y : TS} {l : List Plan}, th[t]? = some x → ll[t]? = some l → y.rem l + 1 = x.rem l → (List.zipWith TS.rem (th.set t y) ll).sum + 1 = (List.zipWith TS.rem th ll).sum
  | [], ll, t, x, y, l, h, _, _ => by simp at h
  | a :: th, [], t, x, y, l, _, h, _ => by simp at h
  | a :: th, b :: ll, 0, x, y, l, h1, h2, h3 => by
    have h1 : a = x := by simpa using h1
    have h2 : b = l := by simpa using h2
    subst h1 h2
    simp only [List.set_cons_zero, List.zipWith_cons_cons, List.sum_cons]
    omega
  | a :: th, b :: ll, t + 1, x, y, l, h1, h2, h3 => by
    have := zip_set (th := th) (ll := ll) (t := t) (x := x) (y := y) (l := l) (by simpa using h1) (by simpa using h2) h3
    simp only [List.set_cons_succ, List.zipWith_cons_cons, List.sum_cons]
    omega
theorem left_go (ok : s.Ok ll) (hat : s.at? ll t = some (x, p)) : (s.go t x p).left ll + 1 = s.left ll := by
  obtain ⟨hx, l, hl, hp⟩ := at_some hat
  exact zip_set hx hl (rem_next (ok.th t x l hx hl) hp _)
theorem idle_false {t : Int} (h : s.idle ll t = false) : ∃ (k : Nat) (x : TS) (p : Plan), t = k ∧ s.at? ll k = some (x, p) ∧ s.one ll t = s.go k x p := by
  unfold St.idle at h
  split at h
  · rename_i h0
    obtain ⟨k, rfl⟩ : ∃ k : Nat, t = k := ⟨t.toNat, by omega⟩
    simp only [Int.toNat_natCast] at h
    cases hq : s.at? ll k with
    | none => rw [hq] at h; cases h
    | some y =>
      refine ⟨k, y.1, y.2, rfl, hq, ?_⟩
      unfold St.one
      rw [if_pos h0]
      simp only [Int.toNat_natCast, hq]
  · cases h
theorem left_one (ok : s.Ok ll) {t : Int} (h : s.idle ll t = false) : (s.one ll t).left ll + 1 = s.left ll := by
  obtain ⟨k, x, p, rfl, h1, h2⟩ := idle_false h
  rw [h2]
  exact left_go ok h1
theorem idle_true {t : Int} (h : s.idle ll t = true) : s.one ll t = { s with steps := s.steps + 1 } := by
  unfold St.one
  split
  · rename_i h0
    unfold St.idle at h
    rw [if_pos h0] at h
    split
    · rename_i y z hq; rw [hq] at h; cases h
    · rfl
  · rfl
theorem one_left_le (ok : s.Ok ll) (t : Int) : (s.one ll t).left ll ≤ s.left ll := by
  cases h : s.idle ll t
  · have := left_one ok h; omega
  · rw [idle_true h]; exact Nat.le_refl _
end
end Go.Proofs.YtkaplifhaafpdaaGreat

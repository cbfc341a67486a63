/-
  How many steps are left; again and again in turn: what the runner and the document's agree on. No condition.
-/
import Derived.Test.YtkaplifhaafpdaaM26
import Derived.Test.YtkaplifhaafpdaaM24
namespace Go.Proofs.Ytkaplifhaafpdaa
open Go Go.RowKit
set_option linter.unusedSimpArgs false
set_option linter.unusedVariables false
def Plan.cost (p : Plan) : Nat := if p.none then 1 else max 1 p.l.length
def TS.rem (x : TS) (l : List Plan) : Nat := ((l.drop x.call).map Plan.cost).sum - x.at_
def St.left (ll : List (List Plan)) (s : St) : Nat := (List.zipWith TS.rem s.th ll).sum
section
variable {ll : List (List Plan)} {s : St} {t : Nat} {x : TS} {p : Plan} {l : List Plan}
theorem cost_pos (p : Plan) : 1 ≤ p.cost := by unfold Plan.cost; split <;> omega
theorem drop_cons {α : Type} {l : List α} {k : Nat} {a : α} (h : l[k]? = some a) : l.drop k = a :: l.drop (k + 1) := by
  have hk := (List.getElem?_eq_some_iff.1 h).1
  rw [List.drop_eq_getElem_cons hk]
  rw [List.getElem?_eq_getElem hk] at h
  injection h with h
  rw [h]
theorem rem_next (ok : x.Ok l) (hp : l[x.call]? = some p) (wd : List Int) : (x.next wd (p.dn x.at_)).rem l + 1 = x.rem l := by
  have ha : x.at_ ≠ 0 → p.none = false ∧ x.at_ < p.l.length := ok.at_ p hp
  have hd := drop_cons hp
  have hc := cost_pos p
  have hlt : x.at_ < p.cost := by
    by_cases h0 : x.at_ = 0
    · omega
    · obtain ⟨h1, h2⟩ := ha h0
      unfold Plan.cost
      rw [h1]
      simp; omega
  unfold TS.rem TS.next
  cases hdn : p.dn x.at_
  · have h2 : x.at_ + 1 < p.cost := by
      unfold Plan.dn at hdn
      simp at hdn
      unfold Plan.cost
      rw [hdn.1]
      simp; omega
    simp only [Bool.false_eq_true, if_false]
    rw [hd]
    simp only [List.map_cons, List.sum_cons]
    omega
  · have h2 : x.at_ + 1 = p.cost := by
      unfold Plan.dn at hdn
      unfold Plan.cost
      cases hn : p.none
      · rw [hn] at hdn
        simp at hdn
        simp
        by_cases h0 : x.at_ = 0
        · omega
        · have := (ha h0).2; omega
      · by_cases h0 : x.at_ = 0
        · simp [h0]
        · have := (ha h0).1; rw [hn] at this; cases this
    simp only [if_true]
    rw [hd]
    simp only [List.map_cons, List.sum_cons]
    omega
theorem zip_set : ∀ {th : List TS} {ll : List (List Plan)} {t : Nat} {x y : TS} {l : List Plan}, th[t]? = some x → ll[t]? = some l → y.rem l + 1 = x.rem l → (List.zipWith TS.rem (th.set t y) ll).sum + 1 = (List.zipWith TS.rem th ll).sum
  | [], ll, t, x, y, l, h, _, _ => by simp at h
  | a :: th, [], t, x, y, l, _, h, _ => by simp at h
  | a :: th, b :: ll, 0, x, y, l, h1, h2, h3 => by
    have h1 : a = x := by simpa using h1
    have h2 : b = l := by simpa using h2
    subst h1 h2
    simp only [List.set_cons_zero, List.zipWith_cons_cons, List.sum_cons]
    omega
  | a :: th, b :: ll, t + 1, x, y, l, h1, h2, h3 => by
    have := zip_set (th := th) (ll := ll) (t := t) (x := x) (y := y) (l := l) (by simpa using h1) (by simpa using h2) h3
    simp only [List.set_cons_succ, List.zipWith_cons_cons, List.sum_cons]
    omega
theorem left_go (ok : s.Ok ll) (hat : s.at? ll t = some (x, p)) : (s.go t x p).left ll + 1 = s.left ll := by
  obtain ⟨hx, l, hl, hp⟩ := at_some hat
  exact zip_set hx hl (rem_next (ok.th t x l hx hl) hp _)
theorem idle_false {t : Int} (h : s.idle ll t = false) : ∃ (k : Nat) (x : TS) (p : Plan), t = k ∧ s.at? ll k = some (x, p) ∧ s.one ll t = s.go k x p := by
  unfold St.idle at h
  split at h
  · rename_i h0
    obtain ⟨k, rfl⟩ : ∃ k : Nat, t = k := ⟨t.toNat, by omega⟩
    simp only [Int.toNat_natCast] at h
    cases hq : s.at? ll k with
    | none => rw [hq] at h; cases h
    | some y =>
      refine ⟨k, y.1, y.2, rfl, hq, ?_⟩
      unfold St.one
      rw [if_pos h0]
      simp only [Int.toNat_natCast, hq]
  · cases h
theorem left_one (ok : s.Ok ll) {t : Int} (h : s.idle ll t = false) : (s.one ll t).left ll + 1 = s.left ll := by
  obtain ⟨k, x, p, rfl, h1, h2⟩ := idle_false h
  rw [h2]
  exact left_go ok h1
theorem idle_true {t : Int} (h : s.idle ll t = true) : s.one ll t = { s with steps := s.steps + 1 } := by
  unfold St.one
  split
  · rename_i h0
    unfold St.idle at h
    rw [if_pos h0] at h
    split
    · rename_i y z hq; rw [hq] at h; cases h
    · rfl
  · rfl
theorem one_left_le (ok : s.Ok ll) (t : Int) : (s.one ll t).left ll ≤ s.left ll := by
  cases h : s.idle ll t
  · have := left_one ok h; omega
  · rw [idle_true h]; exact Nat.le_refl _
end
/-- in turn to the end -/
abbrev rfin (ll : List (List Plan)) (most : Int) := fin (fun s (t : Nat) => St.idle ll s (t : Int)) (fun s (t : Nat) => St.one ll s (t : Int)) (fun s => St.done ll s) ll.length most
section
variable {σ : Type} {idl idl' : σ → Nat → Bool} {nxt : σ → Nat → σ} {done done' : σ → Bool} {len : Nat} {most : Int} {P : σ → Prop}
theorem sweep_congr (h1 : ∀ s t, P s → t < len → idl s t = idl' s t) (h2 : ∀ s t, P s → t < len → idl s t = false → P (nxt s t)) : ∀ (m t n : Nat) (s : σ), P s → t + m ≤ len → sweep idl nxt most m t n s = sweep idl' nxt most m t n s ∧ P (sweep idl nxt most m t n s).2.2
  | 0, t, n, s, hs, _ => ⟨rfl, hs⟩
  | m + 1, t, n, s, hs, ht => by
    simp only [sweep]
    rw [← h1 s t hs (by omega)]
    cases hi : idl s t
    · simp only [Bool.false_eq_true, if_false]
      split
      · exact ⟨rfl, hs⟩
      · exact sweep_congr h1 h2 m (t + 1) (n + 1) _ (h2 s t hs (by omega) hi) (by omega)
    · simp only [if_true]
      exact sweep_congr h1 h2 m (t + 1) n s hs (by omega)
theorem fin_congr (h1 : ∀ s t, P s → t < len → idl s t = idl' s t) (h2 : ∀ s t, P s → t < len → idl s t = false → P (nxt s t)) (h3 : ∀ s, P s → done s = done' s) : ∀ (f n : Nat) (s : σ), P s → fin idl nxt done len most f n s = fin idl' nxt done' len most f n s
  | 0, n, s, _ => rfl
  | f + 1, n, s, hs => by
    obtain ⟨e1, e2⟩ := sweep_congr (most := most) h1 h2 len 0 n s hs (by omega)
    simp only [fin]
    rw [← h3 s hs, ← e1]
    split
    · rfl
    · generalize sweep idl nxt most len 0 n s = r at e2
      obtain ⟨b, n', s'⟩ := r
      cases b
      · rfl
      · exact fin_congr h1 h2 h3 f n' s' e2
theorem fin_mono : ∀ (f n : Nat) (s : σ) (r : Bool × σ), fin idl nxt done len most f n s = some r → fin idl nxt done len most (f + 1) n s = some r
  | 0, n, s, r, h => by cases h
  | f + 1, n, s, r, h => by
    simp only [fin] at h ⊢
    split at h
    · rename_i hd; rw [if_pos hd]; exact h
    · rename_i hd
      rw [if_neg hd]
      generalize sweep idl nxt most len 0 n s = q at h ⊢
      obtain ⟨b, n', s'⟩ := q
      cases b
      · exact h
      · have := fin_mono f n' s' r h
        simpa only [fin] using this
theorem fin_mono' (f g n : Nat) (s : σ) (r : Bool × σ) (h : fin idl nxt done len most f n s = some r) : fin idl nxt done len most (f + g) n s = some r := by
  induction g with
  | zero => exact h
  | succ g ih => exact fin_mono _ _ _ _ ih
theorem fin_one {f g n : Nat} {s : σ} {r r' : Bool × σ} (h : fin idl nxt done len most f n s = some r) (h' : fin idl nxt done len most g n s = some r') : r = r' := by
  have a := fin_mono' f g n s r h
  have b := fin_mono' g f n s r' h'
  rw [Nat.add_comm] at b
  rw [a] at b
  injection b
end
end Go.Proofs.Ytkaplifhaafpdaa

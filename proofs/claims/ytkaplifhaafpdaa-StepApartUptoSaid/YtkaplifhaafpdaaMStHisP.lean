/-
  As many picks as are left finish all; one less does not. No condition.
-/
import Derived.Test.YtkaplifhaafpdaaMStHis
namespace Go.Proofs.Ytkaplifhaafpdaa
open Go Go.RowKit
set_option linter.unusedSimpArgs false
set_option linter.unusedVariables false
section
variable {σ : Type} {idl : σ → Nat → Bool} {nxt : σ → Nat → σ} {done : σ → Bool} {len : Nat} {most : Int} {P : σ → Prop} {lft : σ → Nat}
/-- what a sweep leaves: what was picked is no longer left, and no more than so many were -/
theorem sweep_count (h2 : ∀ s t, P s → idl s t = false → P (nxt s t)) (hl : ∀ s t, P s → idl s t = false → lft (nxt s t) + 1 = lft s) : ∀ (m t n : Nat) (s : σ), P s → (n = 0 ∨ (n : Int) ≤ most) →
    let r := sweep idl nxt most m t n s
    r.2.1 + lft r.2.2 = n + lft s ∧ n ≤ r.2.1 ∧ (r.2.1 = 0 ∨ (r.2.1 : Int) ≤ most) ∧ (r.1 = false → most ≤ r.2.1 ∧ 1 ≤ lft r.2.2)
  | 0, t, n, s, _, hn => ⟨rfl, Nat.le_refl _, hn, fun e => by cases e⟩
  | m + 1, t, n, s, hs, hn => by
    simp only [sweep]
    cases hi : idl s t
    · simp only [Bool.false_eq_true, if_false]
      have h1 := hl s t hs hi
      split
      · rename_i hm
        exact ⟨rfl, Nat.le_refl _, hn, fun _ => ⟨hm, by show 1 ≤ lft s; omega⟩⟩
      · rename_i hm
        have := sweep_count h2 hl m (t + 1) (n + 1) _ (h2 s t hs hi) (.inr (by omega))
        simp only at this ⊢
        obtain ⟨a, a', b, c⟩ := this
        exact ⟨by omega, by omega, b, c⟩
    · simp only [if_true]
      exact sweep_count h2 hl m (t + 1) n s hs hn
theorem fin_count (h2 : ∀ s t, P s → idl s t = false → P (nxt s t)) (hl : ∀ s t, P s → idl s t = false → lft (nxt s t) + 1 = lft s) (hd : ∀ s, P s → done s = true → lft s = 0) : ∀ (f n : Nat) (s : σ) (r : Bool × σ), P s → (n = 0 ∨ (n : Int) ≤ most) → fin idl nxt done len most f n s = some r →
    lft r.2 ≤ lft s ∧ (r.1 = true → done r.2 = true ∧ (n + lft s = 0 ∨ ((n + lft s : Nat) : Int) ≤ most)) ∧ (r.1 = false → most < ((n + lft s : Nat) : Int))
  | 0, n, s, _, _, _, h => by cases h
  | f + 1, n, s, r, hs, hn, h => by
    simp only [fin] at h
    have h3 := sweep_keep (most := most) h2 len 0 n s hs
    have h4 := sweep_count (most := most) h2 hl len 0 n s hs hn
    split at h
    · rename_i hdn
      injection h with h
      subst h
      have h5 := hd s hs hdn
      exact ⟨Nat.le_refl _, fun _ => ⟨hdn, by rw [h5]; simpa using hn⟩, fun e => by cases e⟩
    · generalize sweep idl nxt most len 0 n s = q at h h3 h4
      obtain ⟨b, n', s'⟩ := q
      simp only at h4 h3
      obtain ⟨a1, a0, a2, a3⟩ := h4
      cases b
      · injection h with h
        subst h
        obtain ⟨c1, c2⟩ := a3 rfl
        exact ⟨by show lft s' ≤ lft s; omega, fun e => (by cases e), fun _ => by omega⟩
      · obtain ⟨d1, d2, d3⟩ := fin_count h2 hl hd f n' s' r h3 a2 h
        rw [a1] at d2 d3
        exact ⟨by omega, d2, d3⟩
end
section
variable {ll : List (List Plan)} {s s' : St} {most : Int} {f : Nat} {b : Bool}
theorem done_left (ok : s.Ok ll) (h : s.done ll = true) : s.left ll = 0 ∧ s.pending = [] := by
  have hat : ∀ (t : Nat) x l, s.th[t]? = some x → ll[t]? = some l → x.call = l.length ∧ x.at_ = 0 := by
    intro t x l hx hl
    unfold St.done at h
    rw [List.all_eq_true] at h
    have h1 := h t (List.mem_range.2 (List.getElem?_eq_some_iff.1 hl).1)
    unfold St.idle at h1
    rw [if_pos (by omega)] at h1
    simp only [Int.toNat_natCast] at h1
    unfold St.at? at h1
    rw [hx, hl] at h1
    have hok := ok.th t x l hx hl
    have hc : x.call = l.length := by
      have := hok.cl
      dsimp only at h1
      rcases Nat.lt_or_ge x.call l.length with h2 | h2
      · rw [List.getElem?_eq_getElem h2] at h1
        simp at h1
      · omega
    exact ⟨hc, hok.end_ hc⟩
  constructor
  · have : ∀ (th : List TS) (ll : List (List Plan)), (∀ (t : Nat) x l, th[t]? = some x → ll[t]? = some l → x.call = l.length ∧ x.at_ = 0) → (List.zipWith TS.rem th ll).sum = 0 := by
      intro th
      induction th with
      | nil => intro ll _; simp
      | cons x th ih =>
        intro ll h
        cases ll with
        | nil => simp
        | cons l ll =>
          obtain ⟨h1, h2⟩ := h 0 x l rfl rfl
          have := ih ll (fun t x l a b => h (t + 1) x l (by simpa using a) (by simpa using b))
          simp only [List.zipWith_cons_cons, List.sum_cons, this]
          unfold TS.rem
          rw [h1, List.drop_length]
          simp
    exact this _ _ hat
  · have : ∀ (th : List TS) (n : Nat), (∀ x ∈ th, x.at_ = 0) → pend n th = [] := by
      intro th
      induction th with
      | nil => intro n _; rfl
      | cons x th ih =>
        intro n h
        unfold pend
        rw [if_pos (h x (by simp)), ih (n + 1) (fun y hy => h y (by simp [hy]))]
        rfl
    refine this _ _ (fun x hx => ?_)
    obtain ⟨t, ht⟩ := List.getElem?_of_mem hx
    obtain ⟨l, hl⟩ : ∃ l, ll[t]? = some l := ⟨_, List.getElem?_eq_getElem (by rw [← ok.tl]; exact (List.getElem?_eq_some_iff.1 ht).1)⟩
    exact (hat t x l ht hl).2
theorem rfin_count (h : s.Fine ll) (hf : rfin ll most f 0 s = some (b, s')) : s'.left ll ≤ s.left ll ∧ (b = true → s'.done ll = true ∧ (s.left ll = 0 ∨ (s.left ll : Int) ≤ most)) ∧ (b = false → most < (s.left ll : Int)) := by
  have := fin_count (P := fun s => s.Ok ll ∧ s.steps + s.left ll ≤ 40000000) (lft := fun s => s.left ll) (fun s t ⟨hs, hb⟩ hi => ⟨hs.one _ (by omega), by have := left_one hs hi; show (s.one ll (t : Int)).steps + _ ≤ _; rw [one_steps]; omega⟩) (fun s t ⟨hs, _⟩ hi => left_one hs hi) (fun s ⟨hs, _⟩ hd => (done_left hs hd).1) f 0 s (b, s') ⟨h.1, h.2.2⟩ (.inl rfl) hf
  simpa using this
theorem start_left_eq (ll : List (List Plan)) (A : Mem) : (St.start ll A).left ll = (ll.map fun l => (l.map Plan.cost).sum).sum := by
  have : ∀ ll : List (List Plan), (List.zipWith TS.rem (ll.map fun l => (⟨0, 0, List.replicate l.length []⟩ : TS)) ll).sum = (ll.map fun l => (l.map Plan.cost).sum).sum := by
    intro ll
    induction ll with
    | nil => rfl
    | cons l ll ih =>
      simp only [List.map_cons, List.zipWith_cons_cons, List.sum_cons, ih]
      rfl
  exact this ll
end
end Go.Proofs.Ytkaplifhaafpdaa

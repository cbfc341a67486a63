/-
  A row of the law's procs, as it is made. No condition.
-/
import Derived.Test.YtkaplifhaafpdaaMAnAlone
import Derived.Test.YtkaplifhaafpdaaMAnProcW
namespace Go.Proofs.Ytkaplifhaafpdaa
open Go Go.RowKit
set_option linter.unusedSimpArgs false
set_option linter.unusedVariables false
section
variable {W w0 w1 w w' : World} {F S : Nat → Prop} {rp bm v : Nat} {l : List Plan} {lay : List (Option Nat)} {av mv sv : Value} {rs ms : List Value} {A : Mem}
theorem y4_lt {t k pb : Nat} (h : layAt (y4 lay) t k = some (some pb)) : t = 3 ∧ lay[k]? = some (some pb) := by
  unfold layAt y4 at h
  match t, h with
  | 0, h => simp at h
  | 1, h => simp at h
  | 2, h => simp at h
  | 3, h => exact ⟨rfl, by simpa using h⟩
  | t + 4, h => simp at h
theorem lay4 (h : LayOK [l] [lay]) : LayOK (l4 l) (y4 lay) := by
  refine ⟨rfl, fun t la m h1 h2 => ?_, fun t k la m p h1 h2 h3 => ?_, fun t k t' k' pb h1 h2 => ?_⟩
  · match t with
    | 0 => simp [l4, y4] at h1 h2; subst h1; subst h2; rfl
    | 1 => simp [l4, y4] at h1 h2; subst h1; subst h2; rfl
    | 2 => simp [l4, y4] at h1 h2; subst h1; subst h2; rfl
    | 3 => simp [l4, y4] at h1 h2; subst h1; subst h2; exact h.len 0 lay l rfl rfl
    | t + 4 => simp [l4] at h2
  · match t with
    | 0 => simp [l4] at h2; subst h2; simp at h3
    | 1 => simp [l4] at h2; subst h2; simp at h3
    | 2 => simp [l4] at h2; subst h2; simp at h3
    | 3 => simp [l4, y4] at h1 h2; subst h1; subst h2; exact h.no 0 k lay l p rfl rfl h3
    | t + 4 => simp [l4] at h2
  · obtain ⟨e1, q1⟩ := y4_lt h1
    obtain ⟨e2, q2⟩ := y4_lt h2
    exact ⟨e1.trans e2.symm, (h.inj 0 k 0 k' pb q1 q2).2⟩
theorem start3 (l : List Plan) (A : Mem) : (St.start (l4 l) A).th[3]? = some ⟨0, 0, List.replicate l.length []⟩ := rfl
/-- the row, the procs, the view, as they are made -/
theorem AG.start (hO : OutP W w0 w1 [l] [lay] av mv rs ms) (hk : AnOK l lay) (hf : Fr S w1 w) (hS : ∀ k cs, Blk w1 k 69 cs → ¬ S k) (hM : PM w F bm A) (hF : ∀ k, F k → W.heap.size ≤ k ∧ k < w0.heap.size) (hb : Below W.heap.size W w) (hW : W.heap.size ≤ w0.heap.size)
    (hv : VW w v bm 3 0) (hv2 : w1.heap.size ≤ v) (hr : Blk w rp 143 #[sv]) (hr2 : w1.heap.size ≤ rp) (hs : w.ownsRow w1.heap.size 80 1 sv lay.length (lay.map pval)) :
    AG W w (fun k => ((k = rp ∨ sv.ownBlock = some k) ∨ (k < W.heap.size ∨ F k ∨ k = v ∨ ∃ j : Nat, lay[j]? = some (some k))) ∧ W.heap.size ≤ k) rp bm v l lay (St.start (l4 l) A) := by
  have hs01 := hO.bel.size
  have hsz := hf.size
  have pos : ∀ (j pb : Nat), lay[j]? = some (some pb) → w0.heap.size ≤ pb ∧ pb < w1.heap.size ∧ ∃ p lv, l[j]? = some p ∧ p.none = false ∧ DosAt W lv p.l ∧ Blk w1 pb 69 #[lv, .int .i64 0, .slice none 0 0] := by
    intro j pb h
    obtain ⟨l', r, m, a, _, _, _, _, _, e3⟩ := hO.row 0 lay rfl
    have a : l = l' := by simpa using a
    subst a
    obtain ⟨x, q1, lv, q2, q3, q4, q5⟩ := e3.pr j pb h
    exact ⟨q5, q4.lt, x, lv, q1, q2, q3, q4⟩
  have hrv : rp ≠ v := fun e => Blk.ne hr (e ▸ hv) (by decide) rfl
  have hsv : ∀ k, sv.ownBlock = some k → w1.heap.size ≤ k ∧ k < w.heap.size ∧ k ≠ v ∧ k ≠ rp := fun k hk => by
    obtain ⟨cs, hb2⟩ := bk_blk hs hk
    exact ⟨own_ge hs hk, hb2.lt, fun e => Blk.ne hb2 (e ▸ hv) (by decide) rfl, fun e => Blk.ne hb2 (e ▸ hr) (by decide) rfl⟩
  have hEn : ∀ k, w1.heap.size ≤ k → k ≠ v → ¬ (k < W.heap.size ∨ F k ∨ k = v ∨ ∃ j : Nat, lay[j]? = some (some k)) := by
    rintro k hk hkv (e | e | e | ⟨j, e⟩)
    · omega
    · have := (hF k e).2; omega
    · exact hkv e
    · have := (pos j k e).2.1; omega
  refine ⟨fun k => k = rp ∨ sv.ownBlock = some k, fun k => k < W.heap.size ∨ F k ∨ k = v ∨ ∃ j : Nat, lay[j]? = some (some k), sv, ⟨⟨F, fun _ => .slice none 0 0, hM, fun k hk => .inr (.inl hk), fun t v' hvt => ?_, fun t k pb x l' p h1 h2 h3 h4 => ?_, fun _ _ _ _ _ _ g _ _ h => (by cases h), fun k hk => ?_, fun k hk => .inl hk, fun k hk => (hF k hk).1, fun t k pb h => ⟨?_, fun g hg => (by cases hg)⟩, by omega, hb⟩, hr, fun x hx hc => ?_, fun x hx hc => ?_, .inl rfl, fun k hk => ?_⟩, fun _ => Iff.rfl⟩
  · obtain ⟨rfl, rfl⟩ := hvt
    exact ⟨⟨0, hv, Int.le_refl _, Int.le_refl _⟩, fun e => by have := (hF _ e).2; omega, .inr (.inr (.inl rfl))⟩
  · obtain ⟨rfl, q⟩ := y4_lt h1
    rw [start3] at h2
    injection h2 with h2
    subst h2
    have h3 : l = l' := by simpa [l4] using h3
    subst h3
    obtain ⟨q1, q2, p', lv, q3, q4, q5, q6⟩ := pos k pb q
    rw [h4] at q3; injection q3 with q3; subst q3
    have htk : (⟨0, 0, List.replicate l.length []⟩ : TS).took k p = 0 := by unfold TS.took; simp
    have hgt : (⟨0, 0, List.replicate l.length []⟩ : TS).got.getD k [] = [] := by
      simp only [List.getD_eq_getElem?_getD, List.getElem?_replicate]
      split <;> rfl
    rw [htk, hgt]
    refine ⟨⟨lv, q6.fr hf (hS _ _ q6), q5⟩, World.ownsRow_nil _ _ _ _, fun e => by have := (hF _ e).2; omega, .inr (.inr (.inr ⟨k, q⟩)), fun g hg => by cases hg⟩
  · rcases hk with e | e | e | ⟨j, e⟩
    · have := hb.size; omega
    · have := (hF k e).2; omega
    · subst e; exact Blk.lt hv
    · have := (pos j k e).2.1; omega
  · obtain ⟨-, q⟩ := y4_lt h
    have := (pos k pb q).1; omega
  · rw [start3] at hx
    injection hx with hx
    subst hx
    obtain ⟨g, cap, rfl, _, _⟩ := bk_form1 hs (by rw [hk.len]; exact hc)
    refine ⟨g, cap, by rw [hk.len]; rfl, ?_, fun j y hj => ?_, .inr rfl, (hsv g rfl).2.2.2⟩
    · rcases id hs.2 with ⟨h1, h0⟩ | ⟨g', cap', cur, h1, _, _, h4, _⟩
      · cases h1
      · injection h1 with _ _ h1
        rw [h1, ← hk.len]; exact h4
    · exact own_cell hs (by rw [List.getElem?_map, hj]; rfl)
  · rw [start3] at hx
    injection hx with hx
    subst hx
    obtain ⟨p, c, rfl⟩ := bk_form hs
    have hc : 0 = l.length := hc
    rw [hk.len, ← hc]
    exact ⟨p, c, rfl⟩
  · rcases hk with rfl | hk
    · exact ⟨hEn _ hr2 hrv, by omega, hr.lt⟩
    · have := hsv k hk
      exact ⟨hEn _ this.1 this.2.2.1, by omega, this.2.1⟩
end
end Go.Proofs.Ytkaplifhaafpdaa

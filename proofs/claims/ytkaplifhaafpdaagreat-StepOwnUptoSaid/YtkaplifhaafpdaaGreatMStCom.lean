/-
  Both runners at one state: what each law's walk takes along. No condition.
-/
import Derived.Test.YtkaplifhaafpdaaGreatM30
import Derived.Test.YtkaplifhaafpdaaGreatM22
namespace Go.Proofs.YtkaplifhaafpdaaGreat
open Go Go.RowKit
set_option linter.unusedSimpArgs false
set_option linter.unusedVariables false
theorem wt_len {α : Type} (f : α → Nat) (h : ∀ x, 1 ≤ f x) : ∀ (l : List α), l.length ≤ (l.map f).sum
  | [] => Nat.zero_le _
  | x :: l => by have := wt_len f h l; have := h x; simp only [List.map_cons, List.sum_cons, List.length_cons]; omega
theorem wt_mem {α : Type} (f : α → Nat) : ∀ (l : List α) x, x ∈ l → f x ≤ (l.map f).sum
  | [], x, h => by simp at h
  | y :: l, x, h => by
    simp only [List.map_cons, List.sum_cons]
    rcases List.mem_cons.1 h with e | e
    · subst e; omega
    · have := wt_mem f l x e; omega
theorem fits_of {ll : List (List Plan)} (h : tooMany ll = false) (hw : plansWt ll ≤ 1048576) (hf : ∀ l ∈ ll, ∀ y ∈ l, ∀ d ∈ y.l, d.fits) : Fits ll := by
  unfold tooMany at h
  rw [Bool.or_eq_false_iff] at h
  obtain ⟨h1, h2⟩ := h
  have h1 := of_decide_eq_false h1
  rw [List.any_eq_false] at h2
  refine ⟨by omega, fun l hl => ?_, fun l hl x hx => ?_⟩
  · have := h2 l hl
    simp at this
    exact this
  · have w1 : planWt l ≤ _ := wt_mem planWt ll l hl
    have w2 : x.wt ≤ _ := wt_mem Plan.wt l x hx
    have w3 := wt_len (fun d : Do => 1 + d.vals.length) (fun _ => by omega) x.l
    have e1 : plansWt ll = 1 + (ll.map planWt).sum := rfl
    have e2 : planWt l = 1 + (l.map Plan.wt).sum := rfl
    have e3 : x.wt = 1 + (x.l.map fun d => 1 + d.vals.length).sum := rfl
    refine ⟨by omega, fun d hd => ⟨hf l hl x hx d hd, ?_⟩⟩
    have w4 : 1 + d.vals.length ≤ _ := wt_mem (fun d : Do => 1 + d.vals.length) x.l d hd
    omega
theorem plans_len {ll : List (List Plan)} (hw : plansWt ll ≤ 1048576) : ll.length ≤ 1048576 ∧ ∀ l ∈ ll, l.length ≤ 1048576 := by
  have e1 : plansWt ll = 1 + (ll.map planWt).sum := rfl
  refine ⟨?_, fun l hl => ?_⟩
  · have := wt_len planWt (fun l => by unfold planWt; omega) ll
    omega
  · have w1 : planWt l ≤ _ := wt_mem planWt ll l hl
    have e2 : planWt l = 1 + (l.map Plan.wt).sum := rfl
    have := wt_len Plan.wt (fun l => by unfold Plan.wt; omega) l
    omega
/-- both, at a state each -/
def Twin (W : World) (ll : List (List Plan)) (wd q : Nat) (L : Lay) (s1 s2 : St) (w : World) : Prop := ∃ U, Duo W ll wd q L s1 s2 w U
/-- a state from which all may be asked -/
def St.Good (ll : List (List Plan)) (s : St) : Prop := s.TrOK ∧ s.NilOK ll
section
variable {W w w' w1 : World} {ll : List (List Plan)} {wd q : Nat} {L : Lay} {s s1 s2 : St}
theorem BothX.twin (h : BothX W w w' ll wd q s) (hW : W.heap.size ≤ w.heap.size) : ∃ L, Twin W ll wd q L s s w' ∧ Below w.heap.size w w' := by
  obtain ⟨L, U, _, hd, _, hb⟩ := h.duo hW
  exact ⟨L, ⟨U, hd⟩, hb⟩
theorem Twin.bl (h : Twin W ll wd q L s1 s2 w) (hb : Below w.heap.size w w') : Twin W ll wd q L s1 s2 w' := let ⟨U, h⟩ := h; ⟨U, h.bl hb⟩
theorem Twin.drew (h : Twin W ll wd q L s1 s2 w) : Twin W ll wd q L s1 s2 w.drew := let ⟨U, h⟩ := h; ⟨U, h.drawn 1⟩
theorem Twin.bel (h : Twin W ll wd q L s1 s2 w) : Below W.heap.size W w := let ⟨U, h⟩ := h; h.bel
theorem Twin.cell1 (h : Twin W ll wd q L s1 s2 w) : w.cell? ⟨wd, 0, none⟩ = some (.pointer (some ⟨L.bm, 0, none⟩)) ∧ w.cell? ⟨wd, 1, none⟩ = some (.pointer (some ⟨L.rp, 0, none⟩)) := by
  obtain ⟨U, h⟩ := h
  obtain ⟨Z, mv, ms, hb, _⟩ := h.wx
  exact ⟨hb.cell 0, hb.cell 1⟩
theorem Twin.pickP (h : Twin W ll wd q L s1 s2 w) (hn : Fits ll) (hs : s1.steps ≤ 40000000) (t : Int) : Calls Tryz.prog 6 #[.pointer (some ⟨L.rp, 0, none⟩), .int .i64 t] w fun e w' => e = .returned (.bool (!s1.idle ll t)) ∧ Twin W ll wd q L (s1.one ll t) s2 w' := by
  obtain ⟨U, h⟩ := h
  refine (h.pickP hn hs t).mono ?_
  rintro e w' ⟨rfl, U', h', _⟩
  exact ⟨rfl, U', h'⟩
theorem Twin.pickZ (h : Twin W ll wd q L s1 s2 w) (hn : Fits ll) (hs : s2.steps ≤ 40000000) (t : Int) : Calls Tryz.prog 7 #[.pointer (some ⟨q, 0, none⟩), .int .i64 t] w fun e w' => e = .returned (.bool (!s2.idle ll t)) ∧ Twin W ll wd q L s1 (s2.one ll t) w' := by
  obtain ⟨U, h⟩ := h
  refine (h.pickZ hn hs t).mono ?_
  rintro e w' ⟨rfl, U', h', _⟩
  exact ⟨rfl, U', h'⟩
theorem Twin.alike (h : Twin W ll wd q L s s w) (hn : Fits ll) (hs : s.steps ≤ 40000000) (hg : s.Good ll) : Calls Tryz.prog 14 #[.pointer (some ⟨wd, 0, none⟩), .pointer (some ⟨q, 0, none⟩)] w fun e w' => e = .returned (.bool true) ∧ Twin W ll wd q L s s w' := by
  obtain ⟨U, h⟩ := h
  refine (alike_any h hn hs hg.1 hg.2).mono ?_
  rintro e w' ⟨rfl, hb⟩
  exact ⟨rfl, U, h.bl hb⟩
theorem Twin.oks (h : Twin W ll wd q L s1 s2 w) : s1.Ok ll ∧ s2.Ok ll := let ⟨_, h⟩ := h; ⟨h.oks.2.1, h.oks.2.2⟩
theorem St.Good.one (h : s.Good ll) (hn : Fits ll) (ok : s.Ok ll) (t : Int) : (s.one ll t).Good ll := ⟨TrOK.one h.1 hn t, NilOK.one h.2 ok t⟩
theorem start_good (ll : List (List Plan)) : (St.start ll mem0).Good ll := ⟨start_tr ll, start_nil ll mem0⟩
end
end Go.Proofs.YtkaplifhaafpdaaGreat

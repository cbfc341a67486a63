/-
  The document's walk beside a row alone: the plain law. No condition.
-/
import Derived.Test.YtkaplifhaafpdaaMAnAlone
namespace Go.Proofs.Ytkaplifhaafpdaa
open Go Go.RowKit
set_option linter.unusedSimpArgs false
set_option linter.unusedVariables false
/-- what the i-th was told -/
def gotOf (s : St) (i : Nat) : List Int := match s.th[3]? with | some x => x.got.getD i [] | none => []
/-- where it begins -/
structure Bgn (l : List Plan) (s : St) : Prop where
  ok : s.Ok (l4 l)
  h0 : s.steps = 0
  hs : ∃ x, s.th[3]? = some x ∧ x.call = 0 ∧ x.at_ = 0
  wt : planWt l ≤ 1048576
/-- the document behind c steps -/
structure DocAt (l : List Plan) (s : St) (M c : Nat) (lf : Int) (B : Mem) : Prop where
  pos : 0 < lf → (c : Int) + lf = M
  non : lf ≤ 0 → M ≤ c
  mem : B = (run3 l s (min c M)).A
/-- where the run ends -/
structure Fin3 (l : List Plan) (M m : Nat) : Prop where
  le : m ≤ 2000000
  or : (cum l l.length ≤ m ∧ m ≤ M) ∨ m = M
def Mem.act (B : Mem) (o : Option Do) : Mem := match o with | some d => B.make 3 d | none => B
def Mem.said (B : Mem) (o : Option Do) : List Int := match o with | some d => if d.real then [B.tell d] else [] | none => []
section
variable {l : List Plan} {s t : St} {M m c k i a : Nat} {lf most : Int} {B : Mem} {x : TS} {p : Plan} {d : Bool}
theorem At.here (h : At l t k) (hp : l[i]? = some p) (ha : a < p.cost) (hk : k = cum l i + a) : ∃ x, t.th[3]? = some x ∧ x.Ok l ∧ x.call = i ∧ x.at_ = a := by
  obtain ⟨x, hx, hok, h1, h2⟩ := h
  have hi := (List.getElem?_eq_some_iff.1 hp).1
  have h3 := cum_succ hp
  have h4 : cum l (i + 1) ≤ cum l l.length := cum_le hi
  have hc : x.call < l.length := by
    rcases Nat.lt_or_ge x.call l.length with h | h
    · exact h
    · have := h2 (Nat.le_antisymm hok.cl h); omega
  obtain ⟨p', hp'⟩ : ∃ p', l[x.call]? = some p' := ⟨_, List.getElem?_eq_getElem hc⟩
  have h5 := at_lt hok hp'
  have h6 := cum_succ hp'
  have h7 := h1 hc
  have e : x.call = i := by
    rcases Nat.lt_trichotomy x.call i with h | h | h
    · have : cum l (x.call + 1) ≤ cum l i := cum_le h
      omega
    · exact h
    · have : cum l (i + 1) ≤ cum l x.call := cum_le h
      omega
  exact ⟨x, hx, hok, e, by rw [e] at h7; omega⟩
theorem At.last (h : At l t k) (hk : cum l l.length ≤ k) : ∃ x, t.th[3]? = some x ∧ x.Ok l ∧ x.call = l.length := by
  obtain ⟨x, hx, hok, h1, h2⟩ := h
  refine ⟨x, hx, hok, ?_⟩
  rcases Nat.lt_or_ge x.call l.length with hc | hc
  · obtain ⟨p', hp'⟩ : ∃ p', l[x.call]? = some p' := ⟨_, List.getElem?_eq_getElem hc⟩
    have h5 := at_lt hok hp'
    have h6 := cum_succ hp'
    have h7 := h1 hc
    have : cum l (x.call + 1) ≤ cum l l.length := cum_le hc
    omega
  · exact Nat.le_antisymm hok.cl hc
theorem At.past (h : At l t k) (hi : i < l.length) (hk : cum l (i + 1) ≤ k) : ∃ x, t.th[3]? = some x ∧ x.Ok l ∧ i < x.call := by
  obtain ⟨x, hx, hok, h1, h2⟩ := h
  refine ⟨x, hx, hok, ?_⟩
  rcases Nat.lt_or_ge x.call l.length with hc | hc
  · obtain ⟨p', hp'⟩ : ∃ p', l[x.call]? = some p' := ⟨_, List.getElem?_eq_getElem hc⟩
    have h5 := at_lt hok hp'
    have h6 := cum_succ hp'
    have h7 := h1 hc
    rcases Nat.lt_or_ge i x.call with h | h
    · exact h
    · have : cum l (x.call + 1) ≤ cum l (i + 1) := cum_le (by omega)
      omega
  · omega
theorem At.none (h : At l t k) (hi : i < l.length) (hk : k ≤ cum l i) : gotOf t i = [] := by
  obtain ⟨x, hx, hok, h1, h2⟩ := h
  have hg : gotOf t i = x.got.getD i [] := by unfold gotOf; rw [hx]
  rw [hg]
  obtain ⟨p, hp⟩ : ∃ p, l[i]? = some p := ⟨_, List.getElem?_eq_getElem hi⟩
  have h3 := cum_succ hp
  have h4 := cost_pos p
  have h5 : cum l (i + 1) ≤ cum l l.length := cum_le hi
  rcases Nat.lt_trichotomy x.call i with h | h | h
  · exact hok.no i h
  · have h7 := h1 (by omega)
    rw [← h]
    exact hok.no0 (by rw [h] at h7; omega)
  · rcases Nat.lt_or_ge x.call l.length with hc | hc
    · have h7 := h1 hc
      have : cum l (i + 1) ≤ cum l x.call := cum_le h
      omega
    · have := h2 (Nat.le_antisymm hok.cl hc)
      omega
theorem Bgn.at (h : Bgn l s) (hk : k ≤ 40000000) : At l (run3 l s k) k := run_at h.ok h.h0 h.hs k hk
theorem Bgn.cu (h : Bgn l s) (i : Nat) : cum l i ≤ 1048576 := by have := cum_wt (l := l) i; have := h.wt; omega
theorem mem_act (s : St) (o : Option Do) : s.mem 3 o = s.A.act o := rfl
theorem says_said (s : St) (o : Option Do) : s.says o = s.A.said o := rfl
theorem DocAt.start (M : Nat) : DocAt l s M (cum l 0) M s.A := ⟨fun _ => by simp [cum], fun h => by omega, by simp [cum, run3]⟩
theorem run_next (hB : Bgn l s) (hp : l[i]? = some p) (ha : a < p.cost) : (run3 l s (cum l i + (a + 1))).A = (run3 l s (cum l i + a)).A.act (p.act a) ∧ gotOf (run3 l s (cum l i + (a + 1))) i = gotOf (run3 l s (cum l i + a)) i ++ (run3 l s (cum l i + a)).A.said (p.act a) := by
  have hi := (List.getElem?_eq_some_iff.1 hp).1
  have h3 := cum_succ hp
  have h4 := hB.cu (i + 1)
  obtain ⟨x, hx, hok, e1, e2⟩ := (hB.at (k := cum l i + a) (by omega)).here hp ha rfl
  have hp' : l[x.call]? = some p := by rw [e1]; exact hp
  have e : run3 l s (cum l i + (a + 1)) = (run3 l s (cum l i + a)).go 3 x p := one_go hx hp'
  rw [e]
  refine ⟨by rw [← e2]; rfl, ?_⟩
  have hg : gotOf (run3 l s (cum l i + a)) i = x.got.getD i [] := by unfold gotOf; rw [hx]
  rw [hg]
  unfold gotOf
  rw [go_th hx p]
  have hl : x.call < x.got.length := by rw [hok.gl, e1]; exact hi
  simp only [TS.next, e1, e2, says_said, List.getD_eq_getElem?_getD, List.getElem?_modify]
  rw [e1] at hl
  rw [List.getElem?_eq_getElem hl]
  simp
theorem DocAt.step (h : DocAt l s M (cum l i + a) lf B) (hB : Bgn l s) (hp : l[i]? = some p) (ha : a < p.cost) (hf : 0 < lf) :
    DocAt l s M (cum l i + (a + 1)) (lf - 1) (B.act (p.act a)) ∧ gotOf (run3 l s (min (cum l i + (a + 1)) M)) i = gotOf (run3 l s (min (cum l i + a) M)) i ++ B.said (p.act a) := by
  have h1 := h.pos hf
  obtain ⟨r1, r2⟩ := run_next hB hp ha
  have m1 : min (cum l i + a) M = cum l i + a := by omega
  have m2 : min (cum l i + (a + 1)) M = cum l i + (a + 1) := by omega
  have h2 := h.mem
  rw [m1] at h2
  subst h2
  refine ⟨⟨fun h => by omega, fun h => by omega, ?_⟩, ?_⟩
  · rw [m2, r1]
  · rw [m1, m2, r2]
theorem DocAt.skip (h : DocAt l s M (cum l i) lf B) (hB : Bgn l s) (hp : l[i]? = some p) (hn : p.none = true) : DocAt l s M (cum l (i + 1)) (lf - 1) B := by
  have hc : p.cost = 1 := by unfold Plan.cost; rw [hn]; rfl
  have h3 := cum_succ hp
  by_cases hf : 0 < lf
  · have h1 := (DocAt.step (a := 0) h hB hp (by omega) hf).1
    have e : B.act (p.act 0) = B := by unfold Plan.act Mem.act; rw [hn]; rfl
    rw [e] at h1
    rw [h3, hc]
    exact h1
  · have h1 := h.non (by omega)
    have h2 := h.mem
    refine ⟨fun h => by omega, fun _ => by omega, ?_⟩
    rw [h2, show min (cum l i) M = M by omega, show min (cum l (i + 1)) M = M by omega]
theorem DocAt.nogot (hB : Bgn l s) (hi : i < l.length) (M : Nat) : gotOf (run3 l s (min (cum l i) M)) i = [] := by
  have := hB.cu i
  exact (hB.at (k := min (cum l i) M) (by omega)).none hi (by omega)
theorem DocAt.close (h : DocAt l s M (cum l i + a) lf B) (hB : Bgn l s) (hp : l[i]? = some p) (ha : a ≤ p.cost) (hor : a = p.cost ∨ lf ≤ 0) (hF : Fin3 l M m) :
    DocAt l s M (cum l (i + 1)) lf B ∧ gotOf (run3 l s (min (cum l i + a) M)) i = gotOf (run3 l s m) i := by
  have hi := (List.getElem?_eq_some_iff.1 hp).1
  have h3 := cum_succ hp
  have h4 : cum l (i + 1) ≤ cum l l.length := cum_le hi
  have h5 := hB.cu l.length
  have hle := hF.le
  by_cases hf : lf ≤ 0
  · have h1 := h.non hf
    have hmM : m = M := by rcases hF.or with h | h <;> omega
    have m1 : min (cum l i + a) M = M := by omega
    have h2 := h.mem
    refine ⟨⟨fun h => by omega, fun _ => by omega, ?_⟩, by rw [m1, hmM]⟩
    rw [h2, m1, show min (cum l (i + 1)) M = M by omega]
  · obtain rfl : a = p.cost := by omega
    have h1 := h.pos (by omega)
    rw [← h3] at h h1 ⊢
    refine ⟨h, ?_⟩
    have m1 : min (cum l (i + 1)) M = cum l (i + 1) := by omega
    rw [m1]
    obtain ⟨y, hy, -, hc⟩ := (hB.at (k := cum l (i + 1)) (by omega)).past hi (Nat.le_refl _)
    have hum : cum l (i + 1) ≤ m := by rcases hF.or with h | h <;> omega
    obtain ⟨z, hz, -, e⟩ := run_got (z := y) hB.ok hB.h0 hy hc (m - cum l (i + 1)) (by omega)
    rw [show cum l (i + 1) + (m - cum l (i + 1)) = m by omega] at hz
    unfold gotOf
    rw [hy, hz]
    exact e.symm
theorem DocAt.last (h : DocAt l s M (cum l l.length) lf B) (hB : Bgn l s) (hF : Fin3 l M m) : B = (run3 l s m).A := by
  have h5 := hB.cu l.length
  have hle := hF.le
  have h2 := h.mem
  by_cases hf : lf ≤ 0
  · have h1 := h.non hf
    have hmM : m = M := by rcases hF.or with h | h <;> omega
    rw [h2, hmM, show min (cum l l.length) M = M by omega]
  · have h1 := h.pos (by omega)
    have m1 : min (cum l l.length) M = cum l l.length := by omega
    rw [m1] at h2
    obtain ⟨y, hy, -, hc⟩ := (hB.at (k := cum l l.length) (by omega)).last (Nat.le_refl _)
    have hum : cum l l.length ≤ m := by rcases hF.or with h | h <;> omega
    have e := (run_stay hy hc (m - cum l l.length)).1
    rw [show cum l l.length + (m - cum l l.length) = m by omega] at e
    rw [h2, e]
theorem left_at (h : At l t k) (hl : left3 l t = true) : cum l l.length ≤ k := by
  obtain ⟨x, hx, hok, h1, h2⟩ := h
  unfold left3 at hl
  rw [hx] at hl
  exact h2 (by simpa using hl)
theorem Ends.done (h : Ends l s most m d) (hB : Bgn l s) : d = decide (((max 1 (cum l l.length) : Nat) : Int) ≤ most) := by
  have hle := h.le
  have hat := hB.at (k := m) (by omega)
  cases d
  · obtain ⟨e, h1⟩ := h.no rfl
    symm
    rw [decide_eq_false_iff_not]
    intro hn
    have hm1 : 1 ≤ m := by omega
    obtain ⟨x, hx, -, hc⟩ := hat.last (by omega)
    have := h1 hm1
    unfold left3 at this
    rw [hx] at this
    simp [hc] at this
  · obtain ⟨h1, h2⟩ := h.yes rfl
    have h3 := left_at hat h2
    symm
    rw [decide_eq_true_iff]
    rcases h.lm with h | h <;> omega
theorem Ends.fin (h : Ends l s most m d) (hB : Bgn l s) : Fin3 l most.toNat m := by
  have hle := h.le
  have hat := hB.at (k := m) (by omega)
  refine ⟨hle, ?_⟩
  cases d
  · obtain ⟨e, h1⟩ := h.no rfl
    right; omega
  · obtain ⟨h1, h2⟩ := h.yes rfl
    have h3 := left_at hat h2
    left
    exact ⟨h3, by rcases h.lm with h | h <;> omega⟩
theorem fm_at : ∀ (lay : List (Option Nat)) (i pb : Nat), lay[i]? = some (some pb) → (lay.filterMap id)[((lay.take i).filterMap id).length]? = some pb
  | [], i, pb, h => by simp at h
  | none :: lay, 0, pb, h => by simp at h
  | some q :: lay, 0, pb, h => by simp at h; simp [h]
  | none :: lay, i + 1, pb, h => by simpa using fm_at lay i pb (by simpa using h)
  | some q :: lay, i + 1, pb, h => by simpa using fm_at lay i pb (by simpa using h)
theorem fm_next : ∀ (lay : List (Option Nat)) (i : Nat) y, lay[i]? = some y → ((lay.take (i + 1)).filterMap id).length = ((lay.take i).filterMap id).length + (if y.isSome then 1 else 0) := by
  intro lay i y h
  rw [List.take_add_one, h]
  cases y <;> simp
end
end Go.Proofs.Ytkaplifhaafpdaa

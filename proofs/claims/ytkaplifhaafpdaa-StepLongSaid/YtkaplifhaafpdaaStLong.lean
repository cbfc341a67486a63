/-
  A runner whose procs are all nil: to its end. No condition.
-/
import Derived.Test.YtkaplifhaafpdaaStLoads
import Derived.Test.YtkaplifhaafpdaaStFin
import Derived.Test.YtkaplifhaafpdaaStPNil
namespace Go.Proofs.Ytkaplifhaafpdaa
open Go Go.RowKit
set_option linter.unusedSimpArgs false
set_option linter.unusedVariables false
section
variable {σ : Type} {idl : σ → Nat → Bool} {nxt : σ → Nat → σ} {done : σ → Bool} {len : Nat} {most : Int} {left : σ → Nat} {P : σ → Prop}
theorem sweep_true (hP : ∀ s t, P s → t < len → idl s t = false → P (nxt s t) ∧ left (nxt s t) + 1 = left s) : ∀ (m t n : Nat) (s : σ), P s → t + m ≤ len → ((n + left s : Nat) : Int) ≤ most → ∃ n' s', sweep idl nxt most m t n s = (true, n', s') ∧ P s' ∧ n' + left s' = n + left s
  | 0, t, n, s, hs, _, _ => ⟨n, s, rfl, hs, rfl⟩
  | m + 1, t, n, s, hs, ht, hm => by
    cases hi : idl s t
    · obtain ⟨h1, h2⟩ := hP s t hs (by omega) hi
      obtain ⟨n', s', h3, h4, h5⟩ := sweep_true hP m (t + 1) (n + 1) (nxt s t) h1 (by omega) (by omega)
      refine ⟨n', s', ?_, h4, by omega⟩
      have hn : ¬ most ≤ (n : Int) := by omega
      simp only [sweep, hi, if_neg hn]
      exact h3
    · obtain ⟨n', s', h3, h4, h5⟩ := sweep_true hP m (t + 1) n s hs (by omega) hm
      exact ⟨n', s', by simp only [sweep, hi]; exact h3, h4, h5⟩
theorem fin_true (hP : ∀ s t, P s → t < len → idl s t = false → P (nxt s t) ∧ left (nxt s t) + 1 = left s) : ∀ (f n : Nat) (s : σ) (b : Bool) (s' : σ), P s → ((n + left s : Nat) : Int) ≤ most → fin idl nxt done len most f n s = some (b, s') → b = true ∧ P s' ∧ done s' = true
  | 0, n, s, b, s', _, _, h => by cases h
  | f + 1, n, s, b, s', hs, hm, h => by
    cases hd : done s
    · obtain ⟨n', s1, h1, h2, h3⟩ := sweep_true (most := most) hP len 0 n s hs (by omega) hm
      simp only [fin, hd, h1] at h
      exact fin_true hP f n' s1 b s' h2 (by omega) h
    · simp only [fin, hd] at h
      simp at h
      obtain ⟨rfl, rfl⟩ := h
      exact ⟨rfl, hs, hd⟩
end
theorem sum_set : ∀ (l : List Thr) (f : Thr → Nat) (i : Nat) (x y : Thr), l[i]? = some x → ((l.set i y).map f).sum + f x = (l.map f).sum + f y
  | [], f, i, x, y, h => by simp at h
  | z :: l, f, 0, x, y, h => by
    obtain rfl : z = x := by simpa using h
    simp
    omega
  | z :: l, f, i + 1, x, y, h => by
    have := sum_set l f i x y (by simpa using h)
    simp only [List.set_cons_succ, List.map_cons, List.sum_cons]
    omega
/-- a memory alone -/
def NE (w0 : World) (bm : Nat) (A : Mem) (E : Nat → Prop) (w : World) : Prop := Mine w w0.heap.size E bm A
theorem NE.ok (w0 : World) (bm : Nat) (A : Mem) : EnvOK w0 bm (NE w0 bm A) A.trace.length where
  st := fun E S w w' h hf hS => Mine.fr h hf hS
  pos := fun E w h k hk => h.2 k hk
  made := by
    rintro E w ⟨⟨q, r, tv, rows, hx⟩, _⟩
    exact Made_any hx
abbrev LSt := List Thr × Nat × List Ev
def lleft (s : LSt) : Nat := (s.1.map fun x => x.procs.length - x.pos).sum
def lnxt (s : LSt) (t : Nat) : LSt := match s.1[t]? with | some x => (pickT s.1 t x true, s.2.1 + 1, pickE s.2.2 s.2.1 t x true) | none => s
structure LGood (K n : Nat) (s : LSt) : Prop where
  len : s.1.length = n
  nil : ∀ x ∈ s.1, (∀ p ∈ x.procs, p = .nilIface) ∧ x.procs.length ≤ 4096 ∧ x.op = false
  sum : s.2.1 + lleft s = K
  evl : s.2.2.length ≤ 2 * s.2.1
theorem lpick {s : LSt} {t : Nat} {x : Thr} (hx : s.1[t]? = some x) (hi : x.pos < x.procs.length) : lleft (lnxt s t) + 1 = lleft s := by
  unfold lleft lnxt
  rw [hx]
  have := sum_set s.1 (fun x => x.procs.length - x.pos) t x { x with op := false, pos := x.pos + 1 } hx
  simp only [pickT] at this ⊢
  simp only [if_true] at this ⊢
  omega
theorem lgood {K n : Nat} {s : LSt} {t : Nat} (h : LGood K n s) (ht : t < n) (hi : idle s.1 (t : Int) = false) : LGood K n (lnxt s t) ∧ lleft (lnxt s t) + 1 = lleft s := by
  obtain ⟨x, hx⟩ : ∃ x, s.1[t]? = some x := ⟨_, List.getElem?_eq_getElem (by rw [h.len]; exact ht)⟩
  rw [idle_in hx] at hi
  have hi2 : x.pos < x.procs.length := by simpa using hi
  have hl := lpick hx hi2
  obtain ⟨h1, h2, h3⟩ := h.nil x (List.mem_of_getElem? hx)
  refine ⟨⟨?_, ?_, ?_, ?_⟩, hl⟩
  · unfold lnxt; rw [hx]; simp [pickT, h.len]
  · unfold lnxt; rw [hx]
    intro y hy
    rcases List.mem_or_eq_of_mem_set hy with hy | rfl
    · exact h.nil y hy
    · exact ⟨h1, h2, rfl⟩
  · have : (lnxt s t).2.1 = s.2.1 + 1 := by unfold lnxt; rw [hx]
    have := h.sum
    omega
  · unfold lnxt; rw [hx]
    have := h.evl
    simp [pickE, begun, h3]
    omega
section
variable {w0 w w' w1 w2 : World} {R S G F E E' U : Nat → Prop} {rp bm n K : Nat} {vws : List Nat} {T T' : List Thr} {cs : Array Value} {tv : Value} {ps : List (List Value)}
def LMach (w0 : World) (bm rp K n : Nat) (vws : List Nat) (hK : K ≤ 10000000) (hn : n ≤ 64) (hv : vws.length = n) : Mach LSt rp bm where
  I := fun s w => ∃ R E, PJ w0 w R E (NE w0 bm (Mem.made 128)) rp bm vws s.1 s.2.1 s.2.2 [] ∧ Below w0.heap.size w0 w ∧ LGood K n s
  thr := fun s => s.1
  nxt := lnxt
  left := lleft
  rx := by
    rintro s w ⟨R, E, j, _, _⟩
    obtain ⟨⟨cs, tv, ev, av, hx⟩, _⟩ := j.ro
    exact ⟨R, vws, _, _, _, cs, tv, ev, av, hx⟩
  len := by
    rintro s w ⟨R, E, j, _, g⟩
    exact ⟨by rw [g.len]; exact hn, fun x hx => by have := (g.nil x hx).2.1; omega⟩
  drawn := by
    rintro s w k ⟨R, E, j, hb, g⟩
    exact ⟨R, E, j.drawn (NE.ok _ _ _) k, hb.trans (((Fr.refl (fun _ => False) w).drawn k).to_below j.sz (fun _ _ e => e)), g⟩
  pick := by
    rintro s w t ⟨R, E, j, hb, g⟩ ht hi
    obtain ⟨x, hx⟩ : ∃ x, s.1[t]? = some x := ⟨_, List.getElem?_eq_getElem ht⟩
    have hid := hi
    rw [idle_in hx] at hi
    have hi2 : x.pos < x.procs.length := by simpa using hi
    obtain ⟨h1, h2, h3⟩ := g.nil x (List.mem_of_getElem? hx)
    obtain ⟨v, hv2⟩ : ∃ v, vws[t]? = some v := ⟨_, List.getElem?_eq_getElem (by rw [hv, ← g.len]; exact ht)⟩
    have hp : x.procs[x.pos]? = some .nilIface := by rw [List.getElem?_eq_getElem hi2, h1 _ (List.getElem_mem hi2)]
    have hs := g.sum
    have he := g.evl
    have hm : (Mem.made 128).trace.length = 0 := rfl
    refine (Pick_Nil j (NE.ok _ _ _) hx hi2 hp hv2 (by rw [g.len]; omega) (fun y hy => by have := (g.nil y hy).2.1; omega) (by omega) (by omega) (by simp) (by omega)).mono ?_
    rintro e w' ⟨rfl, hps⟩
    have hb2 := PS.bel j (NE.ok _ _ _) hps
    obtain ⟨R', E', j', -, -⟩ := hps
    refine ⟨rfl, R', E', ?_, hb.trans hb2, (lgood g (by rw [← g.len]; exact ht) hid).1⟩
    unfold lnxt
    rw [hx]
    rw [hm] at j'
    exact j'
  keep := by
    intro s t
    unfold lnxt
    split <;> simp [pickT]
  less := by
    rintro s w t ⟨R, E, j, hb, g⟩ ht hi
    have := (lgood g (by rw [← g.len]; exact ht) hi).2
    omega
theorem LFinish (hK : K ≤ 10000000) (hn : n ≤ 64) (hv : vws.length = n) {s : LSt} (h : (LMach w0 bm rp K n vws hK hn hv).I s w) (h0 : s.2.1 = 0) {most : Int} (hmost : (K : Int) ≤ most) :
    Calls Try.prog 20 #[.pointer (some ⟨rp, 0, none⟩), .int .i64 most] w fun e w' => e = .returned (.bool true) ∧ Hid (∃ R T evs, RO w0 w' R rp bm vws T K evs [] ∧ T.length ≤ 64 ∧ (∀ x ∈ T, x.procs.length ≤ 4096) ∧ allDone T = true ∧ w0.heap.size ≤ w'.heap.size ∧ Below w0.heap.size w0 w') := by
  have hg : LGood K n s := by obtain ⟨R, E, j, hb, g⟩ := h; exact g
  have hl := hg.sum
  refine (Finish_any (LMach w0 bm rp K n vws hK hn hv) h most (by show lleft s ≤ _; omega)).mono ?_
  rintro e w' ⟨b, s', rfl, hI, f, hf⟩
  have hlen : ((LMach w0 bm rp K n vws hK hn hv).thr s).length = n := hg.len
  rw [hlen] at hf
  obtain ⟨rfl, hg', hd⟩ := fin_true (P := LGood K n) (left := lleft) (fun s t hs ht hi => lgood hs ht hi) f 0 s b s' hg (by omega) hf
  refine ⟨rfl, ?_⟩
  obtain ⟨R, E, j, hb, g⟩ := hI
  have hz : lleft s' = 0 := by
    have hd : allDone s'.1 = true := hd
    unfold lleft
    unfold allDone at hd
    rw [List.all_eq_true] at hd
    apply Nat.eq_zero_of_le_zero
    have : ∀ l : List Thr, (∀ x ∈ l, x.procs.length ≤ x.pos) → (l.map fun x => x.procs.length - x.pos).sum = 0 := by
      intro l
      induction l with
      | nil => intro _; rfl
      | cons a l ih =>
        intro hh
        have h1 := hh a (by simp)
        have h2 := ih fun x hx => hh x (by simp [hx])
        simp only [List.map_cons, List.sum_cons, h2]
        omega
    rw [this _ fun x hx => by simpa using hd x hx]
    exact Nat.le_refl _
  have hs : s'.2.1 = K := by have := hg'.sum; omega
  have ho := j.ro
  rw [hs] at ho
  exact ⟨R, s'.1, s'.2.2, ho, by rw [g.len]; exact hn, fun x hx => (g.nil x hx).2.1, hd, j.sz, hb⟩
/-- a runner of nil procs as New left it -/
theorem NewAt.long (h : NewAt w w1 rp bm ps ps.length T vws cs tv) (hF : Mine w w0.heap.size F bm (Mem.made 128)) (hb : Below w0.heap.size w0 w) (hn : ps.length ≤ 64) (hp : ∀ l ∈ ps, (∀ p ∈ l, p = .nilIface) ∧ l.length ≤ 4096) (hK : (ps.map List.length).sum = K) (hK2 : K ≤ 10000000) :
    (LMach w0 bm rp K ps.length vws hK2 hn h.lv).I (T, 0, []) w1 := by
  have hbel := h.bel
  have hs := hb.size
  have hfr : Fr (fun _ => False) w w1 := Fr.of_below hbel
  have hmap : T.map Thr.procs = ps := by
    apply List.ext_getElem?
    intro i
    rw [List.getElem?_map]
    by_cases hi : i < ps.length
    · obtain ⟨x, hx⟩ : ∃ x, T[i]? = some x := ⟨_, List.getElem?_eq_getElem (by rw [h.lt]; exact hi)⟩
      rw [hx]; exact (h.th i x hx).1.symm
    · rw [List.getElem?_eq_none (by rw [h.lt]; omega), List.getElem?_eq_none (by omega)]; rfl
  refine ⟨_, F, ⟨h.ro hs, Mine.fr hF hfr (fun _ _ e => e), ?_, Nat.le_trans hs hbel.size⟩, hb.trans (hbel.mono hs), ⟨h.lt, ?_, ?_, by simp⟩⟩
  · rintro k e ⟨h1, h2, h3⟩
    have := (hF.2 k e).2; omega
  · intro x hx
    obtain ⟨i, hi⟩ := List.getElem?_of_mem hx
    obtain ⟨h1, h2, h3⟩ := h.th i x hi
    obtain ⟨h4, h5⟩ := hp _ (List.mem_of_getElem? h1)
    exact ⟨h4, h5, h3⟩
  · unfold lleft
    rw [← hK, ← hmap, Nat.zero_add, List.map_map]
    congr 1
    apply List.map_congr_left
    intro x hx
    obtain ⟨i, hi⟩ := List.getElem?_of_mem hx
    have := (h.th i x hi).2.1
    simp [this]
end
end Go.Proofs.Ytkaplifhaafpdaa

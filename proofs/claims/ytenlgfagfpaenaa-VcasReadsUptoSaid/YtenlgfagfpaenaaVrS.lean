/-
  A runner has been made over calls that have not begun: the run's first state. No condition.
-/
import Derived.Test.YtenlgfagfpaenaaVrO
namespace Go.Proofs.Ytenlgfagfpaenaa
open Go Go.RowKit
set_option linter.unusedSimpArgs false
set_option linter.unusedVariables false
/-- nothing has begun -/
def Sv.zero (A : Mem) (pl : List (List PC)) : Sv := ⟨A, pl.map fun row => ⟨0, row.map fun _ => .new⟩⟩
section
variable {W w wr w' wn : World} {base : Nat} {v v' u : Value} {F Z0 : Nat → Prop} {pl : List (List PC)} {cam : Int} {A : Mem} {bm rp : Nat} {vws : List Nat}
theorem at2_mem {α : Type} {l : List (List α)} {t j : Nat} {x : α} (h : at2 l t j = some x) : x ∈ l.flatten := by
  unfold at2 at h
  split at h
  · rename_i r hr
    exact List.mem_flatten.2 ⟨r, List.mem_of_getElem? hr, List.mem_of_getElem? h⟩
  · cases h
theorem flat_inj : ∀ {pl : List (List PC)} {t j t' j' : Nat} {k : Nat} {c c' : Cl}, (pl.flatten.map (·.1)).Pairwise (· < ·) → at2 pl t j = some (k, c) → at2 pl t' j' = some (k, c') → t = t' ∧ j = j'
  | [], t, j, t', j', k, c, c', _, h, _ => by simp [at2] at h
  | row :: pl, t, j, t', j', k, c, c', hp, h1, h2 => by
    rw [List.flatten_cons, List.map_append, List.pairwise_append] at hp
    obtain ⟨p1, p2, p3⟩ := hp
    match t, t' with
    | 0, 0 =>
      have h1 : row[j]? = some (k, c) := h1
      have h2 : row[j']? = some (k, c') := h2
      refine ⟨rfl, ?_⟩
      have l1 := (List.getElem?_eq_some_iff.1 h1).1
      have l2 := (List.getElem?_eq_some_iff.1 h2).1
      have e1 : (row.map (·.1))[j]'(by simpa using l1) = k := by rw [List.getElem_map, (List.getElem?_eq_some_iff.1 h1).2]
      have e2 : (row.map (·.1))[j']'(by simpa using l2) = k := by rw [List.getElem_map, (List.getElem?_eq_some_iff.1 h2).2]
      rcases Nat.lt_trichotomy j j' with h | h | h
      · have := List.pairwise_iff_getElem.1 p1 j j' (by simpa using l1) (by simpa using l2) h
        rw [e1, e2] at this; omega
      · exact h
      · have := List.pairwise_iff_getElem.1 p1 j' j (by simpa using l2) (by simpa using l1) h
        rw [e1, e2] at this; omega
    | 0, t' + 1 =>
      have h1 : row[j]? = some (k, c) := h1
      have h2 : at2 pl t' j' = some (k, c') := h2
      have := p3 k (List.mem_map.2 ⟨_, List.mem_of_getElem? h1, rfl⟩) k (List.mem_map.2 ⟨_, at2_mem h2, rfl⟩)
      omega
    | t + 1, 0 =>
      have h1 : at2 pl t j = some (k, c) := h1
      have h2 : row[j']? = some (k, c') := h2
      have := p3 k (List.mem_map.2 ⟨_, List.mem_of_getElem? h2, rfl⟩) k (List.mem_map.2 ⟨_, at2_mem h1, rfl⟩)
      omega
    | t + 1, t' + 1 =>
      obtain ⟨e1, e2⟩ := flat_inj p2 (show at2 pl t j = some (k, c) from h1) (show at2 pl t' j' = some (k, c') from h2)
      exact ⟨by omega, e2⟩
theorem own_keep {t : TypeId} {size n : Nat} {xs : List Value} (h : w.ownsRow base t size v n xs) (hk : ∀ g cs, v.ownBlock = some g → base ≤ g → Blk w g t cs → w'.heap[g]? = w.heap[g]?) : w'.ownsRow base t size v n xs := by
  refine ⟨h.1, ?_⟩
  rcases h.2 with h2 | ⟨g, cap, cur, rfl, h3, h4, h5⟩
  · exact .inl h2
  · exact .inr ⟨g, cap, cur, rfl, h3, (hk g cur rfl h3 h4).trans h4, h5⟩
theorem PAll.keep (h : PAll w base v pl) (hk : ∀ g cs, base ≤ g → (Blk w g 80 cs ∨ Blk w g 73 cs) → w'.heap[g]? = w.heap[g]?) : PAll w' base v pl := by
  obtain ⟨us, h1, h2, h3⟩ := h
  exact ⟨us, h1, own_keep h2 fun g cs _ hb hx => hk g cs hb (.inr hx), fun i u l a b => own_keep (h3 i u l a b) fun g cs _ hb hx => hk g cs hb (.inl hx)⟩
/-- what the runs leave alone: Z0, and the rows of procs -/
def Zr (w wr : World) (Z0 : Nat → Prop) (b : Nat) : Prop := Z0 b ∨ (w.heap.size ≤ b ∧ ∃ cs, Blk wr b 80 cs ∨ Blk wr b 73 cs)
open Classical in
noncomputable def labOf (pl : List (List PC)) (b : Nat) : Option (Nat × Nat) := if h : ∃ t j c, at2 pl t j = some (b, c) then some (h.choose, h.choose_spec.choose) else none
theorem labOf_at {t j k : Nat} {c : Cl} (hp : (pl.flatten.map (·.1)).Pairwise (· < ·)) (h : at2 pl t j = some (k, c)) : labOf pl k = some (t, j) := by
  unfold labOf
  have hx : ∃ t j c, at2 pl t j = some (k, c) := ⟨t, j, c, h⟩
  rw [dif_pos hx]
  obtain ⟨c', hc⟩ := hx.choose_spec.choose_spec
  obtain ⟨e1, e2⟩ := flat_inj hp hc h
  exact congrArg some (Prod.ext e1 e2)
theorem labOf_none {b : Nat} (h : ∀ z ∈ pl.flatten, z.1 ≠ b) : labOf pl b = none := by
  unfold labOf
  rw [dif_neg]
  rintro ⟨t, j, c, hx⟩
  exact h _ (at2_mem hx) rfl
theorem VI.start {cs : List (List Cl)} {v8 v9 : Value} {T : List Thr} {rcs : Array Value} {tv : Value} (hO : Own W w F bm A) (hZ0 : ∀ b, Z0 b → W.heap.size ≤ b ∧ b < w.heap.size ∧ ¬ F b) (ho : ROut w wr cam cs v8 v9 pl) (hN : NewAt wr wn rp bm (pl.map (·.map fun z => procV z.1 z.2)) pl.length T vws rcs tv) :
    VI W bm vws cam pl rp (Zr w wr Z0) wr 0 (Sv.zero A pl) wn ∧ vws.length = pl.length := by
  have hws := ho.bel.size
  have hwn := hN.bel.size
  have hOn : Own W wn F bm A := (hO.bel ho.bel).bel hN.bel
  have hF : ∀ b, F b → W.heap.size ≤ b ∧ b < w.heap.size := hO.mine.2
  have hWw := hO.size
  have hview : ∀ (i v : Nat), vws[i]? = some v → ¬ ∃ cs t, Blk wn v t cs ∧ t ≠ 119 := by
    rintro i v hv ⟨cs, t, hb, ht⟩
    exact Blk.ne hb (hN.vw i v hv).1 ht rfl
  have hzp : ∀ b, Zr w wr Z0 b → W.heap.size ≤ b ∧ b < wr.heap.size := by
    rintro b (h | ⟨h1, cs, h2 | h2⟩)
    · have := hZ0 b h; omega
    · have := h2.lt; omega
    · have := h2.lt; omega
  refine ⟨⟨fun b => (wr.heap.size ≤ b ∧ b < wn.heap.size) ∧ ¬ ∃ i : Nat, vws[i]? = some b, fun b => b < wn.heap.size ∧ ¬ ((wr.heap.size ≤ b ∧ b < wn.heap.size) ∧ ¬ ∃ i : Nat, vws[i]? = some b) ∧ ¬ Zr w wr Z0 b, T, [], [], ⟨⟨⟨rcs, tv, .slice none 0 0, .slice none 0 0, ?_⟩, fun k hk => ⟨Nat.zero_le _, hk.1.2⟩⟩, ⟨F, labOf pl, ?_⟩, fun k hE hR => hE.2.1 hR, Nat.zero_le _⟩, ?_, ?_, Nat.zero_le _, Nat.zero_le _, ?_⟩, hN.lv⟩
  · have ht := hN.rx.tight
    have nv : ∀ {t : TypeId} {cs : Array Value} {g : Nat}, Blk wn g t cs → t ≠ 119 → ¬ ∃ i : Nat, vws[i]? = some g := fun hb hne ⟨i, hi⟩ => hview i _ hi ⟨_, _, hb, hne⟩
    have no : ∀ {t : TypeId} {v : Value} {n k : Nat} {xs : List Value} {g : Nat}, wn.ownsRow 0 t k v n xs → v.ownBlock = some g → t ≠ 119 → ¬ ∃ i : Nat, vws[i]? = some g := fun ho eg hne => by
      obtain ⟨cs, hb⟩ := bk_blk ho eg
      exact nv hb hne
    exact ⟨ht.blk, ht.rc, ht.thr, fun x hx => ⟨(ht.prc x hx).1, fun g e => ⟨(ht.prc x hx).2 g e, no (ht.prc x hx).1 e (by decide)⟩⟩, ht.evo, ht.avo, ⟨ht.fR, nv ht.blk (by decide)⟩, fun g e => ⟨ht.fT g e, no ht.thr e (by decide)⟩, fun g e => ⟨ht.fE g e, no ht.evo e (by decide)⟩, fun g e => ⟨ht.fA g e, no ht.avo e (by decide)⟩⟩
  · have zF : ∀ b, F b → ¬ Zr w wr Z0 b := by
      rintro b hb (h | ⟨h1, _⟩)
      · exact (hZ0 b h).2.2 hb
      · have := hF b hb; omega
    refine ⟨hOn, fun b hb => ⟨by have := hF b hb; omega, fun h => by have := hF b hb; omega, zF b hb⟩, fun t v hv => ?_, fun t j k c st h1 h2 => ?_, fun b hb => hb.1, fun b hb => ⟨by omega, fun h => by omega, fun h => by have := hzp b h; omega⟩⟩
    · obtain ⟨h1, h2⟩ := hN.vw t v hv
      have hl := Blk.lt h1
      refine ⟨⟨0, by simpa using h1, Nat.le_refl _⟩, fun hf => by have := hF v hf; omega, by omega, ⟨hl, fun h => h.2 ⟨t, hv⟩, fun h => by have := hzp v h; omega⟩, labOf_none fun z hz e => ?_⟩
      obtain ⟨ty, cs, hb, _⟩ := new_blk (ho.nw.1 z hz).1
      have := hb.lt
      omega
    · have hmem := at2_mem h1
      obtain ⟨n1, n2⟩ := ho.nw.1 _ hmem
      have hst : st = .new := by
        unfold at2 Sv.zero at h2
        simp only [List.getElem?_map] at h2
        cases hpl : pl[t]? with
        | none => rw [hpl] at h2; cases h2
        | some row =>
          rw [hpl] at h2
          simp only [Option.map_some, List.getElem?_map] at h2
          cases hr : row[j]? with
          | none => rw [hr] at h2; cases h2
          | some z => rw [hr] at h2; injection h2 with h2; exact h2.symm
      subst hst
      obtain ⟨ty, cs, hb, hty⟩ := new_blk n1
      have hlt := hb.lt
      refine ⟨0, 0, n1.keep fun b hb2 => ?_, fun b hb2 => ?_⟩
      · have hb2 : b = k := hb2
        subst hb2
        exact hN.bel.block _ hlt
      · have hb2 : b = k := hb2
        subst hb2
        have n2 : w.heap.size ≤ b := n2
        have hlt : b < wr.heap.size := hlt
        refine ⟨labOf_at ho.nw.2 h1, fun hf => by have := hF b hf; omega, ⟨by omega, fun h => by omega, ?_⟩, by omega, by omega⟩
        rintro (h | ⟨_, cs', h | h⟩)
        · have := hZ0 b h; omega
        · refine Blk.ne hb h ?_ rfl
          rcases hty with rfl | rfl | rfl | rfl <;> decide
        · refine Blk.ne hb h ?_ rfl
          rcases hty with rfl | rfl | rfl | rfl <;> decide
  · rw [hN.lt]; simp [Sv.zero]
  · intro t x y row h1 h2 h3
    obtain ⟨q1, q2, _⟩ := hN.th t x h1
    rw [List.getElem?_map, h3] at q1
    injection q1 with q1
    have h2 : (pl.map fun row => (⟨0, row.map fun _ => .new⟩ : TV))[t]? = some y := h2
    rw [List.getElem?_map, h3] at h2
    injection h2 with h2
    subst h2
    exact ⟨q2, q1.symm⟩
  · intro b hb
    have := hzp b hb
    exact ⟨by omega, fun h => by omega, fun h => h.2.2 hb, hN.bel.block b this.2⟩
end
end Go.Proofs.Ytenlgfagfpaenaa

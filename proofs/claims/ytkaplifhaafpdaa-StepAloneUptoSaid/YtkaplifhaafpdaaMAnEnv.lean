/-
  What a row of the law's procs works on, alone, by one view of thread 3: memory, view, procs; a step. No condition.
-/
import Derived.Test.YtkaplifhaafpdaaM35
namespace Go.Proofs.Ytkaplifhaafpdaa
open Go Go.RowKit
set_option linter.unusedSimpArgs false
set_option linter.unusedVariables false
def VAt (v3 t v : Nat) : Prop := t = 3 ∧ v = v3
/-- memory, views, procs -/
structure AnvX (W : World) (bm : Nat) (vws : Nat) (ll : List (List Plan)) (lays : List (List (Option Nat))) (s : St) (E : Nat → Prop) (w : World) (F : Nat → Prop) (gvf : Nat → Value) : Prop where
  pm : PM w F bm s.A
  fE : ∀ k, F k → E k
  vw : ∀ (t : Nat) v, VAt vws t v → (∃ made : Int, VW w v bm t made ∧ 0 ≤ made ∧ made ≤ s.steps) ∧ ¬ F v ∧ E v
  pr : ∀ (t k pb : Nat) x l p, layAt lays t k = some (some pb) → s.th[t]? = some x → ll[t]? = some l → l[k]? = some p →
    (∃ lv, Blk w pb 69 #[lv, .int .i64 (x.took k p), gvf pb] ∧ DosAt W lv p.l) ∧ w.ownsRow 0 22 1 (gvf pb) (x.got.getD k []).length (us (x.got.getD k [])) ∧ ¬ F pb ∧ E pb ∧ ∀ g, (gvf pb).ownBlock = some g → ¬ F g ∧ E g
  dj : ∀ (t k pb t' k' pb' : Nat) g, layAt lays t k = some (some pb) → layAt lays t' k' = some (some pb') → (gvf pb).ownBlock = some g → (gvf pb').ownBlock = some g → pb = pb'
  pos : ∀ k, E k → k < w.heap.size
  arg : ∀ k, k < W.heap.size → E k
  fa : ∀ k, F k → W.heap.size ≤ k
  ga : ∀ (t k pb : Nat), layAt lays t k = some (some pb) → W.heap.size ≤ pb ∧ ∀ g, (gvf pb).ownBlock = some g → W.heap.size ≤ g
  va : W.heap.size ≤ vws
  bel : Below W.heap.size W w
def AnvI (W : World) (bm : Nat) (vws : Nat) (ll : List (List Plan)) (lays : List (List (Option Nat))) (s : St) (E : Nat → Prop) (w : World) : Prop := ∃ F gvf, AnvX W bm vws ll lays s E w F gvf
section
variable {W w w' : World} {S E F : Nat → Prop} {bm t k pb v : Nat} {vws : Nat} {ll : List (List Plan)} {lays : List (List (Option Nat))} {s : St} {gvf : Nat → Value} {x : TS} {p : Plan} {l : List Plan}
theorem AnvX.fr (h : AnvX W bm vws ll lays s E w F gvf) (hl : LayOK ll lays) (ok : s.Ok ll) (hf : Fr S w w') (hS : ∀ k, E k → ¬ S k) : AnvX W bm vws ll lays s E w' F gvf := by
  refine ⟨h.pm.fr hf (fun k hk => hS k (h.fE k hk)), h.fE, fun t v hv => ?_, fun t k pb x l p h1 h2 h3 h4 => ?_, h.dj, fun k hk => Nat.lt_of_lt_of_le (h.pos k hk) hf.size, h.arg, h.fa, h.ga, h.va, h.bel.trans (hf.to_below h.bel.size fun k hk => hS k (h.arg k hk))⟩
  · obtain ⟨⟨m, a, b, c⟩, d, e⟩ := h.vw t v hv
    exact ⟨⟨m, a.fr hf (hS v e), b, c⟩, d, e⟩
  · obtain ⟨⟨lv, a, b⟩, c, d, e, f⟩ := h.pr t k pb x l p h1 h2 h3 h4
    exact ⟨⟨lv, a.fr hf (hS pb e), b⟩, own_fr c hf (fun g hg => hS g (f g hg).2), d, e, f⟩
/-- a proc has taken a step -/
theorem AnvX.go (h : AnvX W bm vws ll lays s E w F gvf) (hl : LayOK ll lays) (ok : s.Ok ll) (hat : s.at? ll t = some (x, p)) (hv : VAt vws t v) (hpb : layAt lays t x.call = some (some pb)) {lv : Value} {made' : Int} {F' : Nat → Prop} {gv' : Value} {wd : List Int} {i' : Nat}
    (hwd : wd = s.says (p.act x.at_)) (hi' : i' = if x.at_ < p.l.length then x.at_ + 1 else x.at_) (hlv : DosAt W lv p.l)
    (hm' : 0 ≤ made' ∧ made' ≤ s.steps + 1) (hps : PSt w' F' bm v pb t made' (s.mem t (p.act x.at_)) lv i' gv' (x.got.getD x.call [] ++ wd)) (hF' : ∀ k, F' k → Ext F w k) (hg' : ∀ g, gv'.ownBlock = some g → (gvf pb).ownBlock = some g ∨ w.heap.size ≤ g)
    (hf : Fr (fun k => F k ∨ k = v ∨ k = pb ∨ (gvf pb).ownBlock = some k) w w') :
    ∃ E', AnvI W bm vws ll lays (s.go t x p) E' w' ∧ (∀ b, b < w.heap.size → ¬ E b → ¬ E' b) ∧ Fr E w w' := by
  obtain ⟨hx, l, hll, hp⟩ := at_some hat
  have hok := ok.th t x l hx hll
  obtain ⟨l', p', hl1, hp1, hpn⟩ := layAt_some hpb hl
  rw [hll] at hl1; injection hl1 with hl1; subst hl1
  rw [hp] at hp1; injection hp1 with hp1; subst hp1
  obtain ⟨⟨lv0, b0, d0⟩, o0, nF0, e0, g0⟩ := h.pr t x.call pb x l p hpb hx hll hp
  obtain ⟨⟨m0, v0, -, -⟩, nv0, ev0⟩ := h.vw t v hv
  have hFE : ∀ k, (F k ∨ k = v ∨ k = pb ∨ (gvf pb).ownBlock = some k) → E k := by
    rintro k (e | e | e | e)
    · exact h.fE k e
    · subst e; exact ev0
    · subst e; exact e0
    · exact (g0 k e).2
  have hfa : ∀ k, k < W.heap.size → ¬ (F k ∨ k = v ∨ k = pb ∨ (gvf pb).ownBlock = some k) := by
    rintro k hk (e | e | e | e)
    · have := h.fa k e; omega
    · subst e; obtain ⟨-, rfl⟩ := hv; have := h.va; omega
    · subst e; have := (h.ga t x.call k hpb).1; omega
    · have := (h.ga t x.call pb hpb).2 k e; omega
  have hsz := hf.size
  have hbs := h.bel.size
  refine ⟨fun k => (E k ∨ w.heap.size ≤ k) ∧ k < w'.heap.size, ⟨F', fun b => if b = pb then gv' else gvf b, ?_⟩, ?_, hf.mono (fun k _ e => hFE k e)⟩
  · have hF'E : ∀ k, F' k → (E k ∨ w.heap.size ≤ k) ∧ k < w'.heap.size := fun k hk => ⟨(hF' k hk).imp (h.fE k) id, hps.lt k hk⟩
    have hF'n : ∀ k, k < w.heap.size → ¬ F k → ¬ F' k := fun k hk hn hk' => by
      rcases hF' k hk' with e | e
      · exact hn e
      · have e : w.heap.size ≤ k := e; omega
    have other : ∀ (t2 k2 pb2 : Nat) x2 l2 p2, layAt lays t2 k2 = some (some pb2) → s.th[t2]? = some x2 → ll[t2]? = some l2 → l2[k2]? = some p2 → pb2 ≠ pb →
        (∃ lv, Blk w' pb2 69 #[lv, .int .i64 (x2.took k2 p2), gvf pb2] ∧ DosAt W lv p2.l) ∧ w'.ownsRow 0 22 1 (gvf pb2) (x2.got.getD k2 []).length (us (x2.got.getD k2 [])) ∧ ¬ F' pb2 ∧ ((E pb2 ∨ w.heap.size ≤ pb2) ∧ pb2 < w'.heap.size) ∧ ∀ g, (gvf pb2).ownBlock = some g → ¬ F' g ∧ ((E g ∨ w.heap.size ≤ g) ∧ g < w'.heap.size) := by
      intro t2 k2 pb2 x2 l2 p2 h1 h2 h3 h4 hne
      obtain ⟨⟨lv2, b2, d2⟩, o2, nF2, e2, g2⟩ := h.pr t2 k2 pb2 x2 l2 p2 h1 h2 h3 h4
      refine ⟨⟨lv2, b2.fr hf ?_, d2⟩, own_fr o2 hf ?_, hF'n _ b2.lt nF2, ⟨.inl e2, Nat.lt_of_lt_of_le b2.lt hsz⟩, fun g hg => ⟨hF'n _ (own_lt o2 hg) (g2 g hg).1, .inl (g2 g hg).2, Nat.lt_of_lt_of_le (own_lt o2 hg) hsz⟩⟩
      · rintro (e | e | e | e)
        · exact nF2 e
        · exact Blk.ne b2 (e ▸ v0) (by decide) rfl
        · exact hne e
        · exact own_ne o0 b2 (by decide) e
      · rintro g hg (e | e | e | e)
        · exact (g2 g hg).1 e
        · exact own_ne o2 (e ▸ v0) (by decide) hg
        · exact own_ne o2 (e ▸ b0) (by decide) hg
        · exact hne (h.dj t2 k2 pb2 t x.call pb g h1 hpb hg e)
    refine ⟨hps.pm, hF'E, fun u v2 hv2 => ?_, fun t2 k2 pb2 x2 l2 p2 h1 h2 h3 h4 => ?_, fun t2 k2 pb2 t3 k3 pb3 g h1 h2 h3 h4 => ?_, fun k hk => hk.2, fun k hk => ⟨.inl (h.arg k hk), by omega⟩, fun k hk => ?_, fun t2 k2 pb2 h1 => ⟨(h.ga t2 k2 pb2 h1).1, fun g hg => ?_⟩, h.va, h.bel.trans (hf.to_below hbs hfa)⟩
    · obtain ⟨⟨m2, a2, c2, c3⟩, n2, e2⟩ := h.vw u v2 hv2
      by_cases e : v2 = v
      · subst e
        have hut : u = t := by
          have := v0.symm.trans a2
          injection this with this
          injection this with this
          simp at this
          omega
        subst hut
        exact ⟨⟨made', hps.vw, hm'.1, hm'.2⟩, hps.fv, .inl e2, Nat.lt_of_lt_of_le a2.lt hsz⟩
      · refine ⟨⟨m2, a2.fr hf ?_, c2, Int.le_trans c3 (by show (s.steps : Int) ≤ ((s.steps + 1 : Nat) : Int); omega)⟩, hF'n _ a2.lt n2, .inl e2, Nat.lt_of_lt_of_le a2.lt hsz⟩
        rintro (e1 | e1 | e1 | e1)
        · exact n2 e1
        · exact e e1
        · exact Blk.ne a2 (e1 ▸ b0) (by decide) rfl
        · exact own_ne o0 a2 (by decide) e1
    · by_cases e : pb2 = pb
      · subst e
        obtain ⟨rfl, rfl⟩ := hl.inj _ _ _ _ _ hpb h1
        have h2 : (s.th.set t (x.next (s.says (p.act x.at_)) (p.dn x.at_)))[t]? = some x2 := h2
        rw [List.getElem?_set_self (List.getElem?_eq_some_iff.1 hx).1] at h2
        injection h2 with h2
        subst h2
        rw [hll] at h3; injection h3 with h3; subst h3
        rw [hp] at h4; injection h4 with h4; subst h4
        rw [took_here hok hp hpn, got_next hok hp, ← hi', ← hwd]
        try simp only [if_true]
        refine ⟨⟨lv, hps.pr, hlv⟩, hps.own, hps.fp, ⟨.inl e0, Nat.lt_of_lt_of_le b0.lt hsz⟩, fun g hg => ⟨hps.fg g hg, ?_, own_lt hps.own hg⟩⟩
        exact (hg' g hg).imp (fun e => (g0 g e).2) id
      · simp only [if_neg e]
        have h2 : (s.th.set t (x.next (s.says (p.act x.at_)) (p.dn x.at_)))[t2]? = some x2 := h2
        by_cases e2 : t = t2
        · subst e2
          rw [List.getElem?_set_self (List.getElem?_eq_some_iff.1 hx).1] at h2
          injection h2 with h2
          subst h2
          rw [hll] at h3; injection h3 with h3; subst h3
          have hk : k2 ≠ x.call := by
            rintro rfl
            rw [hpb] at h1; injection h1 with h1; injection h1 with h1; exact e h1.symm
          obtain ⟨r1, r2⟩ := took_next hok hp h4 (s.says (p.act x.at_)) hk
          rw [r1, r2]
          exact other t k2 pb2 x l p2 h1 hx hll h4 e
        · rw [List.getElem?_set_ne e2] at h2
          exact other t2 k2 pb2 x2 l2 p2 h1 h2 h3 h4 e
    · split at h3 <;> split at h4
      · rename_i a b; rw [a, b]
      · rename_i a b
        subst a
        rcases hg' g h3 with e | e
        · exact h.dj t2 k2 pb2 t3 k3 pb3 g h1 h2 e h4
        · obtain ⟨l3, p3, q1, q2, q3⟩ := layAt_some h2 hl
          obtain ⟨x3, q4⟩ : ∃ x3, s.th[t3]? = some x3 := ⟨_, List.getElem?_eq_getElem (by rw [ok.tl]; exact (List.getElem?_eq_some_iff.1 q1).1)⟩
          have := own_lt (h.pr t3 k3 pb3 x3 l3 p3 h2 q4 q1 q2).2.1 h4
          omega
      · rename_i a b
        subst b
        rcases hg' g h4 with e | e
        · exact h.dj t2 k2 pb2 t3 k3 pb3 g h1 h2 h3 e
        · obtain ⟨l3, p3, q1, q2, q3⟩ := layAt_some h1 hl
          obtain ⟨x3, q4⟩ : ∃ x3, s.th[t2]? = some x3 := ⟨_, List.getElem?_eq_getElem (by rw [ok.tl]; exact (List.getElem?_eq_some_iff.1 q1).1)⟩
          have := own_lt (h.pr t2 k2 pb2 x3 l3 p3 h1 q4 q1 q2).2.1 h3
          omega
      · exact h.dj t2 k2 pb2 t3 k3 pb3 g h1 h2 h3 h4
    · rcases hF' k hk with e | e
      · exact h.fa k e
      · have e : w.heap.size ≤ k := e; omega
    · split at hg
      · rcases hg' g hg with e | e
        · exact (h.ga t x.call pb hpb).2 g e
        · omega
      · exact (h.ga t2 k2 pb2 h1).2 g hg
  · rintro b hb hn ⟨e | e, _⟩
    · exact hn e
    · omega
end
end Go.Proofs.Ytkaplifhaafpdaa

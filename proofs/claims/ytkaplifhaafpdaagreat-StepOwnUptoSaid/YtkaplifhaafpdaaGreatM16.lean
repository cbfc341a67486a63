/-
  StEnv, StTell: the texts of the proof, merged. No condition.
-/
import Derived.Test.YtkaplifhaafpdaaGreatM12
import Derived.Test.YtkaplifhaafpdaaGreatM13
import Derived.Test.YtkaplifhaafpdaaGreatM14
import Derived.Test.YtkaplifhaafpdaaGreatM15
import Derived.Test.YtkaplifhaafpdaaGreatM07
section
/-
  What the law's procs work on, at a state of the plain law: memory, views, procs, what they were told; a pick. No condition.
-/
namespace Go.Proofs.YtkaplifhaafpdaaGreat
open Go Go.RowKit
set_option linter.unusedSimpArgs false
set_option linter.unusedVariables false
def layAt (lays : List (List (Option Nat))) (t k : Nat) : Option (Option Nat) := match lays[t]? with | some la => la[k]? | none => none
/-- where the procs of plans lie -/
structure LayOK (ll : List (List Plan)) (lays : List (List (Option Nat))) : Prop where
  n : lays.length = ll.length
  len : ∀ (t : Nat) la l, lays[t]? = some la → ll[t]? = some l → la.length = l.length
  no : ∀ (t k : Nat) la l p, lays[t]? = some la → ll[t]? = some l → l[k]? = some p → (p.none = true ↔ la[k]? = some none)
  inj : ∀ t k t' k' pb, layAt lays t k = some (some pb) → layAt lays t' k' = some (some pb) → t = t' ∧ k = k'
/-- how many steps a proc has taken -/
def TS.took (x : TS) (k : Nat) (p : Plan) : Nat := if k < x.call then p.l.length else if k = x.call then x.at_ else 0
/-- memory, views, procs -/
structure EnvX (W : World) (bm : Nat) (vws : List Nat) (ll : List (List Plan)) (lays : List (List (Option Nat))) (s : St) (E : Nat → Prop) (w : World) (F : Nat → Prop) (gvf : Nat → Value) : Prop where
  pm : PM w F bm s.A
  fE : ∀ k, F k → E k
  vw : ∀ (t : Nat) v, vws[t]? = some v → (∃ made : Int, VW w v bm t made ∧ 0 ≤ made ∧ made ≤ s.steps) ∧ ¬ F v ∧ E v
  pr : ∀ (t k pb : Nat) x l p, layAt lays t k = some (some pb) → s.th[t]? = some x → ll[t]? = some l → l[k]? = some p →
    (∃ lv, Blk w pb 122 #[lv, .int .i64 (x.took k p), gvf pb] ∧ DosAt W lv p.l) ∧ w.ownsRow 0 72 1 (gvf pb) (x.got.getD k []).length (us (x.got.getD k [])) ∧ ¬ F pb ∧ E pb ∧ ∀ g, (gvf pb).ownBlock = some g → ¬ F g ∧ E g
  dj : ∀ (t k pb t' k' pb' : Nat) g, layAt lays t k = some (some pb) → layAt lays t' k' = some (some pb') → (gvf pb).ownBlock = some g → (gvf pb').ownBlock = some g → pb = pb'
  pos : ∀ k, E k → k < w.heap.size
  arg : ∀ k, k < W.heap.size → E k
  fa : ∀ k, F k → W.heap.size ≤ k
  ga : ∀ (t k pb : Nat), layAt lays t k = some (some pb) → W.heap.size ≤ pb ∧ ∀ g, (gvf pb).ownBlock = some g → W.heap.size ≤ g
  va : ∀ v ∈ vws, W.heap.size ≤ v
  bel : Below W.heap.size W w
def EnvI (W : World) (bm : Nat) (vws : List Nat) (ll : List (List Plan)) (lays : List (List (Option Nat))) (s : St) (E : Nat → Prop) (w : World) : Prop := ∃ F gvf, EnvX W bm vws ll lays s E w F gvf
/-- a world without memory -/
def nul (W : World) : World := { W with heap := #[] }
theorem nul_size (W : World) : (nul W).heap.size = 0 := rfl
section
variable {W w w' : World} {S E F : Nat → Prop} {bm t k pb v : Nat} {vws : List Nat} {ll : List (List Plan)} {lays : List (List (Option Nat))} {s : St} {gvf : Nat → Value} {x : TS} {p : Plan} {l : List Plan}
theorem layAt_some (h : layAt lays t k = some (some pb)) (hl : LayOK ll lays) : ∃ l p, ll[t]? = some l ∧ l[k]? = some p ∧ p.none = false := by
  unfold layAt at h
  split at h
  · rename_i la hla
    have ht := (List.getElem?_eq_some_iff.1 hla).1
    obtain ⟨l, hl2⟩ : ∃ l, ll[t]? = some l := ⟨_, List.getElem?_eq_getElem (by rw [← hl.n]; exact ht)⟩
    have hk := (List.getElem?_eq_some_iff.1 h).1
    obtain ⟨p, hp⟩ : ∃ p, l[k]? = some p := ⟨_, List.getElem?_eq_getElem (by rw [← hl.len t la l hla hl2]; exact hk)⟩
    refine ⟨l, p, hl2, hp, ?_⟩
    have := hl.no t k la l p hla hl2 hp
    cases hn : p.none
    · rfl
    · rw [this.1 hn] at h; cases h
  · cases h
theorem EnvX.fr (h : EnvX W bm vws ll lays s E w F gvf) (hl : LayOK ll lays) (ok : s.Ok ll) (hf : Fr S w w') (hS : ∀ k, E k → ¬ S k) : EnvX W bm vws ll lays s E w' F gvf := by
  refine ⟨h.pm.fr hf (fun k hk => hS k (h.fE k hk)), h.fE, fun t v hv => ?_, fun t k pb x l p h1 h2 h3 h4 => ?_, h.dj, fun k hk => Nat.lt_of_lt_of_le (h.pos k hk) hf.size, h.arg, h.fa, h.ga, h.va, h.bel.trans (hf.to_below h.bel.size fun k hk => hS k (h.arg k hk))⟩
  · obtain ⟨⟨m, a, b, c⟩, d, e⟩ := h.vw t v hv
    exact ⟨⟨m, a.fr hf (hS v e), b, c⟩, d, e⟩
  · obtain ⟨⟨lv, a, b⟩, c, d, e, f⟩ := h.pr t k pb x l p h1 h2 h3 h4
    exact ⟨⟨lv, a.fr hf (hS pb e), b⟩, own_fr c hf (fun g hg => hS g (f g hg).2), d, e, f⟩
theorem EnvI.ok (hl : LayOK ll lays) (ok : s.Ok ll) : EnvOK (nul W) bm (EnvI W bm vws ll lays s) s.A.trace.length where
  st := fun E S w w' ⟨F, gvf, h⟩ hf hS => ⟨F, gvf, h.fr hl ok hf hS⟩
  pos := fun E w ⟨F, gvf, h⟩ k hk => ⟨Nat.zero_le _, h.pos k hk⟩
  made := fun E w ⟨F, gvf, h⟩ => by
    obtain ⟨q, r, tv, rows, hx⟩ := h.pm
    exact Made_any hx
theorem took_next (ok : x.Ok l) (hp : l[x.call]? = some p) {q : Plan} (hq : l[k]? = some q) (wd : List Int) (hk : k ≠ x.call) : (x.next wd (p.dn x.at_)).took k q = x.took k q ∧ (x.next wd (p.dn x.at_)).got.getD k [] = x.got.getD k [] := by
  constructor
  · unfold TS.took TS.next
    simp only
    cases p.dn x.at_
    · simp only [Bool.false_eq_true, if_false]
      by_cases h1 : k < x.call
      · simp [h1]
      · simp [h1, hk]
    · simp only [if_true]
      by_cases h1 : k < x.call
      · rw [if_pos (by omega), if_pos h1]
      · rw [if_neg (by omega), if_neg h1, if_neg hk]
        split <;> rfl
  · simp only [TS.next, List.getD_eq_getElem?_getD, List.getElem?_modify]
    have h3 : ¬ x.call = k := fun e => hk e.symm
    cases x.got[k]? <;> simp [h3]
theorem got_next (ok : x.Ok l) (hp : l[x.call]? = some p) (wd : List Int) (d : Bool) : (x.next wd d).got.getD x.call [] = x.got.getD x.call [] ++ wd := by
  have hc : x.call < x.got.length := by rw [ok.gl]; exact (List.getElem?_eq_some_iff.1 hp).1
  simp [TS.next, List.getD_eq_getElem?_getD, List.getElem?_modify, hc]
theorem took_done (hd : p.l.length ≤ x.at_ ∨ x.at_ + 1 = p.l.length) (hn : p.none = false) (ok : x.Ok l) (hp : l[x.call]? = some p) : True := trivial
theorem took_here (ok : x.Ok l) (hp : l[x.call]? = some p) (hn : p.none = false) (wd : List Int) : (x.next wd (p.dn x.at_)).took x.call p = if x.at_ < p.l.length then x.at_ + 1 else x.at_ := by
  have ha : x.at_ ≠ 0 → x.at_ < p.l.length := fun h => (ok.at_ p hp h).2
  unfold TS.took TS.next Plan.dn
  simp only [hn, Bool.false_or]
  by_cases h1 : p.l.length ≤ x.at_ + 1
  · rw [decide_eq_true h1]
    simp only [if_true]
    rw [if_pos (by omega)]
    split <;> omega
  · rw [decide_eq_false h1]
    simp only [Bool.false_eq_true, if_false]
    rw [if_neg (by omega)]
    simp only [if_true]
    rw [if_pos (by omega)]
/-- a proc has taken a step -/
theorem EnvX.go (h : EnvX W bm vws ll lays s E w F gvf) (hl : LayOK ll lays) (ok : s.Ok ll) (hat : s.at? ll t = some (x, p)) (hv : vws[t]? = some v) (hpb : layAt lays t x.call = some (some pb)) {lv : Value} {made' : Int} {F' : Nat → Prop} {gv' : Value} {wd : List Int} {i' : Nat}
    (hwd : wd = s.says (p.act x.at_)) (hi' : i' = if x.at_ < p.l.length then x.at_ + 1 else x.at_) (hlv : DosAt W lv p.l)
    (hm' : 0 ≤ made' ∧ made' ≤ s.steps + 1) (hps : PSt w' F' bm v pb t made' (s.mem t (p.act x.at_)) lv i' gv' (x.got.getD x.call [] ++ wd)) (hF' : ∀ k, F' k → Ext F w k) (hg' : ∀ g, gv'.ownBlock = some g → (gvf pb).ownBlock = some g ∨ w.heap.size ≤ g)
    (hf : Fr (fun k => F k ∨ k = v ∨ k = pb ∨ (gvf pb).ownBlock = some k) w w') :
    ∃ E', EnvI W bm vws ll lays (s.go t x p) E' w' ∧ (∀ b, b < w.heap.size → ¬ E b → ¬ E' b) ∧ Fr E w w' := by
  obtain ⟨hx, l, hll, hp⟩ := at_some hat
  have hok := ok.th t x l hx hll
  obtain ⟨l', p', hl1, hp1, hpn⟩ := layAt_some hpb hl
  rw [hll] at hl1; injection hl1 with hl1; subst hl1
  rw [hp] at hp1; injection hp1 with hp1; subst hp1
  obtain ⟨⟨lv0, b0, d0⟩, o0, nF0, e0, g0⟩ := h.pr t x.call pb x l p hpb hx hll hp
  obtain ⟨⟨m0, v0, -, -⟩, nv0, ev0⟩ := h.vw t v hv
  have hFE : ∀ k, (F k ∨ k = v ∨ k = pb ∨ (gvf pb).ownBlock = some k) → E k := by
    rintro k (e | e | e | e)
    · exact h.fE k e
    · subst e; exact ev0
    · subst e; exact e0
    · exact (g0 k e).2
  have hfa : ∀ k, k < W.heap.size → ¬ (F k ∨ k = v ∨ k = pb ∨ (gvf pb).ownBlock = some k) := by
    rintro k hk (e | e | e | e)
    · have := h.fa k e; omega
    · subst e; have := h.va k (List.mem_of_getElem? hv); omega
    · subst e; have := (h.ga t x.call k hpb).1; omega
    · have := (h.ga t x.call pb hpb).2 k e; omega
  have hsz := hf.size
  have hbs := h.bel.size
  refine ⟨fun k => (E k ∨ w.heap.size ≤ k) ∧ k < w'.heap.size, ⟨F', fun b => if b = pb then gv' else gvf b, ?_⟩, ?_, hf.mono (fun k _ e => hFE k e)⟩
  · have hF'E : ∀ k, F' k → (E k ∨ w.heap.size ≤ k) ∧ k < w'.heap.size := fun k hk => ⟨(hF' k hk).imp (h.fE k) id, hps.lt k hk⟩
    have hF'n : ∀ k, k < w.heap.size → ¬ F k → ¬ F' k := fun k hk hn hk' => by
      rcases hF' k hk' with e | e
      · exact hn e
      · have e : w.heap.size ≤ k := e; omega
    have other : ∀ (t2 k2 pb2 : Nat) x2 l2 p2, layAt lays t2 k2 = some (some pb2) → s.th[t2]? = some x2 → ll[t2]? = some l2 → l2[k2]? = some p2 → pb2 ≠ pb →
        (∃ lv, Blk w' pb2 122 #[lv, .int .i64 (x2.took k2 p2), gvf pb2] ∧ DosAt W lv p2.l) ∧ w'.ownsRow 0 72 1 (gvf pb2) (x2.got.getD k2 []).length (us (x2.got.getD k2 [])) ∧ ¬ F' pb2 ∧ ((E pb2 ∨ w.heap.size ≤ pb2) ∧ pb2 < w'.heap.size) ∧ ∀ g, (gvf pb2).ownBlock = some g → ¬ F' g ∧ ((E g ∨ w.heap.size ≤ g) ∧ g < w'.heap.size) := by
      intro t2 k2 pb2 x2 l2 p2 h1 h2 h3 h4 hne
      obtain ⟨⟨lv2, b2, d2⟩, o2, nF2, e2, g2⟩ := h.pr t2 k2 pb2 x2 l2 p2 h1 h2 h3 h4
      refine ⟨⟨lv2, b2.fr hf ?_, d2⟩, own_fr o2 hf ?_, hF'n _ b2.lt nF2, ⟨.inl e2, Nat.lt_of_lt_of_le b2.lt hsz⟩, fun g hg => ⟨hF'n _ (own_lt o2 hg) (g2 g hg).1, .inl (g2 g hg).2, Nat.lt_of_lt_of_le (own_lt o2 hg) hsz⟩⟩
      · rintro (e | e | e | e)
        · exact nF2 e
        · exact Blk.ne b2 (e ▸ v0) (by decide) rfl
        · exact hne e
        · exact own_ne o0 b2 (by decide) e
      · rintro g hg (e | e | e | e)
        · exact (g2 g hg).1 e
        · exact own_ne o2 (e ▸ v0) (by decide) hg
        · exact own_ne o2 (e ▸ b0) (by decide) hg
        · exact hne (h.dj t2 k2 pb2 t x.call pb g h1 hpb hg e)
    refine ⟨hps.pm, hF'E, fun u v2 hv2 => ?_, fun t2 k2 pb2 x2 l2 p2 h1 h2 h3 h4 => ?_, fun t2 k2 pb2 t3 k3 pb3 g h1 h2 h3 h4 => ?_, fun k hk => hk.2, fun k hk => ⟨.inl (h.arg k hk), by omega⟩, fun k hk => ?_, fun t2 k2 pb2 h1 => ⟨(h.ga t2 k2 pb2 h1).1, fun g hg => ?_⟩, h.va, h.bel.trans (hf.to_below hbs hfa)⟩
    · obtain ⟨⟨m2, a2, c2, c3⟩, n2, e2⟩ := h.vw u v2 hv2
      by_cases e : v2 = v
      · subst e
        have hut : u = t := by
          have := v0.symm.trans a2
          injection this with this
          injection this with this
          simp at this
          omega
        subst hut
        exact ⟨⟨made', hps.vw, hm'.1, hm'.2⟩, hps.fv, .inl e2, Nat.lt_of_lt_of_le a2.lt hsz⟩
      · refine ⟨⟨m2, a2.fr hf ?_, c2, Int.le_trans c3 (by show (s.steps : Int) ≤ ((s.steps + 1 : Nat) : Int); omega)⟩, hF'n _ a2.lt n2, .inl e2, Nat.lt_of_lt_of_le a2.lt hsz⟩
        rintro (e1 | e1 | e1 | e1)
        · exact n2 e1
        · exact e e1
        · exact Blk.ne a2 (e1 ▸ b0) (by decide) rfl
        · exact own_ne o0 a2 (by decide) e1
    · by_cases e : pb2 = pb
      · subst e
        obtain ⟨rfl, rfl⟩ := hl.inj _ _ _ _ _ hpb h1
        have h2 : (s.th.set t (x.next (s.says (p.act x.at_)) (p.dn x.at_)))[t]? = some x2 := h2
        rw [List.getElem?_set_self (List.getElem?_eq_some_iff.1 hx).1] at h2
        injection h2 with h2
        subst h2
        rw [hll] at h3; injection h3 with h3; subst h3
        rw [hp] at h4; injection h4 with h4; subst h4
        rw [took_here hok hp hpn, got_next hok hp, ← hi', ← hwd]
        try simp only [if_true]
        refine ⟨⟨lv, hps.pr, hlv⟩, hps.own, hps.fp, ⟨.inl e0, Nat.lt_of_lt_of_le b0.lt hsz⟩, fun g hg => ⟨hps.fg g hg, ?_, own_lt hps.own hg⟩⟩
        exact (hg' g hg).imp (fun e => (g0 g e).2) id
      · simp only [if_neg e]
        have h2 : (s.th.set t (x.next (s.says (p.act x.at_)) (p.dn x.at_)))[t2]? = some x2 := h2
        by_cases e2 : t = t2
        · subst e2
          rw [List.getElem?_set_self (List.getElem?_eq_some_iff.1 hx).1] at h2
          injection h2 with h2
          subst h2
          rw [hll] at h3; injection h3 with h3; subst h3
          have hk : k2 ≠ x.call := by
            rintro rfl
            rw [hpb] at h1; injection h1 with h1; injection h1 with h1; exact e h1.symm
          obtain ⟨r1, r2⟩ := took_next hok hp h4 (s.says (p.act x.at_)) hk
          rw [r1, r2]
          exact other t k2 pb2 x l p2 h1 hx hll h4 e
        · rw [List.getElem?_set_ne e2] at h2
          exact other t2 k2 pb2 x2 l2 p2 h1 h2 h3 h4 e
    · split at h3 <;> split at h4
      · rename_i a b; rw [a, b]
      · rename_i a b
        subst a
        rcases hg' g h3 with e | e
        · exact h.dj t2 k2 pb2 t3 k3 pb3 g h1 h2 e h4
        · obtain ⟨l3, p3, q1, q2, q3⟩ := layAt_some h2 hl
          obtain ⟨x3, q4⟩ : ∃ x3, s.th[t3]? = some x3 := ⟨_, List.getElem?_eq_getElem (by rw [ok.tl]; exact (List.getElem?_eq_some_iff.1 q1).1)⟩
          have := own_lt (h.pr t3 k3 pb3 x3 l3 p3 h2 q4 q1 q2).2.1 h4
          omega
      · rename_i a b
        subst b
        rcases hg' g h4 with e | e
        · exact h.dj t2 k2 pb2 t3 k3 pb3 g h1 h2 h3 e
        · obtain ⟨l3, p3, q1, q2, q3⟩ := layAt_some h1 hl
          obtain ⟨x3, q4⟩ : ∃ x3, s.th[t2]? = some x3 := ⟨_, List.getElem?_eq_getElem (by rw [ok.tl]; exact (List.getElem?_eq_some_iff.1 q1).1)⟩
          have := own_lt (h.pr t2 k2 pb2 x3 l3 p3 h1 q4 q1 q2).2.1 h3
          omega
      · exact h.dj t2 k2 pb2 t3 k3 pb3 g h1 h2 h3 h4
    · rcases hF' k hk with e | e
      · exact h.fa k e
      · have e : w.heap.size ≤ k := e; omega
    · split at hg
      · rcases hg' g hg with e | e
        · exact (h.ga t x.call pb hpb).2 g e
        · omega
      · exact (h.ga t2 k2 pb2 h1).2 g hg
  · rintro b hb hn ⟨e | e, _⟩
    · exact hn e
    · omega
end
end Go.Proofs.YtkaplifhaafpdaaGreat
end
section
/-
  What a runner tells: its events, the steps of its accesses. No condition.
-/
namespace Go.Proofs.YtkaplifhaafpdaaGreat
open Go Go.RowKit
set_option linter.unusedSimpArgs false
set_option linter.unusedVariables false
def lenOf (v : Value) : Nat := match v with | .slice _ n _ => n | _ => 0
section
variable {w0 w w' w1 w2 : World} {R S G E E' U : Nat → Prop} {rp bm n : Nat} {vws : List Nat} {T T' : List Thr} {x : Thr} {t steps : Nat} {evs : List Ev} {ats : List Int} {cs : Array Value} {tv ev av v : Value} {l : List Value} {ps : List (List Value)}
set_option maxRecDepth 100000 in
theorem CloneE_own {n : Nat} {xs : List Value} (h : w.ownsRow 0 97 4 v n xs) (hn : n ≤ 1000000000) (h1 : ∀ u ∈ xs, u.oneCell' = true) : Calls Tryz.prog 31 #[v] w fun e w' => ∃ v', e = .returned v' ∧ w'.ownsRow w.heap.size 97 4 v' n xs ∧ Below w.heap.size w w' := by
  have heq := fun (w : World) (a : Option Addr) (n c n' c' : Nat) => Lib.run_eql_slice_nil (P := Tryz.prog) w 59 97 a n c n' c' Tryz.underlying59
  have hlen := h.1
  rcases id h.2 with ⟨rfl, rfl⟩ | ⟨g, cap, cur, rfl, -, hb, -⟩
  · have h0 : xs = [] := by simpa using hlen
    subst h0
    clear h h1 hlen
    go_enter Tryz.func31, Tryz.ntmps31
    go_wp2
    go_ret
    exact ⟨_, rfl, World.ownsRow_nil _ _ _ _, Below.refl _ _⟩
  · obtain ⟨i0, hi, hz0, hz1, hz2⟩ := info_parts infoEv
    have hc' : ∀ o j u, xs[j]? = some u → (w.alloc o).cell? ((⟨g, 0, none⟩ : Addr).add j) = some u := by
      intro o j u hu
      have ea : (⟨g, 0, none⟩ : Addr).add j = ⟨g, j, none⟩ := by unfold Addr.add; split <;> simp_all
      rw [ea, World.cell?_alloc_lt w o _ (own_lt h (g := g) rfl)]
      exact own_cell h hu
    have HC := Lib.hid hc'
    have H1 := Lib.hid h1
    have HL := Lib.hid hlen
    have HE := Lib.hid (emp_own w 97 4)
    clear hc' h1 h hb hlen
    go_enter Tryz.func31, Tryz.ntmps31
    go_wp2_with (at_builtin; refine wpList_append_own _ rfl _ _ 59 rfl w.heap.size 97 i0 _ 4 32 Tryz.underlying59 hi hz0 hz1 hz2 rfl (by decide) _ _ _ rfl HE.out ⟨g, 0, none⟩ n cap xs rfl (by rw [HL.out]) (HC.out _) H1.out (by unfold maxLen; omega) (by omega) (by simp) ?_; intro v' w' hown' hgrow _)
    have hB : Below w.heap.size w w' := ((Below.refl _ w).alloc (Nat.le_refl _) _).grown hgrow (by simp) (by intro k hk; have hk' : some w.heap.size = some k := hk; injection hk' with e; omega)
    go_ret
    exact ⟨_, rfl, by simpa using hown', hB⟩
set_option maxRecDepth 100000 in
theorem CloneI_own {n : Nat} {xs : List Value} (h : w.ownsRow 0 3 1 v n xs) (hn : n ≤ 1000000000) (h1 : ∀ u ∈ xs, u.oneCell' = true) : Calls Tryz.prog 33 #[v] w fun e w' => ∃ v', e = .returned v' ∧ w'.ownsRow w.heap.size 3 1 v' n xs ∧ Below w.heap.size w w' := by
  have heq := fun (w : World) (a : Option Addr) (n c n' c' : Nat) => Lib.run_eql_slice_nil (P := Tryz.prog) w 23 3 a n c n' c' Tryz.underlying23
  have hlen := h.1
  rcases id h.2 with ⟨rfl, rfl⟩ | ⟨g, cap, cur, rfl, -, hb, -⟩
  · have h0 : xs = [] := by simpa using hlen
    subst h0
    clear h h1 hlen
    go_enter Tryz.func33, Tryz.ntmps33
    go_wp2
    go_ret
    exact ⟨_, rfl, World.ownsRow_nil _ _ _ _, Below.refl _ _⟩
  · obtain ⟨i0, hi, hz0, hz1, hz2⟩ := info_parts infoI
    have hc' : ∀ o j u, xs[j]? = some u → (w.alloc o).cell? ((⟨g, 0, none⟩ : Addr).add j) = some u := by
      intro o j u hu
      have ea : (⟨g, 0, none⟩ : Addr).add j = ⟨g, j, none⟩ := by unfold Addr.add; split <;> simp_all
      rw [ea, World.cell?_alloc_lt w o _ (own_lt h (g := g) rfl)]
      exact own_cell h hu
    have HC := Lib.hid hc'
    have H1 := Lib.hid h1
    have HL := Lib.hid hlen
    have HE := Lib.hid (emp_own w 3 1)
    clear hc' h1 h hb hlen
    go_enter Tryz.func33, Tryz.ntmps33
    go_wp2_with (at_builtin; refine wpList_append_own _ rfl _ _ 23 rfl w.heap.size 3 i0 _ 1 8 Tryz.underlying23 hi hz0 hz1 hz2 rfl (by decide) _ _ _ rfl HE.out ⟨g, 0, none⟩ n cap xs rfl (by rw [HL.out]) (HC.out _) H1.out (by unfold maxLen; omega) (by omega) (by simp) ?_; intro v' w' hown' hgrow _)
    have hB : Below w.heap.size w w' := ((Below.refl _ w).alloc (Nat.le_refl _) _).grown hgrow (by simp) (by intro k hk; have hk' : some w.heap.size = some k := hk; injection hk' with e; omega)
    go_ret
    exact ⟨_, rfl, by simpa using hown', hB⟩
theorem evC_one {evs : List Ev} : ∀ u ∈ evs.flatMap evC, u.oneCell' = true := by
  intro u hu
  obtain ⟨x, _, hx⟩ := List.mem_flatMap.1 hu
  simp [evC] at hx
  rcases hx with rfl | rfl | rfl | rfl <;> rfl
theorem is64_one {ats : List Int} : ∀ u ∈ is64 ats, u.oneCell' = true := by
  intro u hu
  obtain ⟨x, _, rfl⟩ := List.mem_map.1 hu
  rfl
theorem Events_any (h : RX w R rp bm vws T steps evs ats cs tv ev av) (hn : evs.length ≤ 1000000000) : Calls Tryz.prog 9 #[.pointer (some ⟨rp, 0, none⟩)] w fun e w' => ∃ v', e = .returned v' ∧ w'.ownsRow w.heap.size 97 4 v' evs.length (evs.flatMap evC) ∧ Below w.heap.size w w' := by
  have c1 : w.cell? ⟨rp, 67, none⟩ = some ev := (h.blk.cell 67).trans h.rc.c67
  have HC := Lib.hid (CloneE_own h.evo hn evC_one)
  clear h
  go_enter Tryz.func9, Tryz.ntmps9
  go_wp2_with fail
  refine HC.out.mono ?_
  rintro e w1 ⟨v', rfl, hv⟩
  have HV := Lib.hid hv
  clear hv
  go_wp2_with fail
  go_ret
  exact ⟨_, rfl, HV.out⟩
theorem Events_nil (w : World) : Calls Tryz.prog 9 #[.pointer none] w fun e w' => e = .returned (.slice none 0 0) ∧ w = w' := by
  go_enter Tryz.func9, Tryz.ntmps9
  go_wp2
  go_ret
  exact ⟨rfl, rfl⟩
theorem At_nil (w : World) : Calls Tryz.prog 11 #[.pointer none] w fun e w' => e = .returned (.slice none 0 0) ∧ w = w' := by
  go_enter Tryz.func11, Tryz.ntmps11
  go_wp2
  go_ret
  exact ⟨rfl, rfl⟩
theorem Steps_nil (w : World) : Calls Tryz.prog 19 #[.pointer none] w fun e w' => e = .returned (.int .i64 0) ∧ w = w' := by
  go_enter Tryz.func19, Tryz.ntmps19
  go_wp2
  go_ret
  exact ⟨rfl, rfl⟩
theorem Done_nil (w : World) : Calls Tryz.prog 18 #[.pointer none] w fun e w' => e = .returned (.bool false) ∧ w = w' := by
  go_enter Tryz.func18, Tryz.ntmps18
  go_wp2
  go_ret
  exact ⟨rfl, rfl⟩
theorem Pick_nil (w : World) (v : Value) : Calls Tryz.prog 6 #[.pointer none, v] w fun e w' => e = .returned (.bool false) ∧ w = w' := by
  go_enter Tryz.func6, Tryz.ntmps6
  go_wp2
  go_ret
  exact ⟨rfl, rfl⟩
theorem Pending_nil (w : World) : Calls Tryz.prog 12 #[.pointer none] w fun e w' => e = .returned (.slice none 0 0) ∧ w = w' := by
  go_enter Tryz.func12, Tryz.ntmps12
  go_wp2
  go_ret
  exact ⟨rfl, rfl⟩
set_option maxHeartbeats 2000000 in
set_option maxRecDepth 100000 in
theorem At_any (h : RX w R rp bm vws T steps evs ats cs tv ev av) (hn : ats.length ≤ 1000000000) {made : Nat} (hm : made ≤ 1000000000)
    (hlive : Calls Tryz.prog 32 #[.pointer (some ⟨bm, 0, none⟩)] w fun e w' => e = .returned (.bool false) ∧ w = w')
    (hmade : ∀ w1, Below w.heap.size w w1 → Calls Tryz.prog 27 #[.pointer (some ⟨bm, 0, none⟩)] w1 fun e w' => e = .returned (.int .i64 made) ∧ w1 = w') :
    Calls Tryz.prog 11 #[.pointer (some ⟨rp, 0, none⟩)] w fun e w' => ∃ v', e = .returned v' ∧ w'.ownsRow w.heap.size 3 1 v' (ats.length + (made - ats.length)) (is64 (ats ++ List.replicate (made - ats.length) (-1))) ∧ Below w.heap.size w w' := by
  have c1 : w.cell? ⟨rp, 68, none⟩ = some av := (h.blk.cell 68).trans h.rc.c68
  have c0 : w.cell? ⟨rp, 0, none⟩ = some (.pointer (some ⟨bm, 0, none⟩)) := (h.blk.cell 0).trans h.rc.c0
  have hlt : rp < w.heap.size := h.blk.lt
  have HC := Lib.hid (CloneI_own h.avo hn is64_one)
  have HLV := Lib.hid hlive
  have HM := Lib.hid hmade
  obtain ⟨i0, hi, hz0, hz1, hz2⟩ := info_parts infoI
  clear h hlive hmade
  go_enter Tryz.func11, Tryz.ntmps11
  go_wp2_with fail
  refine HLV.out.mono ?_
  rintro e w1 ⟨rfl, rfl⟩
  go_wp2_with fail
  refine HC.out.mono ?_
  rintro e w1 ⟨v', rfl, hv, hb⟩
  have HV : Hid (w1.ownsRow w.heap.size 3 1 v' ats.length (is64 ats) ∧ Below w.heap.size w w1) := ⟨hv, hb⟩
  clear hv hb c1 HC HLV
  go_wp2_with fail
  go_loopw [3] (fun s wr => ∃ (k : Nat), k ≤ made - ats.length ∧ wr.ownsRow w.heap.size 3 1 s (ats.length + k) (is64 (ats ++ List.replicate k (-1))) ∧ Below w.heap.size w wr) (fun s _ => made - lenOf s)
  case atStart => exact ⟨0, Nat.zero_le _, by simpa using HV.out.1, HV.out.2⟩
  case round =>
    clear HV
    obtain ⟨k, hk, hown, hbel⟩ := hrel
    obtain ⟨sp, sc, rfl⟩ := bk_form hown
    have d0 : wr.cell? ⟨rp, 0, none⟩ = some (.pointer (some ⟨bm, 0, none⟩)) := (hbel.cell (p := ⟨rp, 0, none⟩) hlt).trans c0
    have HB := Lib.hid hbel
    have HMW := Lib.hid (HM.out wr hbel)
    have HO := Lib.hid hown
    clear hbel hown
    go_wp2_with fail
    refine HMW.out.mono ?_
    rintro e w2 ⟨rfl, rfl⟩
    by_cases hlt2 : ats.length + k < made
    · have hownA : (wr.alloc (.cells #[.int .i64 (-1)] 3)).ownsRow w.heap.size 3 1 (.slice sp (ats.length + k) sc) (ats.length + k) (is64 (ats ++ List.replicate k (-1))) := own_fr HO.out ((Fr.refl (fun _ => False) wr).alloc _) (fun _ _ e => e)
      have hsz := HB.out.size
      have HOO := Lib.hid HO.out
      clear HO HMW
      go_wp2_with (at_builtin; refine wpList_append_own _ rfl _ _ 23 rfl w.heap.size 3 i0 _ 1 8 Tryz.underlying23 hi hz0 hz1 hz2 rfl (by decide) _ _ _ rfl hownA ⟨wr.heap.size, 0, none⟩ 1 1 [.int .i64 (-1)] rfl rfl (cell_one_new _ _ _) (by simp [Value.oneCell']) (by unfold maxLen; omega) (by omega) (by simp; omega) ?_; intro v2 w2 hown2 hgrow2 _)
      have hB : Below w.heap.size w w2 := by
        refine (HB.out.alloc hsz _).grown hgrow2 (by simp; omega) ?_
        intro g hg
        rcases HOO.out.2 with ⟨e, _⟩ | ⟨g', cap, cur, e, hb', _⟩
        · rw [e] at hg; cases hg
        · have hg' : (Value.slice sp (ats.length + k) sc).ownBlock = some g := hg
          rw [e] at hg'
          have e3 : g' = g := by simpa [Value.ownBlock] using hg'
          omega
      clear hgrow2 hownA
      obtain ⟨sp2, sc2, rfl⟩ := bk_form hown2
      refine ⟨⟨k + 1, by omega, ?_, hB⟩, ?_⟩
      · have e2 : is64 (ats ++ List.replicate (k + 1) (-1)) = is64 (ats ++ List.replicate k (-1)) ++ [Value.int .i64 (-1)] := by rw [pad_next]; simp [is64]
        rw [e2]
        exact hown2
      · simp [lenOf]; omega
    · have hkk : k = made - ats.length := by omega
      go_wp2_with fail
      go_ret
      exact ⟨_, rfl, by rw [← hkk]; exact HO.out, HB.out⟩
end
end Go.Proofs.YtkaplifhaafpdaaGreat
end

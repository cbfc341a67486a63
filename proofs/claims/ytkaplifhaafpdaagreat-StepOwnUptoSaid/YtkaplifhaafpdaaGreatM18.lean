/-
  StEP, StProcW: the texts of the proof, merged. No condition.
-/
import Derived.Test.YtkaplifhaafpdaaGreatM16
import Derived.Test.YtkaplifhaafpdaaGreatM17
import Derived.Test.YtkaplifhaafpdaaGreatM13
section
/-
  The program's runner over the law's procs: a pick. No condition.
-/
namespace Go.Proofs.YtkaplifhaafpdaaGreat
open Go Go.RowKit
set_option linter.unusedSimpArgs false
set_option linter.unusedVariables false
def thrAt (a : Value × List (Option Nat)) (x : TS) : Thr := ⟨a.1, a.2.map pval, x.call, decide (x.at_ ≠ 0)⟩
def thrs (PV : List (Value × List (Option Nat))) (th : List TS) : List Thr := List.zipWith thrAt PV th
/-- what does not change of a runner over the law's procs -/
structure Lay where
  rp : Nat
  bm : Nat
  vws : List Nat
  PV : List (Value × List (Option Nat))
def Lay.lays (L : Lay) : List (List (Option Nat)) := L.PV.map (·.2)
structure Lay.OK (L : Lay) (ll : List (List Plan)) : Prop where
  lay : LayOK ll L.lays
  vl : L.vws.length = ll.length
  pl : L.PV.length = ll.length
/-- the program's runner over the law's procs, at a state of the plain law -/
structure PG (W w : World) (G : Nat → Prop) (L : Lay) (ll : List (List Plan)) (s : St) : Prop where
  ex : ∃ R E ats, PJ (nul W) w R E (EnvI W L.bm L.vws ll L.lays s) L.rp L.bm L.vws (thrs L.PV s.th) s.steps s.evs ats ∧ ats ++ List.replicate (s.A.trace.length - ats.length) (-1) = s.wh ∧ (∀ k, G k ↔ (R k ∨ E k) ∧ W.heap.size ≤ k)
  lay : L.OK ll
  ok : s.Ok ll
/-- from w to w' only G was written -/
structure Gk (w w' : World) (G G' : Nat → Prop) : Prop where
  ne : ∀ b, b < w.heap.size → ¬ G b → ¬ G' b
  fr : Fr G w w'
section
variable {W w w' w1 : World} {G G' S E F : Nat → Prop} {L : Lay} {t k pb v : Nat} {ll : List (List Plan)} {s : St} {x : TS} {p : Plan} {l : List Plan}
theorem Gk.refl (w : World) (G : Nat → Prop) : Gk w w G G := ⟨fun _ _ e => e, Fr.refl _ _⟩
theorem Gk.trans {G2 : Nat → Prop} {w2 : World} (h : Gk w w1 G G') (k : Gk w1 w2 G' G2) : Gk w w2 G G2 :=
  ⟨fun b hb hn => k.ne b (Nat.lt_of_lt_of_le hb h.fr.size) (h.ne b hb hn), ⟨k.fr.os.trans h.fr.os, k.fr.tape.trans h.fr.tape, k.fr.output.trans h.fr.output, Nat.le_trans h.fr.size k.fr.size, fun b hb hn => (k.fr.block b (Nat.lt_of_lt_of_le hb h.fr.size) (h.ne b hb hn)).trans (h.fr.block b hb hn)⟩⟩
theorem Gk.drawn (h : Gk w w1 G G') (n : Nat) : Gk w (w1.drewN n) G G' := ⟨h.ne, h.fr.drawn n⟩
theorem PG.bel (h : PG W w G L ll s) : Below W.heap.size W w := by
  obtain ⟨⟨R, E, ats, j, _, _⟩, _, _⟩ := h
  obtain ⟨F, gvf, hx⟩ := j.env
  exact hx.bel
theorem PG.pos (h : PG W w G L ll s) : ∀ k, G k → W.heap.size ≤ k ∧ k < w.heap.size := by
  obtain ⟨⟨R, E, ats, j, _, hG⟩, hl, ok⟩ := h
  intro k hk
  obtain ⟨h1 | h1, h2⟩ := (hG k).1 hk
  · exact ⟨h2, (j.ro.pos k h1).2⟩
  · exact ⟨h2, ((EnvI.ok hl.lay ok).pos E w j.env k h1).2⟩
theorem PG.make {R E : Nat → Prop} {ats : List Int} (j : PJ (nul W) w' R E (EnvI W L.bm L.vws ll L.lays s) L.rp L.bm L.vws (thrs L.PV s.th) s.steps s.evs ats) (ha : ats ++ List.replicate (s.A.trace.length - ats.length) (-1) = s.wh) (hl : L.OK ll) (ok : s.Ok ll) : PG W w' (fun k => (R k ∨ E k) ∧ W.heap.size ≤ k) L ll s :=
  ⟨⟨R, E, ats, j, ha, fun _ => Iff.rfl⟩, hl, ok⟩
theorem PG.fr (h : PG W w G L ll s) (hf : Fr S w w') (hS : ∀ k, S k → W.heap.size ≤ k ∧ ¬ G k) : PG W w' G L ll s := by
  obtain ⟨⟨R, E, ats, j, ha, hG⟩, hl, ok⟩ := h
  have hRE : ∀ k, (R k ∨ E k) → ¬ S k := fun k hk hs => (hS k hs).2 ((hG k).2 ⟨hk, (hS k hs).1⟩)
  exact ⟨⟨R, E, ats, ⟨j.ro.fr hf fun k hk => hRE k (.inl hk), (EnvI.ok hl.lay ok).st E S w w' j.env hf fun k hk => hRE k (.inr hk), j.dis, Nat.zero_le _⟩, ha, hG⟩, hl, ok⟩
theorem PG.bl (h : PG W w G L ll s) (hb : Below w.heap.size w w') : PG W w' G L ll s := h.fr (Fr.of_below (S := fun _ => False) hb) (fun _ e => e.elim)
theorem PG.drawn (h : PG W w G L ll s) (n : Nat) : PG W (w.drewN n) G L ll s := h.fr ((Fr.refl (fun _ => False) w).drawn n) (fun _ e => e.elim)
theorem PG.ofPS {R E : Nat → Prop} {s' : St} {ats' : List Int} {T' : List Thr} {st' : Nat} {evs' : List Ev} {A : (Nat → Prop) → World → Prop} (h : PG W w G L ll s) (hG : ∀ k, G k ↔ (R k ∨ E k) ∧ W.heap.size ≤ k) (hps : PS (nul W) w w' (fun k => R k ∨ E k) A L.rp L.bm L.vws T' st' evs' ats') (hA : ∀ E w, A E w → EnvI W L.bm L.vws ll L.lays s' E w)
    (hT : T' = thrs L.PV s'.th) (hs : st' = s'.steps) (he : evs' = s'.evs) (ha : ats' ++ List.replicate (s'.A.trace.length - ats'.length) (-1) = s'.wh) (ok : s'.Ok ll) : ∃ G', PG W w' G' L ll s' ∧ Gk w w' G G' := by
  subst hT hs he
  obtain ⟨R', E', j, hn, hf⟩ := hps
  have j' : PJ (nul W) w' R' E' (EnvI W L.bm L.vws ll L.lays s') L.rp L.bm L.vws (thrs L.PV s'.th) s'.steps s'.evs ats' := ⟨j.ro, hA _ _ j.env, j.dis, j.sz⟩
  have hp := PG.make j' ha h.lay ok
  have hbs := h.bel.size
  refine ⟨_, hp, fun b hb hnG hG' => ?_, ⟨hf.os, hf.tape, hf.output, hf.size, fun b hb hnG => ?_⟩⟩
  · exact hn b hb (fun e => hnG ((hG b).2 ⟨e, hG'.2⟩)) hG'.1
  · rcases Nat.lt_or_ge b W.heap.size with h1 | h1
    · exact (hp.bel.block b h1).trans (h.bel.block b h1).symm
    · exact hf.block b hb (fun e => hnG ((hG b).2 ⟨e, h1⟩))
theorem thrs_at {PV : List (Value × List (Option Nat))} {th : List TS} {a : Value × List (Option Nat)} (ha : PV[t]? = some a) (hx : th[t]? = some x) : (thrs PV th)[t]? = some (thrAt a x) := by
  unfold thrs
  rw [List.getElem?_zipWith, ha, hx]
theorem thrs_set {a : Value × List (Option Nat)} : ∀ {th : List TS} {t : Nat} {PV : List (Value × List (Option Nat))}, PV[t]? = some a → ∀ y : TS, thrs PV (th.set t y) = (thrs PV th).set t (thrAt a y)
  | [], t, PV, h, y => by simp [thrs]
  | x :: th, t, [], h, y => by simp [thrs]
  | x :: th, 0, b :: PV, h, y => by
    have h : b = a := by simpa using h
    subst h
    simp [thrs]
  | x :: th, t + 1, b :: PV, h, y => by
    have := thrs_set (th := th) (t := t) (PV := PV) (a := a) (by simpa using h) y
    simp only [thrs, List.set_cons_succ, List.zipWith_cons_cons] at this ⊢
    rw [this]
theorem thrs_len (hl : L.OK ll) (ok : s.Ok ll) : (thrs L.PV s.th).length = ll.length := by
  unfold thrs
  rw [List.length_zipWith, hl.pl, ok.tl, Nat.min_self]
theorem lay_at (hl : L.OK ll) (h : t < ll.length) : ∃ a, L.PV[t]? = some a ∧ L.lays[t]? = some a.2 := by
  obtain ⟨a, ha⟩ : ∃ a, L.PV[t]? = some a := ⟨_, List.getElem?_eq_getElem (by rw [hl.pl]; exact h)⟩
  exact ⟨a, ha, by unfold Lay.lays; rw [List.getElem?_map, ha]; rfl⟩
theorem idle_thrs (hl : L.OK ll) (ok : s.Ok ll) (t : Int) : idle (thrs L.PV s.th) t = s.idle ll t := by
  by_cases h0 : t < 0
  · rw [idle_neg h0]; unfold idle; rw [if_neg (by omega)]
  · obtain ⟨k, rfl⟩ : ∃ k : Nat, t = k := ⟨t.toNat, by omega⟩
    by_cases h1 : k < ll.length
    · obtain ⟨a, ha, ha2⟩ := lay_at hl h1
      obtain ⟨x, hx⟩ : ∃ x, s.th[k]? = some x := ⟨_, List.getElem?_eq_getElem (by rw [ok.tl]; exact h1)⟩
      obtain ⟨l, hll⟩ : ∃ l, ll[k]? = some l := ⟨_, List.getElem?_eq_getElem h1⟩
      rw [idle_in (thrs_at ha hx), idle_at hx hll]
      have := hl.lay.len k a.2 l ha2 hll
      simp [thrAt, this]
    · rw [idle_out (by omega)]
      unfold idle
      rw [if_neg (by rw [thrs_len hl ok]; omega)]
theorem pad_noted {ats wh : List Int} {st m m' : Nat} (h : ats ++ List.replicate (m - ats.length) (-1) = wh) (hl : wh.length = m) (hm : m ≤ m') : noted ats st m m' ++ List.replicate (m' - (noted ats st m m').length) (-1) = wh ++ List.replicate (m' - m) (st : Int) := by
  have hal : ats.length + (m - ats.length) = m := by rw [← hl, ← h]; simp
  have h1 : noted ats st m m' = wh ++ List.replicate (m' - m) (st : Int) := by
    unfold noted
    rw [h, hal]
  rw [h1, List.length_append, hl, List.length_replicate, show m' - (m + (m' - m)) = 0 from by omega]
  simp
/-- a proc that is nil is done -/
theorem EnvX.skip {bm : Nat} {vws : List Nat} {lays : List (List (Option Nat))} {gvf : Nat → Value} (h : EnvX W bm vws ll lays s E w F gvf) (hl : LayOK ll lays) (ok : s.Ok ll) (hat : s.at? ll t = some (x, p)) (hn : p.none = true) : EnvX W bm vws ll lays (s.go t x p) E w F gvf := by
  obtain ⟨hx, l, hll, hp⟩ := at_some hat
  have hok := ok.th t x l hx hll
  have hm : s.mem t (p.act x.at_) = s.A := by unfold Plan.act St.mem; rw [hn]; rfl
  refine ⟨by rw [show (s.go t x p).A = s.mem t (p.act x.at_) from rfl, hm]; exact h.pm, h.fE, fun u v2 hv2 => ?_, fun t2 k2 pb2 x2 l2 p2 h1 h2 h3 h4 => ?_, h.dj, h.pos, h.arg, h.fa, h.ga, h.va, h.bel⟩
  · obtain ⟨⟨m2, a2, c2, c3⟩, n2, e2⟩ := h.vw u v2 hv2
    exact ⟨⟨m2, a2, c2, Int.le_trans c3 (by show (s.steps : Int) ≤ ((s.steps + 1 : Nat) : Int); omega)⟩, n2, e2⟩
  · have h2 : (s.th.set t (x.next (s.says (p.act x.at_)) (p.dn x.at_)))[t2]? = some x2 := h2
    by_cases e2 : t = t2
    · subst e2
      rw [List.getElem?_set_self (List.getElem?_eq_some_iff.1 hx).1] at h2
      injection h2 with h2
      subst h2
      rw [hll] at h3; injection h3 with h3; subst h3
      have hk : k2 ≠ x.call := by
        rintro rfl
        obtain ⟨l', p', q1, q2, q3⟩ := layAt_some h1 hl
        rw [hll] at q1; injection q1 with q1; subst q1
        rw [hp] at q2; injection q2 with q2; subst q2
        rw [hn] at q3; cases q3
      obtain ⟨r1, r2⟩ := took_next hok hp h4 (s.says (p.act x.at_)) hk
      rw [r1, r2]
      exact h.pr t k2 pb2 x l p2 h1 hx hll h4
    · rw [List.getElem?_set_ne e2] at h2
      exact h.pr t2 k2 pb2 x2 l2 p2 h1 h2 h3 h4
/-- a proc's own step -/
theorem Env_step (hl : L.OK ll) (hn : Fits ll) (ok : s.Ok ll) (hs : s.steps ≤ 40000000) (hat : s.at? ll t = some (x, p)) (hv : L.vws[t]? = some v) (hpb : layAt L.lays t x.call = some (some pb)) (h : EnvI W L.bm L.vws ll L.lays s E w) :
    Calls Tryz.prog 104 #[.pointer (some ⟨pb, 0, none⟩), .pointer (some ⟨v, 0, none⟩)] w fun e w' => e = .returned (.bool (p.dn x.at_)) ∧ ∃ E', EnvI W L.bm L.vws ll L.lays (s.go t x p) E' w' ∧ (∀ b, b < w.heap.size → ¬ E b → ¬ E' b) ∧ Fr E w w' := by
  obtain ⟨F, gvf, h⟩ := h
  obtain ⟨hx, l, hll, hp⟩ := at_some hat
  have hok := ok.th t x l hx hll
  obtain ⟨l', p', hl1, hp1, hpn⟩ := layAt_some hpb hl.lay
  rw [hll] at hl1; injection hl1 with hl1; subst hl1
  rw [hp] at hp1; injection hp1 with hp1; subst hp1
  obtain ⟨⟨lv, b0, d0⟩, o0, nF0, e0, g0⟩ := h.pr t x.call pb x l p hpb hx hll hp
  obtain ⟨⟨m0, v0, hm0, hm1⟩, nv0, ev0⟩ := h.vw t v hv
  have htk : x.took x.call p = x.at_ := by unfold TS.took; rw [if_neg (by omega), if_pos rfl]
  rw [htk] at b0
  have hps : PSt w F L.bm v pb t m0 s.A lv x.at_ (gvf pb) (x.got.getD x.call []) := ⟨h.pm, v0, b0, o0, nv0, nF0, fun g hg => (g0 g hg).1, fun k hk => h.pos k (h.fE k hk)⟩
  obtain ⟨dp, dc, rfl, hdn, hdo⟩ := id d0
  have hpf := hn.p l (List.mem_of_getElem? hll) p (List.mem_of_getElem? hp)
  have hgl : (x.got.getD x.call []).length ≤ 1000000000 := by
    have h1 := ok.gt t x hx
    have h2 : (x.got.getD x.call []).length ≤ x.got.flatten.length := by
      have hc : x.call < x.got.length := by rw [hok.gl]; exact (List.getElem?_eq_some_iff.1 hp).1
      rw [List.getD_eq_getElem?_getD, List.getElem?_eq_getElem hc]
      simp only [Option.getD_some, List.length_flatten]
      exact sum_mem (f := List.length) (List.getElem_mem hc)
    omega
  by_cases ha : x.at_ < p.l.length
  · obtain ⟨d, hd⟩ : ∃ d, p.l[x.at_]? = some d := ⟨_, List.getElem?_eq_getElem ha⟩
    obtain ⟨b, o, ap, ac, rfl, hda, hva, hnil⟩ := hdo _ d hd
    have hdf := hpf.2 d (List.mem_of_getElem? hd)
    have hact : p.act x.at_ = some d := by unfold Plan.act; rw [hpn]; simpa using hd
    have hoff : d.vals ≠ [] → Off (.slice ap d.vals.length ac) (fun k => F k ∨ k = v ∨ k = pb ∨ (gvf pb).ownBlock = some k) := by
      intro hne ad n c e hk
      obtain ⟨p', c', e1', hq⟩ := hva
      rcases hq with hq | ⟨ad', e2', hq, _⟩
      · exact hne hq
      · injection e with e _ _
        injection e1' with e1' _ _
        rw [e2'] at e1'
        rw [e1'] at e
        injection e with e
        subst e
        rcases hk with e | e | e | e
        · have := h.fa _ e; omega
        · rw [e] at hq; have := h.va v (List.mem_of_getElem? hv); omega
        · rw [e] at hq; have := (h.ga t x.call pb hpb).1; omega
        · have := (h.ga t x.call pb hpb).2 _ e; omega
    have hq := QStep_any hps ha (by omega) (hda.below h.bel) hdf.1.1 hdf.1.2 (hva.fr (Fr.of_below (S := fun _ => False) h.bel) (fun _ _ _ _ e => e)) hoff hnil (by omega) ok.fit hm0 (by omega) hgl
    refine hq.mono ?_
    rintro e w' ⟨rfl, F', gv', hps', hF', hg', hf⟩
    refine ⟨by rw [show p.dn x.at_ = decide (p.l.length ≤ x.at_ + 1) from by unfold Plan.dn; rw [hpn]; rfl], ?_⟩
    have hm : s.mem t (p.act x.at_) = s.A.make t d := by rw [hact]; rfl
    refine h.go hl.lay ok hat hv hpb (made' := if 1 ≤ d.kind ∧ d.kind ≤ 5 then m0 + 1 else m0) (i' := x.at_ + 1) (wd := if 1 ≤ d.kind ∧ d.kind ≤ 5 then [s.A.tell d] else []) ?_ (by rw [if_pos ha]) d0 (by split <;> omega) (by rw [hm]; exact hps') hF' hg' hf
    rw [hact]
    unfold St.says Do.real
    by_cases hr : 1 ≤ d.kind ∧ d.kind ≤ 5 <;> simp [hr]
  · have hz : p.l.length = 0 ∧ x.at_ = 0 := by
      by_cases h0 : x.at_ = 0
      · exact ⟨by omega, h0⟩
      · exact absurd (hok.at_ p hp h0).2 ha
    have hact : p.act x.at_ = none := by unfold Plan.act; rw [hpn]; simp; omega
    refine (QStep_end hps (by omega) (by omega)).mono ?_
    rintro e w' ⟨rfl, k, rfl⟩
    refine ⟨by rw [show p.dn x.at_ = true from by unfold Plan.dn; rw [hpn]; simp; omega], ?_⟩
    have hm : s.mem t (p.act x.at_) = s.A := by rw [hact]; rfl
    refine h.go hl.lay ok hat hv hpb (made' := m0) (i' := x.at_) (wd := []) (gv' := gvf pb) (F' := F) (by rw [hact]; rfl) (by rw [if_neg ha]) d0 (by omega) ?_ (fun k hk => .inl hk) (fun g hg => .inl hg) ((Fr.refl _ w).drawn k)
    rw [hm, List.append_nil]
    exact hps.bel (((Fr.refl (fun _ => False) w).drawn k).below (fun _ _ e => e))
theorem PPick_any (h : PG W w G L ll s) (hn : Fits ll) (hs : s.steps ≤ 40000000) (t : Int) : Calls Tryz.prog 6 #[.pointer (some ⟨L.rp, 0, none⟩), .int .i64 t] w fun e w' => e = .returned (.bool (!s.idle ll t)) ∧ ∃ G', PG W w' G' L ll (s.one ll t) ∧ Gk w w' G G' := by
  obtain ⟨⟨R, E, ats, j, ha, hG⟩, hl, ok⟩ := id h
  have hok := EnvI.ok (W := W) (bm := L.bm) (vws := L.vws) hl.lay ok
  have htl := thrs_len hl ok
  have hn1 := hn.n
  have htr := ok.tr
  have hel := ok.el
  have hpl : ∀ X ∈ thrs L.PV s.th, X.procs.length ≤ 1000000 := by
    intro X hX
    obtain ⟨i, hi⟩ := List.getElem?_of_mem hX
    have hil := (List.getElem?_eq_some_iff.1 hi).1
    rw [htl] at hil
    obtain ⟨a, ha, ha2⟩ := lay_at hl hil
    obtain ⟨y, hy⟩ : ∃ y, s.th[i]? = some y := ⟨_, List.getElem?_eq_getElem (by rw [ok.tl]; exact hil)⟩
    obtain ⟨l, hll⟩ : ∃ l, ll[i]? = some l := ⟨_, List.getElem?_eq_getElem hil⟩
    rw [thrs_at ha hy] at hi
    injection hi with hi
    subst hi
    have h1 := hl.lay.len i a.2 l ha2 hll
    have h2 := hn.l l (List.mem_of_getElem? hll)
    simp [thrAt]; omega
  have hal : ats.length ≤ s.A.trace.length := by
    have := congrArg List.length ha
    rw [ok.wl] at this
    simp at this; omega
  cases hi : s.idle ll t
  · have h0 : ¬ t < 0 := fun e => by rw [idle_neg e] at hi; cases hi
    obtain ⟨k, rfl⟩ : ∃ k : Nat, t = k := ⟨t.toNat, by omega⟩
    obtain ⟨x, p, hat⟩ : ∃ x p, s.at? ll k = some (x, p) := by
      unfold St.idle at hi
      rw [if_pos (by omega)] at hi
      simp only [Int.toNat_natCast] at hi
      cases hq : s.at? ll k with
      | none => rw [hq] at hi; cases hi
      | some y => exact ⟨y.1, y.2, rfl⟩
    have hone : s.one ll (k : Int) = s.go k x p := by
      unfold St.one
      rw [if_pos (by omega)]
      simp only [Int.toNat_natCast, hat]
    rw [hone]
    obtain ⟨hx, l, hll, hp⟩ := at_some hat
    have hkl := (List.getElem?_eq_some_iff.1 hll).1
    obtain ⟨a, hpv, hla⟩ := lay_at hl hkl
    have hok' := ok.go hat (by omega)
    have hX := thrs_at hpv hx
    have hlen := hl.lay.len k a.2 l hla hll
    have hcl := (List.getElem?_eq_some_iff.1 hp).1
    have hXi : (thrAt a x).pos < (thrAt a x).procs.length := by simp [thrAt]; omega
    obtain ⟨v, hv⟩ : ∃ v, L.vws[k]? = some v := ⟨_, List.getElem?_eq_getElem (by rw [hl.vl]; exact hkl)⟩
    have hpr : (thrAt a x).procs[(thrAt a x).pos]? = (a.2[x.call]?).map pval := by simp [thrAt]
    have hT : ∀ d, d = p.dn x.at_ → pickT (thrs L.PV s.th) k (thrAt a x) d = thrs L.PV (s.go k x p).th := by
      intro d hd
      subst hd
      show _ = thrs L.PV (s.th.set k (x.next (s.says (p.act x.at_)) (p.dn x.at_)))
      rw [thrs_set (PV := L.PV) hpv]
      unfold pickT
      congr 1
      unfold thrAt TS.next
      cases p.dn x.at_ <;> simp
    have hE : ∀ d, d = p.dn x.at_ → pickE s.evs s.steps k (thrAt a x) d = (s.go k x p).evs := by
      intro d hd
      subst hd
      have hb : begun s.evs s.steps k (thrAt a x) = s.began k x := by
        unfold begun St.began thrAt
        by_cases h0 : x.at_ = 0 <;> simp [h0]
      unfold pickE St.go
      rw [hb]
      rfl
    have hA : ∀ m', m' = (s.go k x p).A.trace.length → noted ats s.steps s.A.trace.length m' ++ List.replicate ((s.go k x p).A.trace.length - (noted ats s.steps s.A.trace.length m').length) (-1) = (s.go k x p).wh := by
      intro m' hm'
      subst hm'
      exact pad_noted ha ok.wl (by show _ ≤ (s.mem k (p.act x.at_)).trace.length; rw [mem_len]; omega)
    have hml : (s.go k x p).A.trace.length = s.A.trace.length + (s.says (p.act x.at_)).length := mem_len _
    have hsl := says_le (s := s) (p.act x.at_)
    cases hpn : p.none
    · obtain ⟨pb, hpb⟩ : ∃ pb, a.2[x.call]? = some (some pb) := by
        obtain ⟨y, hy⟩ : ∃ y, a.2[x.call]? = some y := ⟨_, List.getElem?_eq_getElem (by omega)⟩
        cases y with
        | none => have := (hl.lay.no k x.call a.2 l p hla hll hp).2 hy; rw [hpn] at this; cases this
        | some pb => exact ⟨pb, hy⟩
      have hlat : layAt L.lays k x.call = some (some pb) := by unfold layAt; rw [hla]; exact hpb
      have hpr2 : (thrAt a x).procs[(thrAt a x).pos]? = some (.iface 123 (.pointer (some ⟨pb, 0, none⟩))) := by rw [hpr, hpb]; rfl
      have hok2 := EnvI.ok (W := W) (bm := L.bm) (vws := L.vws) hl.lay hok'
      refine (Pick_Proc j hok hok2 hX hXi hpr2 hv (by omega) hpl (by omega) (by omega) (by omega) (by omega) (by omega) (fun E1 w1 hE1 => Env_step hl hn ok hs hat hv hlat hE1)).mono ?_
      rintro e w' ⟨rfl, hps⟩
      exact ⟨rfl, h.ofPS hG hps (fun _ _ e => e) (hT _ rfl) rfl (hE _ rfl) (hA _ rfl) hok'⟩
    · have hnl : a.2[x.call]? = some none := (hl.lay.no k x.call a.2 l p hla hll hp).1 hpn
      have hpr2 : (thrAt a x).procs[(thrAt a x).pos]? = some .nilIface := by rw [hpr, hnl]; rfl
      have hd : true = p.dn x.at_ := by unfold Plan.dn; rw [hpn]; rfl
      have hm : s.mem k (p.act x.at_) = s.A := by unfold Plan.act St.mem; rw [hpn]; rfl
      refine (Pick_Nil j hok hX hXi hpr2 hv (by omega) hpl (by omega) (by omega) (by omega) (by omega)).mono ?_
      rintro e w' ⟨rfl, hps⟩
      exact ⟨rfl, h.ofPS hG hps (fun E w ⟨F, gvf, e⟩ => ⟨F, gvf, e.skip hl.lay ok hat hpn⟩) (hT _ hd) rfl (hE _ hd) (hA _ (by show _ = (s.mem k (p.act x.at_)).trace.length; rw [hm])) hok'⟩
  · have hone : s.one ll t = { s with steps := s.steps + 1 } := by
      unfold St.one
      split
      · rename_i h0
        unfold St.idle at hi
        rw [if_pos h0] at hi
        split
        · rename_i y z hq; rw [hq] at hi; cases hi
        · rfl
      · rfl
    have hok1 := ok.one t (by omega)
    rw [hone] at hok1 ⊢
    refine (Pick_idle j hok t (by rw [idle_thrs hl ok]; exact hi) (by omega) (fun x hx => by have := hpl x hx; omega) (by omega)).mono ?_
    rintro e w' ⟨rfl, hps⟩
    refine ⟨rfl, h.ofPS (s' := { s with steps := s.steps + 1 }) hG hps (fun E w ⟨F, gvf, e⟩ => ⟨F, gvf, ⟨e.pm, e.fE, fun u v2 hv2 => ?_, e.pr, e.dj, e.pos, e.arg, e.fa, e.ga, e.va, e.bel⟩⟩) rfl rfl rfl ha hok1⟩
    obtain ⟨⟨m2, a2, c2, c3⟩, n2, e2⟩ := e.vw u v2 hv2
    exact ⟨⟨m2, a2, c2, Int.le_trans c3 (by show (s.steps : Int) ≤ ((s.steps + 1 : Nat) : Int); omega)⟩, n2, e2⟩
end
end Go.Proofs.YtkaplifhaafpdaaGreat
end
section
/-
  procs, walked. No condition.
-/
namespace Go.Proofs.YtkaplifhaafpdaaGreat
open Go Go.RowKit
set_option linter.unusedSimpArgs false
set_option linter.unusedVariables false
section
variable {w0 w : World} {ll : List (List Plan)} {tv : Value}
theorem OutP.low {wr : World} {lays : List (List (Option Nat))} {av mv : Value} {rs ms : List Value} (h : OutP w0 w wr ll lays av mv rs ms) : w.heap.size ≤ wr.heap.size := h.bel.size
set_option maxHeartbeats 2000000 in
set_option maxRecDepth 100000 in
theorem procs_any (h : PlansAt w0 tv ll) (hb0 : Below w0.heap.size w0 w) (hn : ll.length ≤ 1048576) (hl : ∀ l ∈ ll, l.length ≤ 1048576) :
    Calls Tryz.prog 24 #[tv] w fun e w' => ∃ lays av mv rs ms, e = .returned (.tuple #[av, mv]) ∧ Hid (OutP w0 w w' ll lays av mv rs ms ∧ lays.length = ll.length) := by
  obtain ⟨tp, tc, rfl, _, hth⟩ := h
  have HTH := Lib.hid hth
  have HB0 := Lib.hid hb0
  have HL := Lib.hid hl
  clear hth hb0 hl
  go_enter Tryz.func24, Tryz.ntmps24
  go_wp2_with fail
  go_loopw [4, 5, 6] (fun s4 s5 s6 wr => ∃ (i : Nat) (lays : List (List (Option Nat))) (rs ms : List Value), s6 = .int .i64 i ∧ i ≤ ll.length ∧ Hid (OutP w0 w wr ll lays s4 s5 rs ms ∧ lays.length = i)) (fun _ _ s6 _ => ll.length - (intOf s6).toNat)
  case atStart => exact ⟨0, [], [], [], rfl, Nat.zero_le _, OutP.start _ _ _, rfl⟩
  case round =>
    obtain ⟨i, lays, rs, ms, rfl, hi, HO⟩ := hrel
    by_cases hlt : i < ll.length
    · obtain ⟨pl, hpl⟩ : ∃ pl, ll[i]? = some pl := ⟨_, List.getElem?_eq_getElem hlt⟩
      obtain ⟨b, o, u, rfl, hbl, hc, hpa⟩ := HTH.out i pl hpl
      obtain ⟨pp, pc, rfl, _, hps⟩ := hpa
      have hpn := HL.out pl (List.mem_of_getElem? hpl)
      have hbw : Below w0.heap.size w0 wr := HB0.out.trans (HO.out.1.bel.mono HB0.out.size)
      have RD := Lib.hid (fun (wx : World) (hbx : Below w0.heap.size w0 wx) => (hbx.cell (p := ⟨b, o + i, none⟩) hbl).trans hc)
      have HPS := Lib.hid hps
      have HPL := Lib.hid hpl
      have HBW := Lib.hid hbw
      clear hps hc hbw hpl
      obtain ⟨wi, rfl⟩ : ∃ wi : World, wi = wr := ⟨_, rfl⟩
      go_wp2_with fail
      go_loopw [7, 8, 9] (fun s7 s8 s9 wx => ∃ (k : Nat) (lay : List (Option Nat)), s9 = .int .i64 k ∧ k ≤ pl.length ∧ Hid (InP w0 wi wx pl lay (lay.map pval) (mptrs lay) s7 s8 ∧ lay.length = k)) (fun _ _ s9 _ => pl.length - (intOf s9).toNat)
      case atStart => exact ⟨0, [], rfl, Nat.zero_le _, InP.start _ _ _, rfl⟩
      case round =>
        obtain ⟨k, lay, rfl, hk, HI⟩ := hrel
        have hbx : Below w0.heap.size w0 wr := HBW.out.trans (HI.out.1.bel.mono HBW.out.size)
        have c1 := RD.out _ hbx
        obtain ⟨lp, lc, e⟩ := bk_form HI.out.1.ol
        obtain ⟨mp, mc, e'⟩ := bk_form HI.out.1.om
        subst e e'
        have hlen := HI.out.2
        have hl1 : lay.length ≤ 1000000000 := by omega
        rw [List.length_map] at *
        have hl2 : (mptrs lay).length ≤ 1000000000 := by
          have := List.length_filterMap_le id lay
          simp [mptrs]; omega
        have hws := Lib.hid HI.out.1.bel.size
        have HLEN := Lib.hid hlen
        clear hlen
        by_cases hlk : k < pl.length
        · obtain ⟨x, hx⟩ : ∃ x, pl[k]? = some x := ⟨_, List.getElem?_eq_getElem hlk⟩
          obtain ⟨b2, o2, u2, rfl, hb2, d0, d1, hd⟩ := HPS.out k x hx
          have e0 : wr.cell? ⟨b2, o2 + k * 2, none⟩ = some (.bool x.none) := (hbx.cell (p := ⟨b2, _, none⟩) hb2).trans d0
          have e1 : wr.cell? ⟨b2, o2 + k * 2 + 1, none⟩ = some u2 := (hbx.cell (p := ⟨b2, _, none⟩) hb2).trans d1
          have hd' := hd
          obtain ⟨dp, dc, rfl, -, -⟩ := hd'
          rw [← HLEN.out] at hx
          cases hnn : x.none
          · have HBOX := Lib.hid (HI.out.1.box hx hnn hd)
            have HOL := Lib.hid (fun o => own_fr (by have := HBOX.out.ol; rw [List.length_map] at this; exact this) ((Fr.refl (fun _ => False) _).alloc o) (fun _ _ e => e))
            rw [hnn] at e0
            clear hnn hd hx d0 d1
            have hsz : wi.heap.size ≤ (wr.alloc (.cells #[.slice dp x.l.length dc, .int .i64 0, .slice none 0 0] 122)).heap.size := HBOX.out.bel.size
            go_wp2_with (at_builtin; first | (refine app_one infoP Tryz.underlying73 rfl (by decide) rfl _ _ rfl rfl (HOL.out _) rfl (by simp) rfl hl1 hsz ?_; intro v5 w5 ho5 hg5 _; have HI5 := Lib.hid (HBOX.out.pushL (by rw [List.length_map]; exact ho5) hg5); have HOM := Lib.hid (fun o => own_fr HI5.out.om ((Fr.refl (fun _ => False) _).alloc o) (fun _ _ e => e)); have hs5 := HI5.out.bel.size; clear ho5 hg5) | (refine app_one infoPtrM Tryz.underlying120 rfl (by decide) rfl _ _ rfl rfl (HOM.out _) rfl (by simp) rfl hl2 hs5 ?_; intro v7 w7 ho7 hg7 _; have HI7 := Lib.hid (HI5.out.pushM ho7 hg7); clear ho7 hg7))
            go_round
            case rel => exact ⟨k + 1, lay ++ [some wr.heap.size], by go_num, by omega, by have := HI7.out; simpa [mptrs, pval, pptr, List.filterMap_append] using this, by rw [List.length_append, HLEN.out]; rfl⟩
            case measure => simp [intOf]; omega
          · have HSK := Lib.hid (HI.out.1.skip hx hnn)
            have HOL := Lib.hid (fun o => own_fr (by have := HSK.out.ol; rw [List.length_map] at this; exact this) ((Fr.refl (fun _ => False) _).alloc o) (fun _ _ e => e))
            rw [hnn] at e0
            clear hnn hd hx d0 d1
            have hsz := hws.out
            go_wp2_with (at_builtin; refine app_one infoP Tryz.underlying73 rfl (by decide) rfl _ _ rfl rfl (HOL.out _) rfl (by simp) rfl hl1 hsz ?_; intro v5 w5 ho5 hg5 _; have HI5 := Lib.hid (HSK.out.pushL (by rw [List.length_map]; exact ho5) hg5); clear ho5 hg5)
            go_round
            case rel => exact ⟨k + 1, lay ++ [none], by go_num, by omega, by have := HI5.out; simpa [mptrs, pval, pptr, List.filterMap_append] using this, by rw [List.length_append, HLEN.out]; rfl⟩
            case measure => simp [intOf]; omega
        · obtain rfl : k = pl.length := by omega
          have hrl := HO.out.1.rl
          have hml := HO.out.1.ml
          have hli := HO.out.2
          obtain ⟨ap, ac, e⟩ := bk_form HO.out.1.oa
          obtain ⟨bp, bc, e'⟩ := bk_form HO.out.1.om
          subst e e'
          have hn5 : rs.length ≤ 1000000000 := by omega
          have hn7 : ms.length ≤ 1000000000 := by omega
          have hsz : w.heap.size ≤ wr.heap.size := Nat.le_trans HO.out.1.bel.size hws.out
          have HN := Lib.hid (HO.out.1.next HI.out.1 (by rw [hli]; exact HPL.out) HLEN.out.symm)
          clear hrl hml hli
          go_wp2_with (at_builtin; first | (refine app_one infoRowP Tryz.underlying74 rfl (by decide) rfl _ _ rfl rfl HN.out.1 rfl (by simp) rfl hn5 hsz ?_; intro v5 w5 ho5 hg5 _; have HN5 := Lib.hid (HN.out.2 _ _ ho5 hg5); have hs5 : w.heap.size ≤ w5.heap.size := Nat.le_trans (Nat.le_trans hsz (by simp)) hg5.size; clear ho5 hg5) | (refine app_one infoRowM Tryz.underlying54 rfl (by decide) rfl _ _ rfl rfl HN5.out.1 rfl (by simp) rfl hn7 hs5 ?_; intro v7 w7 ho7 hg7 _; have HN7 := Lib.hid (HN5.out.2 _ _ ho7 hg7); clear ho7 hg7))
          go_round
          case rel => exact ⟨i + 1, lays ++ [lay], _, _, by go_num, by omega, HN7.out, by rw [List.length_append, HO.out.2]; rfl⟩
          case measure => simp [intOf]; omega
    · obtain rfl : i = ll.length := by omega
      go_wp2_with fail
      go_ret2
      exact ⟨lays, _, _, rs, ms, rfl, HO⟩
end
end Go.Proofs.YtkaplifhaafpdaaGreat
end

/-
  A step of one of the law's procs, alone. No condition.
-/
import Derived.Test.YtkaplifhaafpdaaMAnEnv
namespace Go.Proofs.Ytkaplifhaafpdaa
open Go Go.RowKit
set_option linter.unusedSimpArgs false
set_option linter.unusedVariables false
/-- steps that fit -/
structure FitsP (ll : List (List Plan)) : Prop where
  p : ∀ l ∈ ll, ∀ x ∈ l, x.l.length ≤ 1048576 ∧ ∀ d ∈ x.l, d.fits ∧ d.vals.length ≤ 1048576
section
variable {W w w' w1 : World} {G G' S E F : Nat → Prop} {L : Lay} {t k pb v : Nat} {ll : List (List Plan)} {s : St} {x : TS} {p : Plan} {l : List Plan}
/-- a proc that is nil is done -/
theorem AnvX.skip {bm : Nat} {vws : Nat} {lays : List (List (Option Nat))} {gvf : Nat → Value} (h : AnvX W bm vws ll lays s E w F gvf) (hl : LayOK ll lays) (ok : s.Ok ll) (hat : s.at? ll t = some (x, p)) (hn : p.none = true) : AnvX W bm vws ll lays (s.go t x p) E w F gvf := by
  obtain ⟨hx, l, hll, hp⟩ := at_some hat
  have hok := ok.th t x l hx hll
  have hm : s.mem t (p.act x.at_) = s.A := by unfold Plan.act St.mem; rw [hn]; rfl
  refine ⟨by rw [show (s.go t x p).A = s.mem t (p.act x.at_) from rfl, hm]; exact h.pm, h.fE, fun u v2 hv2 => ?_, fun t2 k2 pb2 x2 l2 p2 h1 h2 h3 h4 => ?_, h.dj, h.pos, h.arg, h.fa, h.ga, h.va, h.bel⟩
  · obtain ⟨⟨m2, a2, c2, c3⟩, n2, e2⟩ := h.vw u v2 hv2
    exact ⟨⟨m2, a2, c2, Int.le_trans c3 (by show (s.steps : Int) ≤ ((s.steps + 1 : Nat) : Int); omega)⟩, n2, e2⟩
  · have h2 : (s.th.set t (x.next (s.says (p.act x.at_)) (p.dn x.at_)))[t2]? = some x2 := h2
    by_cases e2 : t = t2
    · subst e2
      rw [List.getElem?_set_self (List.getElem?_eq_some_iff.1 hx).1] at h2
      injection h2 with h2
      subst h2
      rw [hll] at h3; injection h3 with h3; subst h3
      have hk : k2 ≠ x.call := by
        rintro rfl
        obtain ⟨l', p', q1, q2, q3⟩ := layAt_some h1 hl
        rw [hll] at q1; injection q1 with q1; subst q1
        rw [hp] at q2; injection q2 with q2; subst q2
        rw [hn] at q3; cases q3
      obtain ⟨r1, r2⟩ := took_next hok hp h4 (s.says (p.act x.at_)) hk
      rw [r1, r2]
      exact h.pr t k2 pb2 x l p2 h1 hx hll h4
    · rw [List.getElem?_set_ne e2] at h2
      exact h.pr t2 k2 pb2 x2 l2 p2 h1 h2 h3 h4
/-- a proc's own step -/
theorem Anv_step {lays : List (List (Option Nat))} {bm vws : Nat} (hl : LayOK ll lays) (hn : FitsP ll) (ok : s.Ok ll) (hs : s.steps ≤ 40000000) (hat : s.at? ll t = some (x, p)) (hv : VAt vws t v) (hpb : layAt lays t x.call = some (some pb)) (h : AnvI W bm vws ll lays s E w) :
    Calls Try.prog 97 #[.pointer (some ⟨pb, 0, none⟩), .pointer (some ⟨v, 0, none⟩)] w fun e w' => e = .returned (.bool (p.dn x.at_)) ∧ ∃ E', AnvI W bm vws ll lays (s.go t x p) E' w' ∧ (∀ b, b < w.heap.size → ¬ E b → ¬ E' b) ∧ Fr E w w' := by
  obtain ⟨F, gvf, h⟩ := h
  obtain ⟨hx, l, hll, hp⟩ := at_some hat
  have hok := ok.th t x l hx hll
  obtain ⟨l', p', hl1, hp1, hpn⟩ := layAt_some hpb hl
  rw [hll] at hl1; injection hl1 with hl1; subst hl1
  rw [hp] at hp1; injection hp1 with hp1; subst hp1
  obtain ⟨⟨lv, b0, d0⟩, o0, nF0, e0, g0⟩ := h.pr t x.call pb x l p hpb hx hll hp
  obtain ⟨⟨m0, v0, hm0, hm1⟩, nv0, ev0⟩ := h.vw t v hv
  have htk : x.took x.call p = x.at_ := by unfold TS.took; rw [if_neg (by omega), if_pos rfl]
  rw [htk] at b0
  have hps : PSt w F bm v pb t m0 s.A lv x.at_ (gvf pb) (x.got.getD x.call []) := ⟨h.pm, v0, b0, o0, nv0, nF0, fun g hg => (g0 g hg).1, fun k hk => h.pos k (h.fE k hk)⟩
  obtain ⟨dp, dc, rfl, hdn, hdo⟩ := id d0
  have hpf := hn.p l (List.mem_of_getElem? hll) p (List.mem_of_getElem? hp)
  have hgl : (x.got.getD x.call []).length ≤ 1000000000 := by
    have h1 := ok.gt t x hx
    have h2 : (x.got.getD x.call []).length ≤ x.got.flatten.length := by
      have hc : x.call < x.got.length := by rw [hok.gl]; exact (List.getElem?_eq_some_iff.1 hp).1
      rw [List.getD_eq_getElem?_getD, List.getElem?_eq_getElem hc]
      simp only [Option.getD_some, List.length_flatten]
      exact sum_mem (f := List.length) (List.getElem_mem hc)
    omega
  by_cases ha : x.at_ < p.l.length
  · obtain ⟨d, hd⟩ : ∃ d, p.l[x.at_]? = some d := ⟨_, List.getElem?_eq_getElem ha⟩
    obtain ⟨b, o, ap, ac, rfl, hda, hva, hnil⟩ := hdo _ d hd
    have hdf := hpf.2 d (List.mem_of_getElem? hd)
    have hact : p.act x.at_ = some d := by unfold Plan.act; rw [hpn]; simpa using hd
    have hoff : d.vals ≠ [] → Off (.slice ap d.vals.length ac) (fun k => F k ∨ k = v ∨ k = pb ∨ (gvf pb).ownBlock = some k) := by
      intro hne ad n c e hk
      obtain ⟨p', c', e1', hq⟩ := hva
      rcases hq with hq | ⟨ad', e2', hq, _⟩
      · exact hne hq
      · injection e with e _ _
        injection e1' with e1' _ _
        rw [e2'] at e1'
        rw [e1'] at e
        injection e with e
        subst e
        rcases hk with e | e | e | e
        · have := h.fa _ e; omega
        · rw [e] at hq; have := h.va; obtain ⟨-, rfl⟩ := hv; omega
        · rw [e] at hq; have := (h.ga t x.call pb hpb).1; omega
        · have := (h.ga t x.call pb hpb).2 _ e; omega
    have hq := QStep_any hps ha (by omega) (hda.below h.bel) hdf.1.1 hdf.1.2 (hva.fr (Fr.of_below (S := fun _ => False) h.bel) (fun _ _ _ _ e => e)) hoff hnil (by omega) ok.fit hm0 (by omega) hgl
    refine hq.mono ?_
    rintro e w' ⟨rfl, F', gv', hps', hF', hg', hf⟩
    refine ⟨by rw [show p.dn x.at_ = decide (p.l.length ≤ x.at_ + 1) from by unfold Plan.dn; rw [hpn]; rfl], ?_⟩
    have hm : s.mem t (p.act x.at_) = s.A.make t d := by rw [hact]; rfl
    refine h.go hl ok hat hv hpb (made' := if 1 ≤ d.kind ∧ d.kind ≤ 5 then m0 + 1 else m0) (i' := x.at_ + 1) (wd := if 1 ≤ d.kind ∧ d.kind ≤ 5 then [s.A.tell d] else []) ?_ (by rw [if_pos ha]) d0 (by split <;> omega) (by rw [hm]; exact hps') hF' hg' hf
    rw [hact]
    unfold St.says Do.real
    by_cases hr : 1 ≤ d.kind ∧ d.kind ≤ 5 <;> simp [hr]
  · have hz : p.l.length = 0 ∧ x.at_ = 0 := by
      by_cases h0 : x.at_ = 0
      · exact ⟨by omega, h0⟩
      · exact absurd (hok.at_ p hp h0).2 ha
    have hact : p.act x.at_ = none := by unfold Plan.act; rw [hpn]; simp; omega
    refine (QStep_end hps (by omega) (by omega)).mono ?_
    rintro e w' ⟨rfl, k, rfl⟩
    refine ⟨by rw [show p.dn x.at_ = true from by unfold Plan.dn; rw [hpn]; simp; omega], ?_⟩
    have hm : s.mem t (p.act x.at_) = s.A := by rw [hact]; rfl
    refine h.go hl ok hat hv hpb (made' := m0) (i' := x.at_) (wd := []) (gv' := gvf pb) (F' := F) (by rw [hact]; rfl) (by rw [if_neg ha]) d0 (by omega) ?_ (fun k hk => .inl hk) (fun g hg => .inl hg) ((Fr.refl _ w).drawn k)
    rw [hm, List.append_nil]
    exact hps.bel (((Fr.refl (fun _ => False) w).drawn k).below (fun _ _ e => e))
/-- nothing is left -/
theorem AnvX.idle {bm : Nat} {vws : Nat} {lays : List (List (Option Nat))} {gvf : Nat → Value} (h : AnvX W bm vws ll lays s E w F gvf) : AnvX W bm vws ll lays { s with steps := s.steps + 1 } E w F gvf := by
  refine ⟨h.pm, h.fE, fun u v2 hv2 => ?_, h.pr, h.dj, h.pos, h.arg, h.fa, h.ga, h.va, h.bel⟩
  obtain ⟨⟨m2, a2, c2, c3⟩, n2, e2⟩ := h.vw u v2 hv2
  exact ⟨⟨m2, a2, c2, Int.le_trans c3 (by show (s.steps : Int) ≤ ((s.steps + 1 : Nat) : Int); omega)⟩, n2, e2⟩
end
end Go.Proofs.Ytkaplifhaafpdaa

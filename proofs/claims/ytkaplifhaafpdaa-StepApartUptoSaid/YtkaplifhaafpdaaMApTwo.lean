/-
  Two pairs of runners, to their ends; what the procs were told. No condition.
-/
import Derived.Test.YtkaplifhaafpdaaMApOwn
import Derived.Test.YtkaplifhaafpdaaM34
import Derived.Test.YtkaplifhaafpdaaM08
namespace Go.Proofs.Ytkaplifhaafpdaa
open Go Go.RowKit
set_option linter.unusedSimpArgs false
set_option linter.unusedVariables false
/-- some state at which all is done -/
def EndA (W : World) (ll : List (List Plan)) (wd q : Nat) (L : Lay) (s2 : St) (wd2 q2 : Nat) (L2 : Lay) (t1 t2 : St) (s0 : St) (w : World) : Prop := ∃ s', Two W ll wd q L s' s2 wd2 q2 L2 t1 t2 w ∧ s'.done ll = true ∧ Reach ll s0 s' ∧ s'.Fine ll
def EndB (W : World) (ll : List (List Plan)) (wd q : Nat) (L : Lay) (s1 s2 : St) (wd2 q2 : Nat) (L2 : Lay) (t2 : St) (s0 : St) (w : World) : Prop := ∃ t', Two W ll wd q L s1 s2 wd2 q2 L2 t' t2 w ∧ t'.done ll = true ∧ Reach ll s0 t' ∧ t'.Fine ll
section
variable {W w w' w1 w0 : World} {ll : List (List Plan)} {wd q wd2 q2 : Nat} {L L2 : Lay} {s s0 s1 s2 t1 t2 : St} {U : Nat → Prop}
theorem fin_end {b : Bool} {s' : St} {f : Nat} (hA : Apart ll) (hn : Fits ll) (hf : s.Fine ll) (hr : Reach ll s0 s) (h : rfin ll 1099511627776 f 0 s = some (b, s')) : b = true ∧ s'.done ll = true ∧ Reach ll s0 s' ∧ s'.Fine ll := by
  obtain ⟨h1, h2, h3⟩ := rfin_count hf h
  have hb : b = true := by
    cases b
    · have := h3 rfl
      have := hf.2.2
      omega
    · rfl
  exact ⟨hb, (h2 hb).1, hr.fin hA h, rfin_fine hn hf h⟩
theorem Two.finA (h : Two W ll wd q L s s2 wd2 q2 L2 t1 t2 w) (hA : Apart ll) (hn : Fits ll) (hf : s.Fine ll) (hr : Reach ll s0 s) :
    Calls Try.prog 20 #[.pointer (some ⟨L.rp, 0, none⟩), .int .i64 1099511627776] w fun e w' => e = .returned (.bool true) ∧ Hid (EndA W ll wd q L s2 wd2 q2 L2 t1 t2 s0 w') := by
  obtain ⟨U, V, a, b, c⟩ := h
  obtain ⟨G, hp, k⟩ := a.openP
  refine (PFinish_any hp hn _ hf.2.2).mono ?_
  rintro e w' ⟨r, s', rfl, ⟨G', h1, h2⟩, f, hfn⟩
  obtain ⟨U', h', kk⟩ := k _ _ _ h1 h2
  obtain ⟨rfl, e2, e3, e4⟩ := fin_end hA hn hf hr hfn
  refine ⟨rfl, s', ⟨U', V, h', b.fr kk.fr (fun x hx => ⟨(a.pos x hx).1, c x hx⟩), fun x hx hv => ?_⟩, e2, e3, e4⟩
  by_cases hu : U x
  · exact c x hu hv
  · exact kk.ne x (b.pos x hv).2 hu hx
theorem Two.finB (h : Two W ll wd q L s1 s2 wd2 q2 L2 s t2 w) (hA : Apart ll) (hn : Fits ll) (hf : s.Fine ll) (hr : Reach ll s0 s) :
    Calls Try.prog 20 #[.pointer (some ⟨L2.rp, 0, none⟩), .int .i64 1099511627776] w fun e w' => e = .returned (.bool true) ∧ Hid (EndB W ll wd q L s1 s2 wd2 q2 L2 t2 s0 w') := by
  obtain ⟨U, V, a, b, c⟩ := h
  obtain ⟨G, hp, k⟩ := b.openP
  refine (PFinish_any hp hn _ hf.2.2).mono ?_
  rintro e w' ⟨r, s', rfl, ⟨G', h1, h2⟩, f, hfn⟩
  obtain ⟨V', h', kk⟩ := k _ _ _ h1 h2
  obtain ⟨rfl, e2, e3, e4⟩ := fin_end hA hn hf hr hfn
  refine ⟨rfl, s', ⟨U, V', a.fr kk.fr (fun x hx => ⟨(b.pos x hx).1, fun hu => c x hu hx⟩), h', fun x hx hv => ?_⟩, e2, e3, e4⟩
  by_cases hu : V x
  · exact c x hx hu
  · exact kk.ne x (a.pos x hx).2 hu hv
theorem bcell {a : Addr} {v : Value} (h : w.cell? a = some v) (hb : Below w.heap.size w w') : w'.cell? a = some v := (hb.cell (p := a) (sargs.cell_form h).2).trans h
/-- the pattern of a row of procs -/
def Pat (l : List Plan) (la : List (Option Nat)) : Prop := la.length = l.length ∧ ∀ (k : Nat) p, l[k]? = some p → (p.none = true ↔ la[k]? = some none)
theorem tellings_pat : ∀ (l : List Plan) (la lb : List (Option Nat)) (got : List (List Int)), Pat l la → Pat l lb → tellings la got = tellings lb got
  | [], la, lb, got, ha, hb => by
    obtain rfl := List.length_eq_zero_iff.1 ha.1
    obtain rfl := List.length_eq_zero_iff.1 hb.1
    rfl
  | p :: l, [], lb, got, ha, hb => by have := ha.1; simp at this
  | p :: l, a :: la, [], got, ha, hb => by have := hb.1; simp at this
  | p :: l, a :: la, b :: lb, [], ha, hb => by simp [tellings]
  | p :: l, a :: la, b :: lb, g :: got, ha, hb => by
    have ih := tellings_pat l la lb got ⟨by have := ha.1; simpa using this, fun k p h => by have := ha.2 (k + 1) p (by simpa using h); simpa using this⟩ ⟨by have := hb.1; simpa using this, fun k p h => by have := hb.2 (k + 1) p (by simpa using h); simpa using this⟩
    have h1 := ha.2 0 p rfl
    have h2 := hb.2 0 p rfl
    unfold tellings at ih ⊢
    have e : (a = none) ↔ (b = none) := by
      constructor
      · intro e; subst e; have := h2.1 (h1.2 rfl); simpa using this
      · intro e; subst e; have := h1.1 (h2.2 rfl); simpa using this
    cases a <;> cases b <;> simp_all
theorem Two.peekA (h : Two W ll wd q L s1 s2 wd2 q2 L2 t1 t2 w) (x : Int) (h0 : 0 ≤ x) : Calls Try.prog 29 #[.pointer (some ⟨L.bm, 0, none⟩), .int .u64 x] w fun e w' => e = .returned (.int .u64 (s1.A.peek x)) ∧ w = w' := by
  obtain ⟨U, h⟩ := h.one
  obtain ⟨F, qq, r, tv2, rows, hm⟩ := h.pm
  exact peek_any hm x h0 h.oks.2.1.fit.n
theorem Two.peekB (h : Two W ll wd q L s1 s2 wd2 q2 L2 t1 t2 w) (x : Int) (h0 : 0 ≤ x) : Calls Try.prog 29 #[.pointer (some ⟨L2.bm, 0, none⟩), .int .u64 x] w fun e w' => e = .returned (.int .u64 (t1.A.peek x)) ∧ w = w' := by
  obtain ⟨U, h⟩ := h.two
  obtain ⟨F, qq, r, tv2, rows, hm⟩ := h.pm
  exact peek_any hm x h0 h.oks.2.1.fit.n
theorem Duo.gots2 (h : Duo W ll wd q L s1 s2 w U) :
    ∃ pm cm, w.cell? ⟨wd, 2, none⟩ = some (.slice pm ll.length cm) ∧ ∀ (i : Nat) x l, s1.th[i]? = some x → ll[i]? = some l → ∃ g la pr cr, Pat l la ∧ pm = some ⟨g, 0, none⟩ ∧ w.cell? ⟨g, i, none⟩ = some (.slice pr (tellings la x.got).length cr) ∧
      ∀ (k : Nat) y, (tellings la x.got)[k]? = some y → ∃ g2 pb v, pr = some ⟨g2, 0, none⟩ ∧ w.cell? ⟨g2, k, none⟩ = some (.pointer (some ⟨pb, 0, none⟩)) ∧ w.cell? ⟨pb, 2, none⟩ = some v ∧ VR w v y := by
  obtain ⟨G, Z, lab, rm, ⟨⟨R, E, ats, j, ha, _⟩, hL, ok⟩, _, ⟨mv, ms, b, ho, hr, _⟩, _⟩ := h
  obtain ⟨F, gvf, hx⟩ := j.env
  have hlen : L.lays.length = ll.length := hL.lay.n
  obtain ⟨pm, cm, rfl⟩ := bk_form ho
  refine ⟨pm, cm, by rw [← hlen]; exact b.cell 2, fun i x l hxi hl => ?_⟩
  have hi := (List.getElem?_eq_some_iff.1 hxi).1
  have hi2 : i < ll.length := by rw [← ok.tl]; exact hi
  obtain ⟨la, hla⟩ : ∃ la, L.lays[i]? = some la := ⟨_, List.getElem?_eq_getElem (by omega)⟩
  have hms : ms.length = L.lays.length := by simpa using ho.1
  obtain ⟨m, hm⟩ : ∃ m, ms[i]? = some m := ⟨_, List.getElem?_eq_getElem (by omega)⟩
  obtain ⟨g, c, e, _, _⟩ := bk_form1 ho (by omega)
  injection e with e1 e2 e3
  subst e1 e3
  have hlal := hL.lay.len i la l hla hl
  have hgl := (ok.th i x l hxi hl).gl
  obtain ⟨hrow, _⟩ := hr i la m hla hm
  obtain ⟨pr, cr, rfl⟩ := bk_form hrow
  have htl : (mptrs la).length = (tellings la x.got).length := by
    have : ∀ (la : List (Option Nat)) (got : List (List Int)), la.length = got.length → (la.filterMap id).length = (tellings la got).length := by
      intro la
      induction la with
      | nil => intro got h; cases got <;> simp_all [tellings]
      | cons a la ih =>
        intro got h
        cases got with
        | nil => simp at h
        | cons y got =>
          have := ih got (by simpa using h)
          cases a <;> simp_all [tellings]
    unfold mptrs
    rw [List.length_map, this la x.got (by omega)]
  refine ⟨g, la, pr, cr, ⟨hlal, fun k p hp => hL.lay.no i k la l p hla hl hp⟩, rfl, by rw [← htl]; exact own_cell ho hm, fun k y hk => ?_⟩
  have hkl := (List.getElem?_eq_some_iff.1 hk).1
  rw [← htl] at hkl
  have hkl' : k < (la.filterMap id).length := by simpa [mptrs] using hkl
  obtain ⟨pb, hpb⟩ : ∃ pb, (la.filterMap id)[k]? = some pb := ⟨_, List.getElem?_eq_getElem hkl'⟩
  obtain ⟨jj, h1, h2⟩ := tellings_at la x.got k pb (by omega) hpb
  rw [hk] at h2; injection h2 with h2; subst h2
  obtain ⟨g2, c2, e, _, _⟩ := bk_form1 hrow (by omega)
  injection e with e1 e2 e3
  subst e1 e3
  obtain ⟨p, hp⟩ : ∃ p, l[jj]? = some p := ⟨_, List.getElem?_eq_getElem (by have := (List.getElem?_eq_some_iff.1 h1).1; omega)⟩
  have hlat : layAt L.lays i jj = some (some pb) := by unfold layAt; rw [hla]; exact h1
  obtain ⟨⟨lv, b1, _⟩, o1, _⟩ := hx.pr i jj pb x l p hlat hxi hl hp
  exact ⟨g2, pb, gvf pb, rfl, own_cell hrow (by simp [mptrs, hpb, pptr]), b1.cell 2, VR.own o1⟩
theorem Two.runB' {vs : List Int} {v : Value} (h : Two W ll wd q L s1 s2 wd2 q2 L2 s t2 w) (hn : Fits ll) (hs : s.steps + vs.length ≤ 40000000) (hv : RdI w v vs) (hb : 0 < vs.length → ∀ b o c, v = .slice (some ⟨b, o, none⟩) vs.length c → b < W.heap.size) :
    Calls Try.prog 28 #[.pointer (some ⟨L2.rp, 0, none⟩), v] w fun e w' => e = .returned (.tuple #[]) ∧ Two W ll wd q L s1 s2 wd2 q2 L2 (s.many ll vs) t2 w' := by
  by_cases h0 : vs = []
  · subst h0
    obtain ⟨p, c, rfl, _⟩ := hv
    refine (Run_empty w _ p c).mono ?_
    rintro e w' ⟨rfl, rfl⟩
    exact ⟨rfl, h⟩
  have hb := hb (List.length_pos_iff.2 h0)
  obtain ⟨U, V, a, b, c⟩ := h
  refine (b.runP hn hs hv (fun x o cc e => ?_)).mono ?_
  · have h1 := hb x o cc e
    have h2 := b.bel.size
    exact ⟨by omega, fun e2 => by have := (b.pos x e2).1; omega⟩
  · rintro e w' ⟨rfl, V', h', k⟩
    refine ⟨rfl, U, V', a.fr k.fr (fun x hx => ⟨(b.pos x hx).1, fun hu => c x hu hx⟩), h', fun x hx hv => ?_⟩
    by_cases hu : V x
    · exact c x hx hu
    · exact k.ne x (a.pos x hx).2 hu hv
theorem tellings_mem {la : List (Option Nat)} {got : List (List Int)} {y : List Int} (h : y ∈ tellings la got) : y ∈ got := by
  unfold tellings at h
  obtain ⟨⟨a, b⟩, h1, h2⟩ := List.mem_filterMap.1 h
  cases a with
  | none => cases h2
  | some a =>
    have h2 : some b = some y := h2
    injection h2 with h2
    subst h2
    exact (List.of_mem_zip h1).2
/-- what both pairs' procs were told -/
theorem Two.gots (h : Two W ll wd q L s1 s2 wd2 q2 L2 t1 t2 w) (hs : s1.steps ≤ 40000000) :
    ∃ pA cA pB cB, (w.cell? ⟨wd, 2, none⟩ = some (.slice pA ll.length cA) ∧ w.cell? ⟨wd2, 2, none⟩ = some (.slice pB ll.length cB)) ∧ ∀ (i : Nat) x l, s1.th[i]? = some x → t1.th[i]? = some x → ll[i]? = some l → ∃ gA gB prA prB crA crB n, pA = some ⟨gA, 0, none⟩ ∧ pB = some ⟨gB, 0, none⟩ ∧ n ≤ l.length ∧ w.cell? ⟨gA, i, none⟩ = some (.slice prA n crA) ∧ w.cell? ⟨gB, i, none⟩ = some (.slice prB n crB) ∧
      ∀ k, k < n → ∃ y gA2 gB2 pbA pbB vA vB, prA = some ⟨gA2, 0, none⟩ ∧ prB = some ⟨gB2, 0, none⟩ ∧ w.cell? ⟨gA2, k, none⟩ = some (.pointer (some ⟨pbA, 0, none⟩)) ∧ w.cell? ⟨gB2, k, none⟩ = some (.pointer (some ⟨pbB, 0, none⟩)) ∧ w.cell? ⟨pbA, 2, none⟩ = some vA ∧ w.cell? ⟨pbB, 2, none⟩ = some vB ∧ VR w vA y ∧ VR w vB y ∧ y.length ≤ 1000000000 := by
  obtain ⟨U, hA⟩ := h.one
  obtain ⟨V, hB⟩ := h.two
  have hok := hA.oks.2.1
  obtain ⟨pA, cA, a1, a2⟩ := hA.gots2
  obtain ⟨pB, cB, b1, b2⟩ := hB.gots2
  refine ⟨pA, cA, pB, cB, ⟨a1, b1⟩, fun i x l h1 h2 hl => ?_⟩
  obtain ⟨gA, la, prA, crA, p1, rfl, c1, d1⟩ := a2 i x l h1 hl
  obtain ⟨gB, lb, prB, crB, p2, rfl, c2, d2⟩ := b2 i x l h2 hl
  have e := tellings_pat l la lb x.got p1 p2
  rw [← e] at c2 d2
  have hgl := (hok.th i x l h1 hl).gl
  refine ⟨gA, gB, prA, prB, crA, crB, (tellings la x.got).length, rfl, rfl, ?_, c1, c2, fun k hk => ?_⟩
  · unfold tellings
    have h1 := List.length_filterMap_le (fun p : Option Nat × List Int => p.1.map fun _ => p.2) (la.zip x.got)
    have h2 : (la.zip x.got).length ≤ l.length := by rw [List.length_zip, hgl]; exact Nat.min_le_right _ _
    exact Nat.le_trans h1 h2
  · obtain ⟨y, hy⟩ : ∃ y, (tellings la x.got)[k]? = some y := ⟨_, List.getElem?_eq_getElem hk⟩
    obtain ⟨gA2, pbA, vA, e1, e2, e3, e4⟩ := d1 k y hy
    obtain ⟨gB2, pbB, vB, f1, f2, f3, f4⟩ := d2 k y hy
    refine ⟨y, gA2, gB2, pbA, pbB, vA, vB, e1, f1, e2, f2, e3, f3, e4, f4, ?_⟩
    have hy2 : y ∈ x.got := tellings_mem (List.mem_of_getElem? hy)
    have h3 := (List.sublist_flatten_of_mem hy2).length_le
    have h4 := hok.gt i x h1
    omega
end
end Go.Proofs.Ytkaplifhaafpdaa

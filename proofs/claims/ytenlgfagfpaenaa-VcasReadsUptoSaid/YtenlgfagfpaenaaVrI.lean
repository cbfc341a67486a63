/-
  A runner over calls of vcas in the heap, at a state of the plain run; a pick; Run. No condition.
-/
import Derived.Test.YtenlgfagfpaenaaVrR
import Derived.Test.YtenlgfagfpaenaaStPVRead
import Derived.Test.YtenlgfagfpaenaaStPVCas
import Derived.Test.YtenlgfagfpaenaaStPVAt
import Derived.Test.YtenlgfagfpaenaaStPVTake
namespace Go.Proofs.Ytenlgfagfpaenaa
open Go Go.RowKit
set_option linter.unusedSimpArgs false
set_option linter.unusedVariables false
/-- a proc, as the runner holds it -/
def procV (k : Nat) (c : Cl) : Value := .iface (if c.kind = 0 then 42 else if c.kind = 1 then 43 else if c.kind = 2 then 44 else 78) (.pointer (some ⟨k, 0, none⟩))
def clsOf (pl : List (List (Nat × Cl))) : List (List Cl) := pl.map (·.map (·.2))
def VI (W : World) (bm : Nat) (vws : List Nat) (cam : Int) (pl : List (List (Nat × Cl))) (rp : Nat) (Z : Nat → Prop) (wz : World) (steps : Nat) (s : Sv) (w : World) : Prop :=
  ∃ R E T evs ats, PJ (nul W) w R E (EnvV W bm vws cam pl s.A (s.th.map (·.ss)) steps) rp bm vws T steps evs ats ∧ T.length = s.th.length ∧
    (∀ (t : Nat) x y row, T[t]? = some x → s.th[t]? = some y → pl[t]? = some row → x.pos = y.pos ∧ x.procs = row.map fun z => procV z.1 z.2) ∧ evs.length ≤ 2 * steps ∧ ats.length ≤ s.A.trace.length ∧
    ∀ b, Z b → b < w.heap.size ∧ ¬ R b ∧ ¬ E b ∧ w.heap[b]? = wz.heap[b]?
section
variable {W w w' wz : World} {Z : Nat → Prop} {bm rp steps n : Nat} {vws : List Nat} {cam : Int} {pl : List (List (Nat × Cl))} {s : Sv} {A : Mem} {ss : List (List Vs)} {E : Nat → Prop}
theorem EnvV.more {b1 b2 : Nat} (h : EnvV W bm vws cam pl A ss b1 E w) (hb : b1 ≤ b2) : EnvV W bm vws cam pl A ss b2 E w := by
  obtain ⟨F, lab, h⟩ := h
  exact ⟨F, lab, h.own, h.fE, fun t v hv => let ⟨⟨m, a, b⟩, d⟩ := h.vw t v hv; ⟨⟨m, a, Nat.le_trans b hb⟩, d⟩, h.pr, h.pos, h.arg⟩
theorem noted_len {ats : List Int} {st : Int} {a b : Nat} (h : ats.length ≤ a) (h2 : a ≤ b) : (noted ats st a b).length = b := by
  simp [noted]; omega
theorem map_at {t j : Nat} {x : TV} {st : Vs} (h : s.th[t]? = some x) (h2 : x.ss[j]? = some st) : at2 (s.th.map (·.ss)) t j = some st := by
  unfold at2
  rw [List.getElem?_map, h]
  exact h2
theorem set_map {t j : Nat} {x : TV} {st : Vs} {p : Nat} (h : s.th[t]? = some x) : (s.th.set t ⟨p, x.ss.set j st⟩).map (·.ss) = set2 (s.th.map (·.ss)) t j st := by
  apply List.ext_getElem?
  intro i
  unfold set2
  rw [List.getElem?_map, List.getElem?_modify, List.getElem?_map, List.getElem?_set]
  by_cases hi : t = i
  · subst hi
    have hl := (List.getElem?_eq_some_iff.1 h).1
    rw [if_pos rfl, if_pos hl, h]
    simp
  · rw [if_neg hi]
    cases s.th[i]? <;> simp [hi]
theorem VI.pick (h : VI W bm vws cam pl rp Z wz steps s w) (ok : s.Ok (clsOf pl) n) (hc : ∀ l ∈ clsOf pl, ∀ c ∈ l, ClOK c) (hvl : pl.length ≤ vws.length) (hl1 : pl.length ≤ 64) (hl2 : ∀ row ∈ pl, row.length ≤ 4096) (hs : steps ≤ 10000000) (hn : n ≤ 10000000) (hcam : 0 ≤ cam) (t : Int) :
    Calls Try.prog 63 #[.pointer (some ⟨rp, 0, none⟩), .int .i64 t] w fun e w' => (∃ b, e = .returned (.bool b)) ∧ VI W bm vws cam pl rp Z wz (steps + 1) (s.one cam (clsOf pl) t) w' := by
  obtain ⟨R, E, T, evs, ats, hj, hT, hrow, hev, hat, hz⟩ := h
  have htr := ok.tr
  have hTl : T.length = pl.length := by rw [hT, ok.lt]; simp [clsOf]
  have hrowT : ∀ (k : Nat) x, T[k]? = some x → ∃ y row, s.th[k]? = some y ∧ pl[k]? = some row ∧ x.pos = y.pos ∧ x.procs = row.map fun z => procV z.1 z.2 := by
    intro k x hx
    have hk := (List.getElem?_eq_some_iff.1 hx).1
    have h1 : s.th[k]? = some (s.th[k]'(by omega)) := List.getElem?_eq_getElem _
    have h2 : pl[k]? = some (pl[k]'(by omega)) := List.getElem?_eq_getElem _
    exact ⟨_, _, h1, h2, hrow k x _ _ hx h1 h2⟩
  have hpl : ∀ x ∈ T, x.procs.length ≤ 1000000 := by
    intro x hx
    obtain ⟨k, hk, rfl⟩ := List.getElem_of_mem hx
    obtain ⟨y, row, h1, h2, _, h3⟩ := hrowT k _ (List.getElem?_eq_getElem hk)
    rw [h3, List.length_map]
    have := hl2 row (List.mem_of_getElem? h2)
    omega
  by_cases hid : idle T t = true
  · -- nothing to do
    have hsame : s.one cam (clsOf pl) t = s := by
      rcases one_cases cam (clsOf pl) s t with e | ⟨k, x, l, c, st, rfl, h1, h2, h3, h4, e⟩
      · exact e
      · exfalso
        have hk := (List.getElem?_eq_some_iff.1 h1).1
        obtain ⟨y, row, q1, q2, q3, q4⟩ := hrowT k _ (List.getElem?_eq_getElem (by omega : k < T.length))
        rw [h1] at q1
        injection q1 with q1
        subst q1
        rw [idle_in (List.getElem?_eq_getElem (by omega : k < T.length)), q4, q3] at hid
        have h5 := of_decide_eq_true hid
        rw [List.length_map] at h5
        have h6 : l = row.map (·.2) := by
          have : (clsOf pl)[k]? = some (row.map (·.2)) := by unfold clsOf; rw [List.getElem?_map, q2]; rfl
          rw [h2] at this; injection this
        have := (List.getElem?_eq_some_iff.1 h3).1
        rw [h6, List.length_map] at this
        omega
    rw [hsame]
    refine (Pick_idle hj EnvV.ok t hid (by omega) (fun x hx => by have := hpl x hx; omega) (by omega)).mono ?_
    rintro e w' ⟨rfl, R', E', hj', hk', hf'⟩
    refine ⟨⟨_, rfl⟩, R', E', T, evs, ats, ⟨hj'.ro, hj'.env.more (Nat.le_succ _), hj'.dis, hj'.sz⟩, hT, hrow, by omega, hat, fun b hb => ?_⟩
    obtain ⟨z1, z2, z3, z4⟩ := hz b hb
    have hn : ¬ (R b ∨ E b) := fun e => e.elim z2 z3
    have := hk' b z1 hn
    exact ⟨Nat.lt_of_lt_of_le z1 hf'.size, fun e => this (.inl e), fun e => this (.inr e), (hf'.block b z1 hn).trans z4⟩
  · have hid2 : idle T t = false := by simpa using hid
    obtain ⟨k, x, rfl, hx, hpos⟩ : ∃ (k : Nat) (x : Thr), t = (k : Int) ∧ T[k]? = some x ∧ x.pos < x.procs.length := by
      unfold idle at hid2
      split at hid2
      · rename_i h1
        obtain ⟨k, rfl⟩ : ∃ k : Nat, t = k := ⟨t.toNat, by omega⟩
        rw [Int.toNat_natCast] at hid2
        split at hid2
        · rename_i x h2
          exact ⟨k, x, rfl, h2, by have := of_decide_eq_false hid2; omega⟩
        · cases hid2
      · cases hid2
    obtain ⟨y, row, h1, h2, h3, h4⟩ := hrowT k x hx
    have hkl := (List.getElem?_eq_some_iff.1 h2).1
    have hcl : (clsOf pl)[k]? = some (row.map (·.2)) := by unfold clsOf; rw [List.getElem?_map, h2]; rfl
    obtain ⟨r1, r2, r3⟩ := ok.row k y _ h1 hcl
    have hyl : y.pos < row.length := by rw [← h3]; rw [h4, List.length_map] at hpos; exact hpos
    obtain ⟨⟨pb, c⟩, hz1⟩ : ∃ z, row[y.pos]? = some z := ⟨_, List.getElem?_eq_getElem hyl⟩
    have hlc : (row.map (·.2))[y.pos]? = some c := by rw [List.getElem?_map, hz1]; rfl
    obtain ⟨st, hst⟩ : ∃ st, y.ss[y.pos]? = some st := ⟨_, List.getElem?_eq_getElem (by rw [r1, List.length_map]; exact hyl)⟩
    obtain ⟨m1, m2⟩ := r3 _ c st hlc hst
    have hnf : st.fin = false := by rw [m2]; simp
    have hcok := hc _ (List.mem_of_getElem? hcl) c (List.mem_of_getElem? hlc)
    obtain ⟨v, hv⟩ : ∃ v, vws[k]? = some v := ⟨_, List.getElem?_eq_getElem (by omega)⟩
    have hpv : x.procs[x.pos]? = some (procV pb c) := by rw [h4, h3, List.getElem?_map, hz1]; rfl
    have hplat : at2 pl k y.pos = some (pb, c) := by unfold at2; rw [h2]; exact hz1
    obtain ⟨f1, f2, f3⟩ := step_facts (cam := cam) (th := (k : Int)) hcok ok.sane m1 hnf
    have hone : s.one cam (clsOf pl) (k : Int) = ⟨(c.step cam k s.A st).1, s.th.set k ⟨if (c.step cam k s.A st).2.fin then y.pos + 1 else y.pos, y.ss.set y.pos (c.step cam k s.A st).2⟩⟩ := by
      unfold Sv.one
      rw [if_neg (by omega), Int.toNat_natCast]
      simp only [h1, hcl, hlc, hst]
    have hfit : s.A.Fit := ok.sane.fit (by omega)
    have hOk : ∀ made : Nat, made ≤ steps → Ok (some (Vu.next ⟨bm, v, k, s.A, made⟩ (c.step cam k s.A st).1)) := fun made hm => ⟨f1.fit (by rw [f2]; omega), by show made + 1 ≤ 100000000; omega⟩
    have hgo : ∀ (f : FuncId), (∀ (made : Nat) (p : Nat → Prop) (i s' : Nat) (w : World), made ≤ steps → VpAt w cam c pb i s' st → Mx W (some ⟨bm, v, k, s.A, made⟩) p w → (∀ b, Vblk pb i s' st b → p b) →
        Calls Try.prog f #[.pointer (some ⟨pb, 0, none⟩), .pointer (some ⟨v, 0, none⟩)] w fun e w' => e = .returned (.bool (c.step cam k s.A st).2.fin) ∧ Wt W ⟨bm, v, k, s.A, made⟩ (c.step cam k s.A st).1 cam c pb i s' p w w' st (c.step cam k s.A st).2) →
        ∀ E w1, EnvV W bm vws cam pl s.A (s.th.map (·.ss)) steps E w1 → Calls Try.prog f #[.pointer (some ⟨pb, 0, none⟩), .pointer (some ⟨v, 0, none⟩)] w1 fun e w' => e = .returned (.bool (c.step cam k s.A st).2.fin) ∧ ∃ E', EnvV W bm vws cam pl (c.step cam k s.A st).1 (set2 (s.th.map (·.ss)) k y.pos (c.step cam k s.A st).2) (steps + 1) E' w' ∧ (∀ b, b < w1.heap.size → ¬ E b → ¬ E' b) ∧ Fr E w1 w' := by
      rintro f hf E1 w1 ⟨F, lab, hx1⟩
      exact hx1.go hv hplat (map_at h1 hst) hfit (by omega) fun made p i s' hm h5 h6 h7 => hf made p i s' w1 hm h5 h6 h7
    have hlen : (c.step cam k s.A st).1.trace.length = s.A.trace.length + 1 := f2
    have hfin : ∀ w', PS (nul W) w w' (fun k => R k ∨ E k) (EnvV W bm vws cam pl (c.step cam k s.A st).1 (set2 (s.th.map (·.ss)) k y.pos (c.step cam k s.A st).2) (steps + 1)) rp bm vws (pickT T k x (c.step cam k s.A st).2.fin) (steps + 1) (pickE evs steps k x (c.step cam k s.A st).2.fin) (noted ats steps s.A.trace.length (c.step cam k s.A st).1.trace.length) → VI W bm vws cam pl rp Z wz (steps + 1) (s.one cam (clsOf pl) (k : Int)) w' := by
      rintro w' ⟨R', E', hj', hk', hf'⟩
      rw [hone]
      refine ⟨R', E', pickT T k x (c.step cam k s.A st).2.fin, pickE evs steps k x (c.step cam k s.A st).2.fin, noted ats steps s.A.trace.length (c.step cam k s.A st).1.trace.length, ?_, ?_, ?_, ?_, ?_, fun b hb => ?_⟩
      · show PJ (nul W) w' R' E' (EnvV W bm vws cam pl (c.step cam k s.A st).1 (List.map (·.ss) (s.th.set k _)) (steps + 1)) rp bm vws _ _ _ _
        rw [set_map h1]
        exact hj'
      · simp [pickT, hT]
      · intro t2 x2 y2 row2 q1 q2 q3
        have q2 : (s.th.set k ⟨if (c.step cam k s.A st).2.fin then y.pos + 1 else y.pos, y.ss.set y.pos (c.step cam k s.A st).2⟩)[t2]? = some y2 := q2
        unfold pickT at q1
        rw [List.getElem?_set] at q1 q2
        by_cases hk2 : k = t2
        · subst hk2
          rw [if_pos rfl, if_pos (by omega)] at q1
          rw [if_pos rfl, if_pos (by omega)] at q2
          injection q1 with q1
          injection q2 with q2
          rw [h2] at q3
          injection q3 with q3
          subst q1 q2 q3
          cases (c.step cam k s.A st).2.fin
          · exact ⟨h3, h4⟩
          · exact ⟨by show x.pos + 1 = y.pos + 1; rw [h3], h4⟩
        · rw [if_neg hk2] at q1 q2
          exact hrow t2 x2 y2 row2 q1 q2 q3
      · unfold pickE begun
        split <;> split <;> (try simp) <;> omega
      · show (noted ats steps s.A.trace.length (c.step cam k s.A st).1.trace.length).length ≤ (c.step cam k s.A st).1.trace.length
        rw [noted_len hat (by omega)]
        exact Nat.le_refl _
      · obtain ⟨z1, z2, z3, z4⟩ := hz b hb
        have hn : ¬ (R b ∨ E b) := fun e => e.elim z2 z3
        have := hk' b z1 hn
        exact ⟨Nat.lt_of_lt_of_le z1 hf'.size, fun e => this (.inl e), fun e => this (.inr e), (hf'.block b z1 hn).trans z4⟩
    have hfin2 := hfin
    obtain ⟨k0, k3, ho, ha0, hb0⟩ := hcok
    have hkk : c.kind = 0 ∨ c.kind = 1 ∨ c.kind = 2 ∨ c.kind = 3 := by omega
    have hT6 : T.length ≤ 1000000 := by omega
    rcases hkk with hk | hk | hk | hk
    · have hpv : x.procs[x.pos]? = some (.iface 42 (.pointer (some ⟨pb, 0, none⟩))) := by rw [hpv]; simp [procV, hk]
      refine (Pick_VRead hj EnvV.ok EnvV.ok hx hpos hpv hv hT6 hpl (by omega) (by omega) (by omega) (by omega) (by omega) (hgo _ fun made p i s' w hm h5 h6 h7 => Rd_step hk h5 h6 h7 m1 hcam ho hnf (hOk made hm))).mono ?_
      rintro e w' ⟨rfl, hps⟩
      exact ⟨⟨_, rfl⟩, hfin w' hps⟩
    · have hpv : x.procs[x.pos]? = some (.iface 43 (.pointer (some ⟨pb, 0, none⟩))) := by rw [hpv]; simp [procV, hk]
      refine (Pick_VCas hj EnvV.ok EnvV.ok hx hpos hpv hv hT6 hpl (by omega) (by omega) (by omega) (by omega) (by omega) (hgo _ fun made p i s' w hm h5 h6 h7 => Ca_step hk h5 h6 h7 m1 hcam ho hnf (hOk made hm))).mono ?_
      rintro e w' ⟨rfl, hps⟩
      exact ⟨⟨_, rfl⟩, hfin w' hps⟩
    · have hpv : x.procs[x.pos]? = some (.iface 44 (.pointer (some ⟨pb, 0, none⟩))) := by rw [hpv]; simp [procV, hk]
      refine (Pick_VAt hj EnvV.ok EnvV.ok hx hpos hpv hv hT6 hpl (by omega) (by omega) (by omega) (by omega) (by omega) (hgo _ fun made p i s' w hm h5 h6 h7 => Pa_step hk h5 h6 h7 m1 hcam ho hnf (hOk made hm))).mono ?_
      rintro e w' ⟨rfl, hps⟩
      exact ⟨⟨_, rfl⟩, hfin w' hps⟩
    · have hpv : x.procs[x.pos]? = some (.iface 78 (.pointer (some ⟨pb, 0, none⟩))) := by rw [hpv]; simp [procV, hk]
      refine (Pick_VTake hj EnvV.ok EnvV.ok hx hpos hpv hv hT6 hpl (by omega) (by omega) (by omega) (by omega) (by omega) (hgo _ fun made p i s' w hm h5 h6 h7 => Tk_step hk h5 h6 h7 m1 hcam ho hnf (hOk made hm))).mono ?_
      rintro e w' ⟨rfl, hps⟩
      exact ⟨⟨_, rfl⟩, hfin w' hps⟩
end
end Go.Proofs.Ytenlgfagfpaenaa

/-
  A row of the law's procs, alone: a step of the row. No condition.
-/
import Derived.Test.YtkaplifhaafpdaaMAnStep
namespace Go.Proofs.Ytkaplifhaafpdaa
open Go Go.RowKit
set_option linter.unusedSimpArgs false
set_option linter.unusedVariables false
def l4 (l : List Plan) : List (List Plan) := [[], [], [], l]
def y4 (lay : List (Option Nat)) : List (List (Option Nat)) := [[], [], [], lay]
/-- a row of procs, at a state -/
structure AR (W w : World) (R E : Nat → Prop) (rp bm v : Nat) (l : List Plan) (lay : List (Option Nat)) (s : St) (sv : Value) : Prop where
  env : AnvI W bm v (l4 l) (y4 lay) s E w
  blk : Blk w rp 143 #[sv]
  now : ∀ x, s.th[3]? = some x → x.call < l.length → ∃ rb cap, sv = .slice (some ⟨rb, x.call, none⟩) (l.length - x.call) (cap - x.call) ∧ l.length ≤ cap ∧ (∀ (j : Nat) y, lay[j]? = some y → w.cell? ⟨rb, j, none⟩ = some (pval y)) ∧ R rb ∧ rb ≠ rp
  fin : ∀ x, s.th[3]? = some x → x.call = l.length → ∃ ad c, sv = .slice ad 0 c
  rR : R rp
  dis : ∀ k, R k → ¬ E k ∧ W.heap.size ≤ k ∧ k < w.heap.size
section
variable {W w w' : World} {R E S : Nat → Prop} {rp bm v : Nat} {l : List Plan} {lay : List (Option Nat)} {s : St} {sv : Value} {x : TS} {p : Plan}
theorem AR.fr (h : AR W w R E rp bm v l lay s sv) (hl : LayOK (l4 l) (y4 lay)) (ok : s.Ok (l4 l)) (hf : Fr S w w') (hR : ∀ k, R k → ¬ S k) (hE : ∀ k, E k → ¬ S k) : AR W w' R E rp bm v l lay s sv := by
  obtain ⟨F, gvf, he⟩ := h.env
  refine ⟨⟨F, gvf, he.fr hl ok hf hE⟩, h.blk.fr hf (hR rp h.rR), fun x hx hc => ?_, h.fin, h.rR, fun k hk => ⟨(h.dis k hk).1, (h.dis k hk).2.1, Nat.lt_of_lt_of_le (h.dis k hk).2.2 hf.size⟩⟩
  obtain ⟨rb, cap, e, hcap, hcell, hrb, hne⟩ := h.now x hx hc
  exact ⟨rb, cap, e, hcap, fun j y hj => (by have e := hf.block rb (h.dis rb hrb).2.2 (hR rb hrb); have q := hcell j y hj; simp only [World.cell?, e] at q ⊢; exact q), hrb, hne⟩
/-- the state of the one thread -/
theorem one_at (hx : s.th[3]? = some x) (hp : l[x.call]? = some p) : s.at? (l4 l) 3 = some (x, p) := by
  unfold St.at? l4
  rw [hx]
  simp [hp]
theorem one_go (hx : s.th[3]? = some x) (hp : l[x.call]? = some p) : s.one (l4 l) 3 = s.go 3 x p := by
  unfold St.one
  have := one_at hx hp
  simp [this]
theorem one_idle (hx : s.th[3]? = some x) (hc : x.call = l.length) : s.one (l4 l) 3 = { s with steps := s.steps + 1 } := by
  have h : s.at? (l4 l) 3 = none := by
    unfold St.at? l4
    rw [hx]
    simp [hc]
  unfold St.one
  simp [h]
theorem go_th (hx : s.th[3]? = some x) (p : Plan) : (s.go 3 x p).th[3]? = some (x.next (s.says (p.act x.at_)) (p.dn x.at_)) := by
  show (s.th.set 3 _)[3]? = _
  rw [List.getElem?_set_self (List.getElem?_eq_some_iff.1 hx).1]
theorem AR.move (h : AR W w R E rp bm v l lay s sv) (hl : LayOK (l4 l) (y4 lay)) (ok' : (s.go 3 x p).Ok (l4 l)) (hx : s.th[3]? = some x) {rb cap : Nat} (hsv : sv = .slice (some ⟨rb, x.call, none⟩) (l.length - x.call) (cap - x.call)) (hcap : l.length ≤ cap) (hc : x.call < l.length) {w1 : World} {E' : Nat → Prop}
    (he : AnvI W bm v (l4 l) (y4 lay) (s.go 3 x p) E' w1) (hg : ∀ b, b < w.heap.size → ¬ E b → ¬ E' b) (hf : Fr E w w1) :
    (p.dn x.at_ = false → AR W w1 R E' rp bm v l lay (s.go 3 x p) sv) ∧
    (∀ nv, p.dn x.at_ = true → (x.call + 1 < l.length → nv = .slice (some ⟨rb, x.call + 1, none⟩) (l.length - (x.call + 1)) (cap - (x.call + 1))) → (x.call + 1 = l.length → ∃ ad c, nv = .slice ad 0 c) →
      AR W (w1.setCell ⟨rp, 0, none⟩ nv) R E' rp bm v l lay (s.go 3 x p) nv ∧ Fr (fun k => E k ∨ R k) w (w1.setCell ⟨rp, 0, none⟩ nv)) := by
  have hth := go_th hx p
  obtain ⟨rb', cap', e1, hcap', hcell, hrb, hne⟩ := h.now x hx hc
  rw [hsv] at e1
  injection e1 with e1 e2 e3
  injection e1 with e1
  injection e1 with e1 _ _
  subst e1
  have hcc : cap' - x.call = cap - x.call := e3.symm
  have hdis : ∀ k, R k → ¬ E' k ∧ W.heap.size ≤ k ∧ k < w1.heap.size := fun k hk => ⟨hg k (h.dis k hk).2.2 (h.dis k hk).1, (h.dis k hk).2.1, Nat.lt_of_lt_of_le (h.dis k hk).2.2 hf.size⟩
  have hb1 : Blk w1 rp 143 #[sv] := h.blk.fr hf (h.dis rp h.rR).1
  have hcell1 : ∀ (j : Nat) y, lay[j]? = some y → w1.cell? ⟨rb, j, none⟩ = some (pval y) := fun j y hj => by
    have e := hf.block rb (h.dis rb hrb).2.2 (h.dis rb hrb).1
    have q := hcell j y hj
    simp only [World.cell?, e] at q ⊢
    exact q
  refine ⟨fun hd => ⟨he, hb1, fun y hy hyc => ?_, fun y hy hyc => ?_, h.rR, hdis⟩, fun nv hd h1 h2 => ?_⟩
  · rw [hth] at hy
    injection hy with hy
    subst hy
    simp only [TS.next, hd, Bool.false_eq_true, if_false] at hyc ⊢
    exact ⟨rb, cap, hsv, hcap, hcell1, hrb, hne⟩
  · rw [hth] at hy
    injection hy with hy
    subst hy
    simp only [TS.next, hd, Bool.false_eq_true, if_false] at hyc
    omega
  · have f2 : Fr (fun k => k = rp) w1 (w1.setCell ⟨rp, 0, none⟩ nv) := (Fr.refl (fun k => k = rp) w1).put (p := ⟨rp, 0, none⟩) (.inl rfl) nv
    obtain ⟨F, gvf, hx2⟩ := he
    refine ⟨⟨⟨F, gvf, hx2.fr hl ok' f2 (fun k hk e => (hdis rp h.rR).1 (e ▸ hk))⟩, (hb1.put 0 nv).eq (by simp), fun y hy hyc => ?_, fun y hy hyc => ?_, h.rR, fun k hk => ⟨(hdis k hk).1, (hdis k hk).2.1, Nat.lt_of_lt_of_le (hdis k hk).2.2 f2.size⟩⟩, ⟨f2.os.trans hf.os, f2.tape.trans hf.tape, f2.output.trans hf.output, Nat.le_trans hf.size f2.size, fun k hk hn => (f2.block k (Nat.lt_of_lt_of_le hk hf.size) (fun e => hn (.inr (e ▸ h.rR)))).trans (hf.block k hk (fun e => hn (.inl e)))⟩⟩
    · rw [hth] at hy
      injection hy with hy
      subst hy
      simp only [TS.next, hd, if_true] at hyc ⊢
      refine ⟨rb, cap, h1 hyc, hcap, fun j y hj => ?_, hrb, hne⟩
      rw [World.cell?_setCell_other _ _ _ _ (by intro e; injection e with e _ _; exact hne e.symm)]
      exact hcell1 j y hj
    · rw [hth] at hy
      injection hy with hy
      subst hy
      simp only [TS.next, hd, if_true] at hyc
      exact h2 hyc
def left3 (l : List Plan) (s : St) : Bool := match s.th[3]? with | some x => decide (x.call = l.length) | none => true
set_option maxHeartbeats 2000000 in
set_option maxRecDepth 100000 in
theorem Row_any (h : AR W w R E rp bm v l lay s sv) (hl : LayOK (l4 l) (y4 lay)) (hlen : lay.length = l.length) (hn : FitsP (l4 l)) (ok : s.Ok (l4 l)) (hs : s.steps ≤ 40000000) :
    Calls Try.prog 35 #[.pointer (some ⟨rp, 0, none⟩), .pointer (some ⟨v, 0, none⟩)] w fun e w' => e = .returned (.bool (left3 l (s.one (l4 l) 3))) ∧ ∃ E' sv', AR W w' R E' rp bm v l lay (s.one (l4 l) 3) sv' ∧ (∀ b, b < w.heap.size → ¬ E b → ¬ E' b) ∧ Fr (fun k => E k ∨ R k) w w' := by
  obtain ⟨x, hx⟩ : ∃ x, s.th[3]? = some x := ⟨_, List.getElem?_eq_getElem (by rw [ok.tl]; simp [l4])⟩
  have hok : x.Ok l := ok.th 3 x l hx rfl
  have c0 : w.cell? ⟨rp, 0, none⟩ = some sv := h.blk.cell 0
  by_cases hc : x.call = l.length
  · obtain ⟨ad, c, rfl⟩ := h.fin x hx hc
    have hone := one_idle hx hc
    have hleft : left3 l (s.one (l4 l) 3) = true := by rw [hone]; unfold left3; simp [hx, hc]
    have H := Lib.hid h
    clear h
    go_enter Try.func35, Try.ntmps35
    go_wp2_with fail
    go_ret
    obtain ⟨F, gvf, he⟩ := H.out.env
    rw [hleft, hone]
    exact ⟨rfl, E, _, ⟨⟨F, gvf, he.idle⟩, H.out.blk, H.out.now, H.out.fin, H.out.rR, H.out.dis⟩, fun _ _ e => e, Fr.refl _ _⟩
  · have hc2 : x.call < l.length := by have := hok.cl; omega
    obtain ⟨p, hp⟩ : ∃ p, l[x.call]? = some p := ⟨_, List.getElem?_eq_getElem hc2⟩
    obtain ⟨y, hy⟩ : ∃ y, lay[x.call]? = some y := ⟨_, List.getElem?_eq_getElem (by omega)⟩
    obtain ⟨rb, cap, rfl, hcap, hcell, hrb, hne⟩ := h.now x hx hc2
    have hone := one_go hx hp
    have hth := go_th hx p
    have hat := one_at hx hp
    rw [hone]
    have c1 := hcell x.call y hy
    have f0 : w.frozen? ⟨rp, 0, none⟩ = false := Blk.cold h.blk 0
    obtain ⟨n, hn0⟩ : ∃ n, n = l.length - x.call := ⟨_, rfl⟩
    obtain ⟨cc, hcc⟩ : ∃ cc, cc = cap - x.call := ⟨_, rfl⟩
    rw [← hn0, ← hcc] at c0
    have b0 : 0 < n := by omega
    have b1 : n ≤ cc := by omega
    have t0 : ((n : Int) == 0) = false := by simp; omega
    have i0 : (0 : Int) < (n : Int) := by omega
    have H := Lib.hid h
    have HX := Lib.hid (And.intro hx (And.intro hok (And.intro hp (And.intro hy (And.intro hn0 hcc)))))
    clear h hcell hx hok hp hn0 hcc
    cases y with
    | none =>
      replace c1 : w.cell? ⟨rb, x.call, none⟩ = some .nilIface := c1
      go_enter Try.func35, Try.ntmps35
      go_wp2_with fail
      all_goals
        obtain ⟨hx, hok, hp, hy, hn0, hcc⟩ := HX.out
        have hpn : p.none = true := by
          have := (hl.no 3 x.call lay l p rfl rfl hp).2 hy
          exact this
        have hd : p.dn x.at_ = true := by unfold Plan.dn; rw [hpn]; rfl
        have hok' := ok.go hat (by omega)
        obtain ⟨F, gvf, he⟩ := H.out.env
        have hm := (H.out.move hl hok' hx rfl hcap hc2 ⟨F, gvf, he.skip hl ok hat hpn⟩ (fun _ _ e => e) (Fr.refl _ _)).2
        have hleft : left3 l (s.go 3 x p) = (((n - 1 : Nat) : Int) == 0) := by
          unfold left3
          rw [hth]
          simp only [TS.next, hd, if_true]
          rw [Bool.eq_iff_iff]
          simp
          omega
        rw [hleft]
        refine ⟨rfl, _, results_tmp rfl _ _ _, rfl, E, ⟨_, (hm _ hd ?_ ?_).1⟩, fun _ _ e => e, (hm _ hd ?_ ?_).2⟩
        all_goals
          intro h1
          first
          | (have e1 : n - 1 = l.length - (x.call + 1) := by omega
             have e2 : cc - 1 = cap - (x.call + 1) := by omega
             rw [e1, e2]; done)
          | (exfalso; omega)
          | (have e1 : n - 1 = 0 := by omega
             rw [e1]; exact ⟨_, _, rfl⟩)
    | some pb =>
      replace c1 : w.cell? ⟨rb, x.call, none⟩ = some (.iface 70 (.pointer (some ⟨pb, 0, none⟩))) := c1
      have hna : ∀ w : World, (nilAhead 288 70 (.pointer (some ⟨pb, 0, none⟩)) "Step").run Try.prog w = .ok (some false) w := fun _ => by kernel_rfl
      have hme : ∀ w : World, (method 288 70 (.pointer (some ⟨pb, 0, none⟩)) "Step").run Try.prog w = .ok (97, .pointer (some ⟨pb, 0, none⟩)) w := fun _ => by kernel_rfl
      have hlat : layAt (y4 lay) 3 x.call = some (some pb) := hy
      have HST := Lib.hid (Anv_step hl hn ok hs hat (show VAt v 3 v from ⟨rfl, rfl⟩) hlat H.out.env)
      go_enter Try.func35, Try.ntmps35
      go_wp2_with fail
      refine HST.out.mono ?_
      rintro e w1 ⟨rfl, E', he', hg', hf'⟩
      have hrp : rp < w.heap.size := (H.out.dis rp H.out.rR).2.2
      have hbl := hf'.block rp hrp (H.out.dis rp H.out.rR).1
      have c01 : w1.cell? ⟨rp, 0, none⟩ = some (.slice (some ⟨rb, x.call, none⟩) n cc) := by simp only [World.cell?, hbl] at c0 ⊢; exact c0
      have f01 : w1.frozen? ⟨rp, 0, none⟩ = false := by simp only [World.frozen?, hbl] at f0 ⊢; exact f0
      have HM := Lib.hid (H.out.move hl (ok.go hat (by omega)) HX.out.1 rfl hcap hc2 he' hg' hf')
      have HG := Lib.hid (And.intro hg' hf')
      clear he' hg' hf' hbl
      cases hd : p.dn x.at_
      · go_wp2_with fail
        obtain ⟨hx, hok, hp, hy, hn0, hcc⟩ := HX.out
        have hm := HM.out.1 hd
        have hleft : left3 l (s.go 3 x p) = ((n : Int) == 0) := by
          unfold left3
          rw [hth, t0]
          simp only [TS.next, hd, Bool.false_eq_true, if_false]
          simp; omega
        rw [hleft, t0]
        first
        | exact ⟨rfl, _, results_tmp rfl _ _ _, rfl, E', ⟨_, hm⟩, HG.out.1, HG.out.2.mono (fun _ _ e => .inl e)⟩
        | exact ⟨rfl, _, results_tmp rfl _ _ _, rfl, E', _, hm, HG.out.1, HG.out.2.mono (fun _ _ e => .inl e)⟩
      · go_wp2_with fail
        all_goals
          obtain ⟨hx, hok, hp, hy, hn0, hcc⟩ := HX.out
          have hm := HM.out.2
          have hleft : left3 l (s.go 3 x p) = (((n - 1 : Nat) : Int) == 0) := by
            unfold left3
            rw [hth]
            simp only [TS.next, hd, if_true]
            rw [Bool.eq_iff_iff]
            simp
            omega
          rw [hleft]
          refine ⟨rfl, _, results_tmp rfl _ _ _, rfl, E', ⟨_, (hm _ hd ?_ ?_).1⟩, HG.out.1, (hm _ hd ?_ ?_).2⟩
          all_goals
            intro h1
            first
            | (have e1 : n - 1 = l.length - (x.call + 1) := by omega
               have e2 : cc - 1 = cap - (x.call + 1) := by omega
               rw [e1, e2]; done)
            | (exfalso; omega)
            | (have e1 : n - 1 = 0 := by omega
               rw [e1]; exact ⟨_, _, rfl⟩)
end
end Go.Proofs.Ytkaplifhaafpdaa

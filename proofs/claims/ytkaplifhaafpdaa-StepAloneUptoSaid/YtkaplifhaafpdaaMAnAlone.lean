/-
  A row of the law's procs, alone: Alone. No condition.
-/
import Derived.Test.YtkaplifhaafpdaaMAnPure
namespace Go.Proofs.Ytkaplifhaafpdaa
open Go Go.RowKit
set_option linter.unusedSimpArgs false
set_option linter.unusedVariables false
/-- a row of procs, at a state; G: its blocks behind W -/
def AG (W w : World) (G : Nat → Prop) (rp bm v : Nat) (l : List Plan) (lay : List (Option Nat)) (s : St) : Prop := ∃ R E sv, AR W w R E rp bm v l lay s sv ∧ ∀ k, G k ↔ (R k ∨ E k) ∧ W.heap.size ≤ k
/-- what does not change -/
structure AnOK (l : List Plan) (lay : List (Option Nat)) : Prop where
  hl : LayOK (l4 l) (y4 lay)
  len : lay.length = l.length
  fit : FitsP (l4 l)
  wt : planWt l ≤ 1048576
/-- where Alone ends -/
structure Ends (l : List Plan) (s : St) (most : Int) (m : Nat) (d : Bool) : Prop where
  le : m ≤ 2000000
  lm : (m : Int) ≤ most ∨ m = 0
  yes : d = true → 1 ≤ m ∧ left3 l (run3 l s m) = true
  no : d = false → (m : Int) = max most 0 ∧ (1 ≤ m → left3 l (run3 l s m) = false)
/-- what Alone leaves -/
def AloneTo (W w w' : World) (G : Nat → Prop) (rp bm v : Nat) (l : List Plan) (lay : List (Option Nat)) (s : St) (most : Int) (u : Value) : Prop := ∃ (m : Nat) (d : Bool), u = .bool d ∧ Ends l s most m d ∧ ∃ G', AG W w' G' rp bm v l lay (run3 l s m) ∧ Gk w w' G G'
section
variable {W w w' : World} {R E S G : Nat → Prop} {rp bm v : Nat} {l : List Plan} {lay : List (Option Nat)} {s s0 : St} {sv : Value} {x : TS} {p : Plan}
theorem AR.bel (h : AR W w R E rp bm v l lay s sv) : Below W.heap.size W w := let ⟨_, _, he⟩ := h.env; he.bel
theorem AG.bel (h : AG W w G rp bm v l lay s) : Below W.heap.size W w := let ⟨_, _, _, h, _⟩ := h; h.bel
theorem AG.pos (h : AG W w G rp bm v l lay s) : ∀ k, G k → W.heap.size ≤ k ∧ k < w.heap.size := by
  obtain ⟨R, E, sv, h, hG⟩ := h
  intro k hk
  obtain ⟨F, gvf, he⟩ := h.env
  obtain ⟨h1 | h1, h2⟩ := (hG k).1 hk
  · exact ⟨h2, (h.dis k h1).2.2⟩
  · exact ⟨h2, he.pos k h1⟩
theorem AG.fr (h : AG W w G rp bm v l lay s) (hk : AnOK l lay) (ok : s.Ok (l4 l)) (hf : Fr S w w') (hS : ∀ k, S k → W.heap.size ≤ k ∧ ¬ G k) : AG W w' G rp bm v l lay s := by
  obtain ⟨R, E, sv, h, hG⟩ := h
  exact ⟨R, E, sv, h.fr hk.hl ok hf (fun k hr hs => (hS k hs).2 ((hG k).2 ⟨.inl hr, (hS k hs).1⟩)) (fun k he hs => (hS k hs).2 ((hG k).2 ⟨.inr he, (hS k hs).1⟩)), hG⟩
theorem AG.drawn (h : AG W w G rp bm v l lay s) (hk : AnOK l lay) (ok : s.Ok (l4 l)) (n : Nat) : AG W (w.drewN n) G rp bm v l lay s := h.fr hk ok ((Fr.refl (fun _ => False) w).drawn n) (fun _ e => e.elim)
theorem AG.bl (h : AG W w G rp bm v l lay s) (hk : AnOK l lay) (ok : s.Ok (l4 l)) (hb : Below w.heap.size w w') : AG W w' G rp bm v l lay s := h.fr hk ok (Fr.of_below (S := fun _ => False) hb) (fun _ e => e.elim)
theorem RowG (h : AG W w G rp bm v l lay s) (hk : AnOK l lay) (ok : s.Ok (l4 l)) (hs : s.steps ≤ 40000000) :
    Calls Try.prog 35 #[.pointer (some ⟨rp, 0, none⟩), .pointer (some ⟨v, 0, none⟩)] w fun e w' => e = .returned (.bool (left3 l (s.one (l4 l) 3))) ∧ ∃ G', AG W w' G' rp bm v l lay (s.one (l4 l) 3) ∧ Gk w w' G G' := by
  obtain ⟨R, E, sv, ha, hG⟩ := id h
  refine (Row_any ha hk.hl hk.len hk.fit ok hs).mono ?_
  rintro e w' ⟨rfl, E', sv', h', hg, hf⟩
  have hbw := h.bel
  have hb' := h'.bel
  refine ⟨rfl, fun k => (R k ∨ E' k) ∧ W.heap.size ≤ k, ⟨R, E', sv', h', fun _ => Iff.rfl⟩, fun b hb hn hG' => ?_, ⟨hf.os, hf.tape, hf.output, hf.size, fun b hb hn => ?_⟩⟩
  · obtain ⟨h1 | h1, h2⟩ := hG'
    · exact hn ((hG b).2 ⟨.inl h1, h2⟩)
    · exact hg b hb (fun e => hn ((hG b).2 ⟨.inr e, h2⟩)) h1
  · rcases Nat.lt_or_ge b W.heap.size with h1 | h1
    · exact (hb'.block b h1).trans (hbw.block b h1).symm
    · exact hf.block b hb (fun e => hn ((hG b).2 ⟨e.symm, h1⟩))
set_option maxHeartbeats 2000000 in
set_option maxRecDepth 100000 in
theorem Alone_row (h : AG W w G rp bm v l lay s) (hk : AnOK l lay) (ok : s.Ok (l4 l)) (h0 : s.steps = 0) (hs : ∃ x, s.th[3]? = some x ∧ x.call = 0 ∧ x.at_ = 0) (most : Int) (hm : most ≤ 9223372036854775807) :
    Calls Try.prog 34 #[.pointer (some ⟨v, 0, none⟩), .iface 77 (.pointer (some ⟨rp, 0, none⟩)), .int .i64 most] w fun e w' => ∃ u : Value, e = .returned u ∧ AloneTo W w w' G rp bm v l lay s most u := by
  have hna : ∀ w : World, (nilAhead 288 77 (.pointer (some ⟨rp, 0, none⟩)) "Step").run Try.prog w = .ok (some false) w := fun _ => by kernel_rfl
  have hme : ∀ w : World, (method 288 77 (.pointer (some ⟨rp, 0, none⟩)) "Step").run Try.prog w = .ok (35, .pointer (some ⟨rp, 0, none⟩)) w := fun _ => by kernel_rfl
  have H := Lib.hid (And.intro h (And.intro ok hs))
  clear h ok hs
  go_enter Try.func34, Try.ntmps34
  go_wp2_with fail
  go_loopw [8] (fun s8 wr => ∃ m : Nat, s8 = .int .i64 m ∧ ((m : Int) ≤ most ∨ m = 0) ∧ Hid (m ≤ 1048577 ∧ (1 ≤ m → left3 l (run3 l s m) = false) ∧ ∃ G', AG W wr G' rp bm v l lay (run3 l s m) ∧ Gk w wr G G')) (fun s8 _ => most.toNat - (intOf s8).toNat)
  case atStart => exact ⟨0, rfl, .inr rfl, by omega, fun e => by omega, G, H.out.1, Gk.refl _ _⟩
  case round =>
    obtain ⟨m, rfl, hmm, HM⟩ := hrel
    by_cases hlt : (m : Int) < most
    · obtain ⟨hml, hno, G1, hA, hK⟩ := HM.out
      obtain ⟨okm, stm⟩ := run_ok H.out.2.1 h0 m (by omega)
      have HC := Lib.hid (RowG hA hk okm (by omega))
      have HK := Lib.hid hK
      have hlt' : decide ((m : Int) < most) = true := by simpa using hlt
      clear hA hK hno okm stm
      go_wp2_with fail
      refine HC.out.mono ?_
      rintro e w1 ⟨rfl, G2, hA2, hK2⟩
      have HN := Lib.hid (And.intro hA2 (HK.out.trans hK2))
      clear hA2 hK2 HC HK
      cases hd : left3 l ((run3 l s m).one (l4 l) 3)
      · have hd2 : left3 l (run3 l s (m + 1)) = false := hd
        have hm1 : m + 1 ≤ 1048576 := by
          obtain ⟨x, hx, hok, q1, q2⟩ := run_at H.out.2.1 h0 H.out.2.2 (m + 1) (by omega)
          unfold left3 at hd2
          rw [hx] at hd2
          have hc : x.call ≠ l.length := of_decide_eq_false hd2
          have hc2 : x.call < l.length := by have := hok.cl; omega
          obtain ⟨p, hp⟩ : ∃ p, l[x.call]? = some p := ⟨_, List.getElem?_eq_getElem hc2⟩
          have e1 := q1 hc2
          have e2 := at_lt hok hp
          have e3 := cum_succ hp
          have e4 := cum_wt (l := l) (x.call + 1)
          have := hk.wt
          omega
        go_wp2_with fail
        go_round
        case rel => exact ⟨m + 1, by go_num, by omega, by omega, fun _ => hd2, _, HN.out.1, HN.out.2⟩
        case measure => simp [intOf]; omega
      · have hd2 : left3 l (run3 l s (m + 1)) = true := hd
        go_wp2_with fail
        go_ret
        exact ⟨_, rfl, m + 1, true, rfl, ⟨by omega, .inl (by omega), fun _ => ⟨by omega, hd2⟩, fun e => Bool.noConfusion e⟩, _, HN.out.1, HN.out.2⟩
    · obtain ⟨hml, hno, G1, hA, hK⟩ := HM.out
      have hlt' : decide ((m : Int) < most) = false := by simpa using hlt
      have HN := Lib.hid (And.intro hno (And.intro hA hK))
      clear hA hK hno
      go_wp2_with fail
      go_ret
      exact ⟨_, rfl, m, false, rfl, ⟨by omega, hmm, fun e => Bool.noConfusion e, fun _ => ⟨by omega, HN.out.1⟩⟩, _, HN.out.2.1, HN.out.2.2⟩
end
end Go.Proofs.Ytkaplifhaafpdaa

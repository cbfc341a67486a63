/-
  StepHistory: the events are a history's; two rows of picks are one; as many picks as are left finish all. No condition.
-/
import Derived.Test.YtkaplifhaafpdaaMStTwo
namespace Go.Proofs.Ytkaplifhaafpdaa
open Go Go.RowKit
set_option linter.unusedSimpArgs false
set_option linter.unusedVariables false
section
variable {W w w' w1 : World} {ll : List (List Plan)} {wd q : Nat} {L : Lay} {s s1 s2 : St} {ps qs : List Int}
theorem sum_take {α : Type} (f : α → Nat) {l : List α} {k : Nat} {x : α} (h : l[k]? = some x) : ((l.take (k + 1)).map f).sum = ((l.take k).map f).sum + f x := by
  rw [List.take_add_one, h]
  simp
theorem sum_le {α : Type} (f : α → Nat) (l : List α) (k : Nat) : ((l.take k).map f).sum ≤ (l.map f).sum := by
  have : l = l.take k ++ l.drop k := (List.take_append_drop k l).symm
  have h2 : (l.map f).sum = ((l.take k ++ l.drop k).map f).sum := by rw [← this]
  rw [h2, List.map_append, List.sum_append]
  omega
theorem RdI.own {w : World} {B : Nat} {v : Value} {l : List Int} (h : w.ownsRow B 3 1 v l.length (is64 l)) : RdI w v l := by
  obtain ⟨p, c, rfl⟩ := bk_form h
  refine ⟨p, c, rfl, fun i x hx => ?_⟩
  have hi := (List.getElem?_eq_some_iff.1 hx).1
  obtain ⟨g, c', e, _, hl⟩ := bk_form1 h (by omega)
  injection e with e1 e2 e3
  subst e1 e3
  exact ⟨g, 0, rfl, hl, by rw [Nat.zero_add]; exact own_cell h (by simp [is64, hx])⟩
theorem own_run {w : World} {B : Nat} {up : Option Addr} {uc : Nat} {ps qs : List Int} (h : w.ownsRow B 3 1 (.slice up ([] ++ ps ++ qs).length uc) ([] ++ ps ++ qs).length (is64 ([] ++ ps ++ qs))) :
    RdI w (.slice up (ps.length + qs.length) uc) (ps ++ qs) ∧ ∀ b o c, Value.slice up (ps.length + qs.length) uc = .slice (some ⟨b, o, none⟩) (ps ++ qs).length c → B ≤ b ∧ b < w.heap.size := by
  have h1 : w.ownsRow B 3 1 (.slice up (ps ++ qs).length uc) (ps ++ qs).length (is64 (ps ++ qs)) := h
  have e1 : (ps ++ qs).length = ps.length + qs.length := List.length_append
  rw [← e1]
  exact ⟨RdI.own h1, fun b o c e => h1.lt b (by rw [e]; rfl)⟩
def pcost (l : List Plan) : Nat := (l.map Plan.cost).sum
set_option maxHeartbeats 4000000 in
set_option maxRecDepth 100000 in
theorem StepHistory_any {tv : Value} {p : Option Addr} {c : Nat} {p2 : Option Addr} {c2 : Nat} (hp : PlansAt W tv ll) (hw : plansWt ll ≤ 1048576) (hf : ∀ l ∈ ll, ∀ y ∈ l, ∀ d ∈ y.l, d.fits) (ha : Reads W (.slice p ps.length c) (is64 ps)) (hna : ps.length ≤ 1048576) (hb : Reads W (.slice p2 qs.length c2) (is64 qs)) (hnb : qs.length ≤ 1048576) :
    Calls Try.prog 9 #[tv, .slice p ps.length c, .slice p2 qs.length c2] W fun e w' => e = .returned (.bool true) ∧ Below W.heap.size W w' := by
  have hl1 : ll.length ≤ 1048576 ∧ ∀ l ∈ ll, l.length ≤ 1048576 := plans_len hw
  have HL := Lib.hid hl1
  have HP := Lib.hid hp
  have HRA := Lib.hid ha
  have HRB := Lib.hid hb
  have HF : Hid (tooMany ll = false → Fits ll) := fun e => fits_of e hw hf
  have HW := Lib.hid hw
  have hp' := hp
  obtain ⟨tp, tc, rfl, _⟩ := hp'
  clear hp ha hb hw hf hl1
  go_enter Try.func9, Try.ntmps9
  go_wp2_with fail
  refine (live_any _).mono ?_
  rintro e wl ⟨rfl, hbl⟩
  have HBL := Lib.hid hbl
  have HC := Lib.hid (both_any HP.out hbl HL.out.1 HL.out.2)
  clear hbl
  go_wp2_with fail
  refine HC.out.mono ?_
  clear HC
  rintro e wb (⟨htm, ⟨wd, rfl⟩, hb⟩ | ⟨htm, wd, q, rfl, hb⟩)
  · have HB : Hid (Below W.heap.size W wb) := HBL.out.trans (hb.mono HBL.out.size)
    clear hb
    have HC := Lib.hid (both_any HP.out HB.out HL.out.1 HL.out.2)
    clear HP HL HBL
    go_wp2_with fail
    refine HC.out.mono ?_
    clear HC
    rintro e wc (⟨-, ⟨wd2, rfl⟩, hb⟩ | ⟨htm2, wd2, q2, rfl, hb⟩)
    · have HB2 : Hid (Below W.heap.size W wc) := HB.out.trans (hb.mono HB.out.size)
      clear hb
      go_wp2
      go_ret
      exact ⟨rfl, HB2.out⟩
    · rw [htm] at htm2; cases htm2
  · have hn' := HF.out htm
    obtain ⟨L, U, _, hd, _, hb⟩ := hb.out.duo HBL.out.size
    have HB : Hid (Below W.heap.size W wb) := HBL.out.trans (hb.mono HBL.out.size)
    have HD := Lib.hid hd
    have HOK := Lib.hid hd.oks.2.1
    have HC := Lib.hid (both_any HP.out HB.out HL.out.1 HL.out.2)
    clear hd hb HBL
    go_wp2_with fail
    refine HC.out.mono ?_
    clear HC
    rintro e wc (⟨htm2, -, -⟩ | ⟨-, wd2, q2, rfl, hb⟩)
    · rw [htm] at htm2; cases htm2
    obtain ⟨L2, V, _, hd2, hV, hb⟩ := hb.out.duo HB.out.size
    have ht : Two W ll wd q L (St.start ll mem0) (St.start ll mem0) wd2 q2 L2 (St.start ll mem0) (St.start ll mem0) wc := ⟨U, V, HD.out.bl hb, hd2, fun k hu hv => by have := (HD.out.pos k hu).2; have := hV k hv; omega⟩
    have HFINE := Lib.hid (start_fine HW.out (ps ++ qs) hn' (by simp; omega) HOK.out)
    have HFI1 := Lib.hid (start_fine HW.out ps hn' (by omega) HOK.out)
    have HHI := Lib.hid ((HI.start ll mem0).many (ll := ll) (ps ++ qs))
    have HSL : Hid ((St.start ll mem0).left ll = (ll.map pcost).sum) := start_left_eq ll mem0
    have HSW : Hid ((ll.map pcost).sum ≤ 1048576) := by have := start_left ll mem0; have := HSL.out; have := HW.out; show _ ≤ _; omega
    have h00 : (St.start ll mem0).steps = 0 := rfl
    generalize St.start ll mem0 = s0 at *
    have HSN : Hid (∀ vs, (s0.many ll vs).steps = vs.length) := fun vs => by rw [many_steps, h00, Nat.zero_add]
    have hra : RdI wc (.slice p ps.length c) ps := RdI.of (HRA.out.below ht.bel)
    have hrb : ∀ wx, Below W.heap.size W wx → RdI wx (.slice p2 qs.length c2) qs := fun wx hx => RdI.of (HRB.out.below hx)
    have harg : ∀ (pp : Option Addr) (cc : Nat) (l : List Int), Reads W (.slice pp l.length cc) (is64 l) → 0 < l.length → ∀ b o c, Value.slice pp l.length cc = .slice (some ⟨b, o, none⟩) l.length c → b < W.heap.size := by
      intro pp cc l hr h b o c e
      injection e with e _ _
      subst e
      obtain ⟨x, hx⟩ : ∃ x, l[0]? = some x := ⟨_, List.getElem?_eq_getElem h⟩
      obtain ⟨b', o', e, hl, _⟩ := reads_at hr hx
      injection e with e; injection e with e _ _
      subst e
      exact hl
    have HC := Lib.hid (ht.runA hn' (by omega) hra (harg _ _ _ HRA.out))
    have HARG := Lib.hid (harg _ _ _ HRB.out)
    have d1 := ht.one.cell1.2
    have HBB := Lib.hid hrb
    clear ht hra hrb harg hb hd2 hV
    go_wp2_with fail
    refine HC.out.mono ?_
    clear HC
    rintro e w1 ⟨rfl, ht⟩
    have HC := Lib.hid (ht.runA hn' (by rw [HSN.out]; omega) (HBB.out _ ht.bel) HARG.out)
    have d1 := ht.one.cell1.2
    clear ht
    go_wp2_with fail
    refine HC.out.mono ?_
    clear HC
    rintro e w2 ⟨rfl, ht⟩
    rw [← many_append] at ht
    have HT := Lib.hid ht
    clear ht d1
    have HS : Hid (∀ wx, Below w2.heap.size w2 wx → wx.cell? ⟨wd2, 1, none⟩ = some (.pointer (some ⟨L2.rp, 0, none⟩))) := fun wx hx => (HT.out.bl hx).two.cell1.2
    have b1 : Below w2.heap.size w2 w2.drew := (Below.refl _ _).drew
    have b2 : Below w2.heap.size w2 (w2.alloc (.cells #[] 3)).drew := ((Below.refl _ _).alloc (Nat.le_refl _) _).drew
    have HO : Hid ((w2.alloc (.cells #[] 3)).drew.ownsRow w2.heap.size 3 1 (.slice (some ⟨w2.heap.size, 0, none⟩) 0 0) ([] : List Int).length (is64 [])) := emp_own w2 3 1
    have hsz2 : w2.heap.size ≤ (w2.alloc (.cells #[] 3)).drew.heap.size := b2.size
    have HRP : Hid (∀ wx, Below w2.heap.size w2 wx → Reads wx (.slice p ps.length c) (is64 ps)) := fun wx hx => HRA.out.below ((HT.out.bl hx).bel)
    have HRQ : Hid (∀ wx, Below w2.heap.size w2 wx → Reads wx (.slice p2 qs.length c2) (is64 qs)) := fun wx hx => HRB.out.below ((HT.out.bl hx).bel)
    go_upto_region 9 with fail
    go_cut [6] (fun s6 wx => s6 = .bool false ∧ Hid (Two W ll wd q L (s0.many ll (ps ++ qs)) s0 wd2 q2 L2 (s0.many ll (ps ++ qs)) s0 wx))
    case first =>
      go_region_held3 (fun wx => wx.cell? ⟨wd2, 1, none⟩ = some (.pointer (some ⟨L2.rp, 0, none⟩)))
        (first | exact HS.out _ (by assumption) | exact (Two.two (by assumption)).cell1.2)
        ((first
          | (have HRUN := Two.runB HT.out b4 hn' (by rw [h00]; simp; omega) HO4.out.1 HO4.out.2; (with_reducible refine HRUN.mono ?_); clear HRUN; rintro e w5 ⟨rfl, ht5⟩)
          | (refine step_app_i64 rfl _ _ rfl w2.heap.size _ ([] ++ ps) qs rfl HO3.out _ rfl (HRQ.out _ b3) (by simp; omega) hsz3 ?_; intro up4 uc4 w4 ho4 hg4; have b4 : Below w2.heap.size w2 w4 := b3.grown hg4 hsz3 (fun k hk => (HO3.out.lt k hk).1); have HO4 := Lib.hid (own_run ho4); clear ho4 hg4)
          | (refine step_app_i64 rfl _ _ rfl w2.heap.size _ [] ps rfl HO.out _ rfl (HRP.out _ b2) (by simp; omega) hsz2 ?_; intro up uc w3 ho3 hg3; have b3 : Below w2.heap.size w2 w3 := b2.grown hg3 hsz2 (fun k hk => (HO.out.lt k hk).1); have hsz3 : w2.heap.size ≤ w3.heap.size := b3.size; have HO3 := Lib.hid ho3; clear ho3 hg3)))
      all_goals
        go_wp2_with fail
        go_meet
        exact ⟨rfl, Lib.hid ht5⟩
    case rest =>
      obtain ⟨rfl, HT3⟩ := hcut
      clear HT HS b1 b2 HO hsz2 HRP HRQ HBB HARG
      generalize hSS : s0.many ll (ps ++ qs) = SS at *
      have HSS := Lib.hid hSS
      have hst : SS.steps = ps.length + qs.length := by rw [← hSS, HSN.out]; simp
      have HGD : Hid (SS.Good ll) := HFINE.out.2.1
      clear hSS
      generalize hw3 : wc = w3 at *
      have HS : Hid (∀ wx, Below w3.heap.size w3 wx → (wx.cell? ⟨wd, 0, none⟩ = some (.pointer (some ⟨L.bm, 0, none⟩)) ∧ wx.cell? ⟨wd, 1, none⟩ = some (.pointer (some ⟨L.rp, 0, none⟩)) ∧ wx.cell? ⟨wd2, 0, none⟩ = some (.pointer (some ⟨L2.bm, 0, none⟩)) ∧ wx.cell? ⟨wd2, 1, none⟩ = some (.pointer (some ⟨L2.rp, 0, none⟩)))) := fun wx hx => by
        have h1 := (HT3.out.bl hx).one.cell1
        have h2 := (HT3.out.bl hx).two.cell1
        exact ⟨h1.1, h1.2, h2.1, h2.2⟩
      have HE1 := Lib.hid (fun wx hx => (HT3.out.bl (w' := wx) hx).one.events (by omega))
      have HE2 := Lib.hid (fun wx hx => (HT3.out.bl (w' := wx) hx).two.events (by omega))
      have HT1 := Lib.hid (fun wx hx => (HT3.out.bl (w' := wx) hx).one.trace (by omega) HGD.out.1)
      have HT2 := Lib.hid (fun wx hx => (HT3.out.bl (w' := wx) hx).two.trace (by omega) HGD.out.1)
      have HST := Lib.hid (fun wx hx => (HT3.out.bl (w' := wx) hx).one.stepsP)
      have hok := HT3.out.one.oks.1
      have hel : SS.evs.length ≤ 1000000000 := by have := hok.el; omega
      have htl1 : SS.A.trace.length ≤ 1000000000 := by have := hok.tr; omega
      have htv1 : ∀ x ∈ SS.A.trace, x.vals.length ≤ 1000000000 := fun x hx => by have := HGD.out.1 x hx; omega
      clear hok hw3
      have b1 : Below w3.heap.size w3 w3.drew := (Below.refl _ _).drew
      have hwi : IntKind.i64.wrap ((ps.length : Int) + (qs.length : Int)) = (ps.length : Int) + (qs.length : Int) := by rw [IntKind.wrap_i64]; omega
      have hpq : wrap64 ((ps.length : Int) + (qs.length : Int)) = (SS.steps : Int) := by rw [hst]; unfold wrap64; simp; omega
      go_upto_region 10 with fail
      go_cut [107] (fun s107 wx => s107 = .bool false ∧ Hid (Below w3.heap.size w3 wx))
      case first =>
        -- [[
        go_region_held3 (fun wx => wx.cell? ⟨wd, 0, none⟩ = some (.pointer (some ⟨L.bm, 0, none⟩)) ∧ wx.cell? ⟨wd, 1, none⟩ = some (.pointer (some ⟨L.rp, 0, none⟩)) ∧ wx.cell? ⟨wd2, 0, none⟩ = some (.pointer (some ⟨L2.bm, 0, none⟩)) ∧ wx.cell? ⟨wd2, 1, none⟩ = some (.pointer (some ⟨L2.rp, 0, none⟩)))
          (exact HS.out _ (by assumption))
          (first
            | ((with_reducible refine (HE1.out _ (by assumption)).mono ?_); rintro e w4 ⟨v4, rfl, hv4, hb4'⟩; have hb4 : Below w3.heap.size w3 w4 := btr (by assumption) (Below.size (by assumption)) hb4')
            | ((with_reducible refine (HE2.out _ (by assumption)).mono ?_); rintro e w5 ⟨v5, rfl, hv5, hb5'⟩; have hb5 : Below w3.heap.size w3 w5 := btr (by assumption) (Below.size (by assumption)) hb5')
            | ((with_reducible refine (SameE_yes (hv4.below (by assumption)) hv5 (by assumption)).mono ?_); rintro e w6 ⟨rfl, n6, hw6⟩; have hb6 : Below w3.heap.size w3 w6 := (by rw [hw6]; exact bdr (by assumption) (Below.size (by assumption)) n6); clear hw6)
            | ((with_reducible refine (HT1.out _ (by assumption)).mono ?_); rintro e w7 ⟨v7, rfl, hv7, hb7'⟩; have hb7 : Below w3.heap.size w3 w7 := btr (by assumption) (Below.size (by assumption)) hb7')
            | ((with_reducible refine (HT2.out _ (by assumption)).mono ?_); rintro e w8 ⟨v8, rfl, hv8, hb8'⟩; have hb8 : Below w3.heap.size w3 w8 := btr (by assumption) (Below.size (by assumption)) hb8')
            | ((with_reducible refine (SameAccesses_yes (hv7.below (by assumption)) hv8 (by assumption) (by assumption)).mono ?_); rintro e w9 ⟨rfl, n9, hw9⟩; have hb9 : Below w3.heap.size w3 w9 := (by rw [hw9]; exact bdr (by assumption) (Below.size (by assumption)) n9); clear hw9)
            | ((with_reducible refine (HST.out _ (by assumption)).mono ?_); rintro e wa ⟨rfl, rfl⟩))
        all_goals
          go_wp2_with fail
          go_meet
          exact ⟨by first | rfl | (rw [hwi]; simp), Lib.hid (by assumption)⟩
        -- ]]
      case rest =>
        obtain ⟨rfl, HB4⟩ := hcut
        have HTW : Hid (Twin W ll wd q L SS s0 wc) := (HT3.out.bl HB4.out).one
        have HC := Lib.hid (HE1.out _ HB4.out)
        have d1 := (HS.out _ HB4.out).2.1
        clear HE1 HE2 HT1 HT2 HST HS HT3 HB4 b1 hwi hpq htl1 htv1
        go_wp2_with fail
        refine HC.out.mono ?_
        rintro e w4 ⟨v4, rfl, hv4, hb4⟩
        have HTW4 : Hid (Twin W ll wd q L SS s0 w4) := HTW.out.bl hb4
        have HC2 := Lib.hid (history_yes hv4 HHI.out.hist hel)
        clear HTW hv4 hb4 HC d1
        go_wp2_with fail
        refine HC2.out.mono ?_
        rintro e w5 ⟨rfl, hb5⟩
        have HTW5 : Hid (Twin W ll wd q L SS s0 w5) := HTW4.out.bl hb5
        clear HTW4 hb5 HC2 hel
        go_wp2_with fail
        go_loopw [13, 14] (fun i13 i14 wr => ∃ i : Nat, i14 = .int .i64 i ∧ i ≤ ll.length ∧ i13 = .int .i64 (((ll.take i).map pcost).sum : Nat) ∧ wr = w5) (fun _ i14 _ => ll.length - (intOf i14).toNat)
        case atStart => exact ⟨0, rfl, Nat.zero_le _, rfl, rfl⟩
        case round =>
          obtain ⟨i, rfl, hi, rfl, rfl⟩ := hrel
          have hll := HL.out.1
          have hsum := Nat.le_trans (sum_le pcost ll i) HSW.out
          by_cases hlt : i < ll.length
          · obtain ⟨l, hl⟩ : ∃ l, ll[i]? = some l := ⟨_, List.getElem?_eq_getElem hlt⟩
            obtain ⟨tp', tc', eq, _, hpl⟩ := HP.out
            injection eq with eq1 _ eq3
            subst eq1 eq3
            obtain ⟨b, o, v, rfl, hbl, hbc, hpa⟩ := hpl i l hl
            have e1 : wr.cell? ⟨b, o + i, none⟩ = some v := (HTW5.out.bel.cell (p := ⟨b, o + i, none⟩) hbl).trans hbc
            obtain ⟨lp, lc, rfl, _, hpx⟩ := hpa
            have hll2 := HL.out.2 l (List.mem_of_getElem? hl)
            have HST2 := Lib.hid (sum_take pcost hl)
            have hsum2 := Nat.le_trans (sum_le pcost ll (i + 1)) HSW.out
            have HPX := Lib.hid hpx
            rw [HST2.out] at hsum2
            have hpc : pcost l = (l.map Plan.cost).sum := rfl
            clear hpl hpx hl hbc
            generalize ((ll.take i).map pcost).sum = sm at *
            go_wp2_with fail
            go_loopw [13, 15] (fun i13 i15 wr2 => ∃ k : Nat, i15 = .int .i64 k ∧ k ≤ l.length ∧ i13 = .int .i64 ((sm + ((l.take k).map Plan.cost).sum : Nat)) ∧ wr2 = wr) (fun _ i15 _ => l.length - (intOf i15).toNat)
            case atStart => exact ⟨0, rfl, Nat.zero_le _, by simp, rfl⟩
            case round =>
              obtain ⟨k, rfl, hk, rfl, rfl⟩ := hrel
              have hsk := sum_le Plan.cost l k
              by_cases hlk : k < l.length
              · obtain ⟨x, hx⟩ : ∃ x, l[k]? = some x := ⟨_, List.getElem?_eq_getElem hlk⟩
                obtain ⟨b2, o2, v2, rfl, hbl2, f0, f1, hdo⟩ := HPX.out k x hx
                have g0 : wr.cell? ⟨b2, o2 + k * 2, none⟩ = some (.bool x.none) := (HTW5.out.bel.cell (p := ⟨b2, o2 + k * 2, none⟩) hbl2).trans f0
                have g1 : wr.cell? ⟨b2, o2 + k * 2 + 1, none⟩ = some v2 := (HTW5.out.bel.cell (p := ⟨b2, o2 + k * 2 + 1, none⟩) hbl2).trans f1
                obtain ⟨dp, dc, rfl, _⟩ := hdo
                have hsx := sum_take Plan.cost hx
                have hsk1 := sum_le Plan.cost l (k + 1)
                rw [hsx] at hsk1
                have HSX := Lib.hid hsx
                have hcost : x.cost = if x.none then 1 else max 1 x.l.length := rfl
                clear f0 f1 hx hsx
                generalize ((l.take k).map Plan.cost).sum = sk at *
                generalize x.l.length = xl at *
                cases hxn : x.none
                all_goals
                  rw [hxn] at g0 hcost
                · rcases Nat.eq_zero_or_pos xl with h0 | h0
                  · subst h0
                    have hc1 : x.cost = 1 := by rw [hcost]; rfl
                    go_wp2_with fail
                    go_roundw
                    case rel => exact ⟨k + 1, by go_num, by omega, by rw [HSX.out, hc1]; go_num, trivial⟩
                    case measure => simp [intOf]; omega
                  · have hc1 : x.cost = xl := by rw [hcost]; simp; omega
                    have hd : decide ((xl : Int) < 1) = false := by simp; omega
                    go_wp2_with fail
                    go_roundw
                    case rel => exact ⟨k + 1, by go_num, by omega, by rw [HSX.out, hc1]; go_num, trivial⟩
                    case measure => simp [intOf]; omega
                · have hc1 : x.cost = 1 := by rw [hcost]; rfl
                  go_wp2_with fail
                  go_roundw
                  case rel => exact ⟨k + 1, by go_num, by omega, by rw [HSX.out, hc1]; go_num, trivial⟩
                  case measure => simp [intOf]; omega
              · obtain rfl : k = l.length := by omega
                rw [List.take_length] at *
                go_wp2_with fail
                go_roundw
                case rel => exact ⟨i + 1, by go_num, by omega, by rw [HST2.out, hpc], trivial⟩
                case measure => simp [intOf]; omega
          · obtain rfl : i = ll.length := by omega
            rw [List.take_length] at *
            have HT0 : Hid (Twin W ll wd q L SS (s0.many ll ((ps ++ qs).take 0)) wr) := HTW5
            have h13 : ((ll.map pcost).sum : Nat) = (s0.many ll ((ps ++ qs).take 0)).left ll := HSL.out.symm
            clear HTW5
            generalize hss : (ll.map pcost).sum = s13 at *
            subst h13
            go_wp2_with fail
            go_loopw [13, 17] (fun i13 i17 wr => ∃ k : Nat, i17 = .int .i64 k ∧ k ≤ ps.length + qs.length ∧ i13 = .int .i64 (((s0.many ll ((ps ++ qs).take k)).left ll : Nat)) ∧ Hid (Twin W ll wd q L SS (s0.many ll ((ps ++ qs).take k)) wr)) (fun _ i17 _ => ps.length + qs.length - (intOf i17).toNat)
            case atStart => exact ⟨0, rfl, Nat.zero_le _, rfl, HT0⟩
            case round =>
              clear HT0
              obtain ⟨k, rfl, hk, rfl, HT⟩ := hrel
              have hlk : (s0.many ll ((ps ++ qs).take k)).left ll ≤ 1048576 := by
                have h1 := many_left ((ps ++ qs).take k) s0 HOK.out (by rw [h00]; simp; omega)
                have h2 : s0.left ll ≤ 1048576 := HSW.out
                omega
              by_cases hlt : k < ps.length + qs.length
              · obtain ⟨x, hx⟩ : ∃ x, (ps ++ qs)[k]? = some x := ⟨_, List.getElem?_eq_getElem (by simp; omega)⟩
                have hmt := many_take (ll := ll) (s := s0) hx
                have hok := HT.out.oks.2
                have hC := HT.out.pickZ hn' (by rw [HSN.out]; simp; omega) x
                rw [← hmt] at hC
                have HC := Lib.hid hC
                have HLO : Hid ((s0.many ll ((ps ++ qs).take k)).idle ll x = false → (s0.many ll ((ps ++ qs).take (k + 1))).left ll + 1 = (s0.many ll ((ps ++ qs).take k)).left ll) := fun hi => by rw [hmt]; exact left_one hok hi
                have HLE : Hid ((s0.many ll ((ps ++ qs).take k)).idle ll x = true → (s0.many ll ((ps ++ qs).take (k + 1))).left ll = (s0.many ll ((ps ++ qs).take k)).left ll) := fun hi => by rw [hmt, idle_true hi]; rfl
                have hbel := HT.out.bel
                have HRK : Hid ((k < ps.length → ∃ b o, p = some ⟨b, o, none⟩ ∧ wr.cell? ⟨b, o + k, none⟩ = some (.int .i64 x)) ∧ (¬ k < ps.length → ∃ b o, p2 = some ⟨b, o, none⟩ ∧ wr.cell? ⟨b, o + (k - ps.length), none⟩ = some (.int .i64 x))) := by
                  constructor
                  · intro h
                    rw [List.getElem?_append_left h] at hx
                    obtain ⟨b, o, e, _, hc⟩ := reads_at (HRA.out.below hbel) hx
                    exact ⟨b, o, e, hc⟩
                  · intro h
                    rw [List.getElem?_append_right (by omega)] at hx
                    obtain ⟨b, o, e, _, hc⟩ := reads_at (HRB.out.below hbel) hx
                    exact ⟨b, o, e, hc⟩
                clear hC hok hmt hx hbel HT
                generalize hsk : s0.many ll ((ps ++ qs).take k) = sk at *
                generalize hsk1 : s0.many ll ((ps ++ qs).take (k + 1)) = sk1 at *
                have HSK1 := Lib.hid hsk1
                clear hsk hsk1
                generalize sk.left ll = lk at *
                generalize hlk1 : sk1.left ll = lk1 at *
                have HLK1 := Lib.hid hlk1
                clear hlk1
                cases hid : sk.idle ll x
                · have hl1 := HLO.out hid
                  rw [hid] at HC
                  by_cases hkp : k < ps.length
                  · obtain ⟨b, o, rfl, c1⟩ := HRK.out.1 hkp
                    go_wp2_with fail
                    refine HC.out.mono ?_
                    rintro e w6 ⟨rfl, ht6⟩
                    have HT6 := Lib.hid ht6
                    clear ht6 HC
                    go_wp2_with fail
                    go_roundw
                    case rel => exact ⟨k + 1, by go_num, by omega, by rw [HSK1.out, HLK1.out]; go_num, by rw [HSK1.out]; exact HT6⟩
                    case measure => simp [intOf]; omega
                  · obtain ⟨b, o, rfl, c1⟩ := HRK.out.2 hkp
                    obtain ⟨m, rfl⟩ : ∃ m, k = ps.length + m := ⟨k - ps.length, by omega⟩
                    rw [Nat.add_sub_cancel_left] at c1
                    go_wp2_with fail
                    refine HC.out.mono ?_
                    rintro e w6 ⟨rfl, ht6⟩
                    have HT6 := Lib.hid ht6
                    clear ht6 HC
                    go_wp2_with fail
                    go_roundw
                    case rel => exact ⟨ps.length + m + 1, by go_num, by omega, by rw [HSK1.out, HLK1.out]; go_num, by rw [HSK1.out]; exact HT6⟩
                    case measure => simp [intOf]; omega
                · have hl1 := HLE.out hid
                  rw [hid] at HC
                  by_cases hkp : k < ps.length
                  · obtain ⟨b, o, rfl, c1⟩ := HRK.out.1 hkp
                    go_wp2_with fail
                    refine HC.out.mono ?_
                    rintro e w6 ⟨rfl, ht6⟩
                    have HT6 := Lib.hid ht6
                    clear ht6 HC
                    go_wp2_with fail
                    go_roundw
                    case rel => exact ⟨k + 1, by go_num, by omega, by rw [HSK1.out, HLK1.out, hl1], by rw [HSK1.out]; exact HT6⟩
                    case measure => simp [intOf]; omega
                  · obtain ⟨b, o, rfl, c1⟩ := HRK.out.2 hkp
                    obtain ⟨m, rfl⟩ : ∃ m, k = ps.length + m := ⟨k - ps.length, by omega⟩
                    rw [Nat.add_sub_cancel_left] at c1
                    go_wp2_with fail
                    refine HC.out.mono ?_
                    rintro e w6 ⟨rfl, ht6⟩
                    have HT6 := Lib.hid ht6
                    clear ht6 HC
                    go_wp2_with fail
                    go_roundw
                    case rel => exact ⟨ps.length + m + 1, by go_num, by omega, by rw [HSK1.out, HLK1.out, hl1], by rw [HSK1.out]; exact HT6⟩
                    case measure => simp [intOf]; omega
              · obtain rfl : k = ps.length + qs.length := by omega
                rw [show (ps ++ qs).take (ps.length + qs.length) = ps ++ qs from List.take_of_length_le (by simp), HSS.out] at HT hlk ⊢
                have HFI := HFINE
                have HLAST : Hid (∀ wx s1, Twin W ll wd q L s1 SS wx → s1.Fine ll → s1.left ll ≤ SS.left ll → Calls Try.prog 20 #[.pointer (some ⟨L.rp, 0, none⟩), .int .i64 ((SS.left ll : Nat) : Int)] wx fun e w' => e = .returned (.bool true) ∧ ∃ s2, Twin W ll wd q L s2 SS w' ∧ s2.done ll = true ∧ s2.pending = []) := by
                  intro wx s1 ht hf hle
                  refine (ht.finP hn' _ hf).mono ?_
                  rintro e w' ⟨b, s2, rfl, ht2, f, hr⟩
                  obtain ⟨c1, c2, c3⟩ := rfin_count hf hr
                  cases b
                  · have := c3 rfl
                    omega
                  · have hd := (c2 rfl).1
                    exact ⟨rfl, s2, ht2, hd, (done_left (rfin_fine hn' hf hr).1 hd).2⟩
                have HEND : Hid (∀ wx s2, Twin W ll wd q L s2 SS wx → s2.done ll = true → s2.pending = [] → (wx.cell? ⟨wd, 1, none⟩ = some (.pointer (some ⟨L.rp, 0, none⟩)) ∧ Calls Try.prog 23 #[.pointer (some ⟨L.rp, 0, none⟩)] wx fun e w' => e = .returned (.bool true) ∧ Twin W ll wd q L s2 SS w' ∧ w'.cell? ⟨wd, 1, none⟩ = some (.pointer (some ⟨L.rp, 0, none⟩)) ∧ Hid (Calls Try.prog 45 #[.pointer (some ⟨L.rp, 0, none⟩)] w' fun e w2 => (∃ pp cc, e = .returned (.slice pp 0 cc)) ∧ Hid (Below W.heap.size W w2)))) := by
                  intro wx s2 ht hd hp
                  refine ⟨ht.cell1.2, (ht.doneP hn').mono ?_⟩
                  rintro e w' ⟨rfl, hb⟩
                  have ht' := ht.bl hb
                  refine ⟨by rw [hd], ht', ht'.cell1.2, (ht'.pendP hn').mono ?_⟩
                  rintro e w2 ⟨v, rfl, hv, hb2⟩
                  obtain ⟨pp, cc, rfl, _⟩ := hv
                  rw [hp]
                  exact ⟨⟨pp, cc, rfl⟩, ht'.bel.trans (hb2.mono ht'.bel.size)⟩
                have hn1 : SS.left ll ≤ 1048576 := hlk
                have d1 := HT.out.cell1.2
                by_cases h0 : SS.left ll = 0
                · have HC := Lib.hid (HLAST.out _ SS HT.out HFI.out (Nat.le_refl _))
                  rw [h0] at HC ⊢
                  clear HLAST HT hlk
                  go_wp2_with fail
                  refine HC.out.mono ?_
                  rintro e w7 ⟨rfl, s2, ht7, hd7, hp7⟩
                  obtain ⟨d2, hc7⟩ := HEND.out _ s2 ht7 hd7 hp7
                  have HC7 := Lib.hid hc7
                  clear ht7 hd7 hp7 hc7 HC
                  go_wp2_with fail
                  refine HC7.out.mono ?_
                  rintro e w8 ⟨rfl, ht8, d8, HC8⟩
                  clear ht8 HC7
                  go_wp2_with fail
                  refine HC8.out.mono ?_
                  rintro e w9 ⟨⟨pp, cc, rfl⟩, HB9⟩
                  go_wp2_with fail
                  go_ret
                  exact ⟨rfl, HB9.out⟩
                · have hpos : decide ((0 : Int) < ((SS.left ll : Nat) : Int)) = true := by simp; omega
                  have hpos2 : decide (0 < SS.left ll) = true := by simp; omega
                  have hpos3 : 0 < SS.left ll := by omega
                  have hF1 := HT.out.finP hn' (((SS.left ll : Nat) : Int) - 1) HFI.out
                  have HF1 : Hid (Calls Try.prog 20 #[.pointer (some ⟨L.rp, 0, none⟩), .int .i64 (((SS.left ll : Nat) : Int) - 1)] wr fun e w' => e = .returned (.bool false) ∧ ∃ s1, Twin W ll wd q L s1 SS w' ∧ s1.Fine ll ∧ s1.left ll ≤ SS.left ll) := by
                    refine hF1.mono ?_
                    rintro e w' ⟨b, s1, rfl, ht1, f, hr⟩
                    obtain ⟨c1, c2, c3⟩ := rfin_count HFI.out hr
                    cases b
                    · exact ⟨rfl, s1, ht1, rfin_fine hn' HFI.out hr, c1⟩
                    · have := (c2 rfl).2
                      omega
                  clear hF1 HT hlk
                  generalize SS.left ll = nl at *
                  go_wp2_with fail
                  refine HF1.out.mono ?_
                  rintro e w6 ⟨rfl, s1, ht6, hf6, hl6⟩
                  have HC := Lib.hid (HLAST.out _ s1 ht6 hf6 hl6)
                  have d1 := ht6.cell1.2
                  clear HLAST ht6 hf6 hl6 HF1
                  go_wp2_with fail
                  refine HC.out.mono ?_
                  rintro e w7 ⟨rfl, s2, ht7, hd7, hp7⟩
                  obtain ⟨d2, hc7⟩ := HEND.out _ s2 ht7 hd7 hp7
                  have HC7 := Lib.hid hc7
                  clear ht7 hd7 hp7 hc7 HC
                  go_wp2_with fail
                  refine HC7.out.mono ?_
                  rintro e w8 ⟨rfl, ht8, d8, HC8⟩
                  clear ht8 HC7
                  go_wp2_with fail
                  refine HC8.out.mono ?_
                  rintro e w9 ⟨⟨pp, cc, rfl⟩, HB9⟩
                  go_wp2_with fail
                  go_ret
                  exact ⟨rfl, HB9.out⟩
end
end Go.Proofs.Ytkaplifhaafpdaa

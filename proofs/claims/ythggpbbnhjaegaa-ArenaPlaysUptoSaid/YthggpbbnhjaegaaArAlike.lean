/-
  shutterlaw03.alike: a memory and the document's of one kind tell the same. No condition.
-/
import Derived.Test.YthggpbbnhjaegaaArPHand
import Derived.Test.YthggpbbnhjaegaaRTr
import Derived.Deep.Cut
import Derived.Deep.DeepCutAuto
import Derived.Deep.CutBlock
namespace Go.Proofs.Ythggpbbnhjaegaa
open Go Go.RowKit
set_option linter.unusedSimpArgs false
set_option linter.unusedVariables false
section
variable {w w' w0 : World} {F G S : Nat → Prop} {pv rv vv av : Value} {e : En} {bm q r v : Nat} {A : Mem} {th made : Int} {vs : List Int}
/-- what the law reads of the document's memory -/
def DFields (w : World) (rv : Value) (e : En) (tv : Value) : Prop :=
  (rv = .pointer none ∧ e.cells = 0 ∧ e.live = false ∧ tv = .slice none 0 0 ∧ e.trace = []) ∨
  ∃ rm p c, rv = .pointer (some ⟨rm, 0, none⟩) ∧ w.cell? ⟨rm, 0, none⟩ = some (.slice p e.cells c) ∧ w.cell? ⟨rm, 2, none⟩ = some tv ∧ w.cell? ⟨rm, 3, none⟩ = some (.bool e.live)
theorem DV.fields (h : DV w F rv e) : ∃ p c, DFields w rv e (.slice p e.trace.length c) ∧ TL w (.slice p e.trace.length c) e.trace := by
  match e, h with
  | none, h =>
    obtain rfl : rv = .pointer none := h
    exact ⟨none, 0, .inl ⟨rfl, rfl, rfl, rfl, rfl⟩, TL.nil w⟩
  | some (l, A), ⟨rm, he, r, tv, rows, hx⟩ =>
    subst he
    have hl := hx.len
    obtain ⟨p, c, rfl⟩ := r_form hx.own
    refine ⟨p, c, .inr ⟨rm, _, _, rfl, hx.bM.cell 0, ?_, hx.bM.cell 3⟩, ?_⟩
    · show w.cell? ⟨rm, 2, none⟩ = some (.slice p A.trace.length c)
      rw [← hl]; exact hx.bM.cell 2
    · exact TL_of hx.fst hx.own fun x h2 => VR_of (hx.vals x h2)
theorem TL.below {u : Value} {tr : List Acc} (h : TL w u tr) (hb : Below w.heap.size w w') : TL w' u tr := by
  obtain ⟨p, c, e, rows, hf, ht, hv⟩ := h
  refine ⟨p, c, e, rows, hf, ?_, fun x hx => (hv x hx).below hb⟩
  rcases ht with ht | ⟨g, e, hl, hc⟩
  · exact .inl ht
  · exact .inr ⟨g, e, Nat.lt_of_lt_of_le hl hb.size, fun i x hx j u hu => (hb.cell (p := ⟨g, _, none⟩) hl).trans (hc i x hx j u hu)⟩
theorem TL.form {u : Value} {tr : List Acc} (h : TL w u tr) : ∃ p c, u = .slice p tr.length c := by
  obtain ⟨p, c, e, _⟩ := h
  exact ⟨p, c, e⟩
theorem PV.drawn (h : PV w F pv e) (d : Nat) : PV (w.drewN d) F pv e := h.fr ((Fr.refl (fun _ => False) w).drawn d) (fun _ _ e => e)
theorem DV.drawn (h : DV w F rv e) (d : Nat) : DV (w.drewN d) F rv e := h.fr ((Fr.refl (fun _ => False) w).drawn d) (fun _ _ e => e)
theorem TL.drawn {u : Value} {tr : List Acc} (h : TL w u tr) (d : Nat) : TL (w.drewN d) u tr := h.below (bdn (Below.refl _ w) (Nat.le_refl _) d)
theorem En.Ok.tr (h : e.Ok) : e.trace.length ≤ 1000000000 ∧ ∀ x ∈ e.trace, x.vals.length ≤ 1000000000 := by
  match e, h with
  | none, _ => exact ⟨by simp [En.trace], fun x hx => by simp [En.trace] at hx⟩
  | some (l, A), h => exact ⟨h.1.t, h.2.2.2.2⟩
set_option maxHeartbeats 4000000 in
set_option maxRecDepth 100000 in
theorem Alike_any (h : PV w F pv e) (hd : DV w G rv e) (ok : e.Ok) (x : Int) (h0 : 0 ≤ x) :
    Calls Try.prog 11 #[pv, rv, .int .u64 x] w fun a w' => a = .returned (.bool true) ∧ Below w.heap.size w w' := by
  obtain ⟨tp, tc, hD, hT⟩ := hd.fields
  have HP := Lib.hid h
  have HD := Lib.hid hd
  have OK := Lib.hid ok
  have HT := Lib.hid hT
  have HF := Lib.hid hD
  clear h hd ok hT hD
  go_enter Try.func11, Try.ntmps11
  go_upto_region 2 with fail
  go_cut [12] (fun s12 wx => w = wx ∧ ∃ b, s12 = .bool b ∧ (b = true ↔ rv ≠ .pointer none))
  case first =>
    rcases HF.out with ⟨rfl, _⟩ | ⟨rm, p, c, rfl, _⟩
    · go_wp2_with fail
      go_meet
      exact ⟨rfl, false, rfl, by simp⟩
    · go_wp2_with fail
      go_meet
      exact ⟨rfl, true, rfl, by simp⟩
  obtain ⟨hw1, b, hb1, hbv⟩ := hcut
  subst hw1 hb1
  go_upto_if 12 with fail
  go_cut [7, 8] (fun s7 s8 wx => s7 = .int .i64 e.cells ∧ s8 = .bool e.live ∧ ∃ d, w.drewN d = wx)
  case first =>
    rcases HF.out with ⟨rfl, h1, h2, h3, h4⟩ | ⟨rm, p, c, rfl, c0, c2, c3⟩
    · have hb : b = false := by cases b with
        | false => rfl
        | true => exact absurd rfl (hbv.1 rfl)
      subst hb
      go_wp2_with fail
      go_meet
      exact ⟨by rw [h1]; rfl, by rw [h2], 0, rfl⟩
    · have hb : b = true := hbv.2 (fun e => by cases e)
      subst hb
      clear hbv HD HF HP HT OK
      generalize e.cells = ec at *
      generalize e.live = el at *
      clear c2
      go_wp2
      go_quiet (fail)
      all_goals
        go_wp2_with fail
        go_meet
        exact ⟨rfl, rfl, nq, rfl⟩
  case rest =>
    obtain ⟨h7, h8, d, hwd⟩ := hcut
    subst h7 h8 hwd
    have HP2 := Lib.hid (HP.out.fr ((Fr.refl (fun _ => False) w).drawn d) (fun _ _ e => e))
    have HD2 := Lib.hid (HD.out.fr ((Fr.refl (fun _ => False) w).drawn d) (fun _ _ e => e))
    have HT2 := Lib.hid (HT.out.below (bdn (Below.refl _ w) (Nat.le_refl _) d))
    have HB := Lib.hid (bdn (Below.refl w.heap.size w) (Nat.le_refl _) d)
    have HF2 : Hid (DFields (w.drewN d) rv e (.slice tp e.trace.length tc)) := HF.out
    clear HP HD HT HF
    generalize w.drewN d = wd at *
    go_wp2_with fail
    go_loop [9] (fun i => ∃ k : Nat, i = .int .u64 k ∧ k ≤ 40) (fun i => 40 - (intOf i).toNat)
    case atStart => exact ⟨0, rfl, by omega⟩
    case round =>
      obtain ⟨k, rfl, hk⟩ := hrel
      by_cases hlt : k < 40
      · have HK1 := Lib.hid (HP2.out.peek OK.out (k : Int) (by omega))
        have HK2 := Lib.hid (HD2.out.peek OK.out (k : Int) (by omega))
        generalize e.peek (k : Int) = y at *
        go_wp2_with fail
        refine HK1.out.mono ?_
        rintro a w5 ⟨rfl, rfl⟩
        go_wp2_with fail
        refine HK2.out.mono ?_
        rintro a w5 ⟨rfl, rfl⟩
        go_wp2_with fail
        go_round
        case rel => exact ⟨k + 1, by go_num, by omega⟩
        case measure => simp [intOf]; omega
      · obtain rfl : k = 40 := by omega
        have HM := Lib.hid (HP2.out.made OK.out)
        have HC := Lib.hid (HP2.out.cells OK.out)
        have HL := Lib.hid HP2.out.live
        go_upto_region 10 with fail
        go_cut [34] (fun s34 wx => wd = wx ∧ ∃ b, s34 = .bool b ∧ (b = true ↔ rv ≠ .pointer none))
        case first =>
          rcases HF2.out with ⟨rfl, -, -, -, -⟩ | ⟨rm, p, c, rfl, -, -, -⟩
          · go_wp2_with fail
            go_meet
            exact ⟨rfl, false, rfl, by simp⟩
          · go_wp2_with fail
            go_meet
            exact ⟨rfl, true, rfl, by simp⟩
        obtain ⟨hw1, b, hb1, hbv⟩ := hcut
        subst hw1 hb1
        go_upto_if 34 with fail
        go_cut [10] (fun s10 wx => s10 = .slice tp e.trace.length tc ∧ wd = wx)
        case first =>
          rcases HF2.out with ⟨rfl, -, -, h3, -⟩ | ⟨rm, p, c, rfl, c0, c2, c3⟩
          · have hb : b = false := by cases b with
              | false => rfl
              | true => exact absurd rfl (hbv.1 rfl)
            subst hb
            have H3 := Lib.hid h3.symm
            clear h3
            go_wp2_with fail
            go_meet
            exact ⟨H3.out, rfl⟩
          · have hb : b = true := hbv.2 (fun e => by cases e)
            subst hb
            clear hbv HD2 HF2 HP2 HT2 OK HM HC HL
            generalize e.cells = ec at *
            generalize e.live = el at *
            go_wp2_with fail
            go_meet
            exact ⟨rfl, rfl⟩
        case rest =>
          obtain ⟨h10, hwd⟩ := hcut
          subst h10 hwd
          clear HF2 hbv
          generalize hec : e.cells = ec at *
          generalize hel : e.live = el at *
          have htl : (e.trace.length : Nat) ≤ 1000000000 := OK.out.tr.1
          go_wp2_with fail
          refine HM.out.mono ?_
          rintro a w5 ⟨rfl, rfl⟩
          clear HM
          go_wp2_with fail
          refine HC.out.mono ?_
          rintro a w5 ⟨rfl, rfl⟩
          clear HC
          go_wp2_with fail
          refine HL.out.mono ?_
          rintro a w5 ⟨rfl, rfl⟩
          clear HL
          have HF1 := Lib.hid (HP2.out.left OK.out)
          go_wp2_with fail
          refine HF1.out.mono ?_
          rintro a w5 ⟨rfl, d1, rfl⟩
          clear HF1
          have HF1 := Lib.hid ((HD2.out.drawn d1).left OK.out)
          have HB2 := Lib.hid (HB.out.trans ((bdn (Below.refl _ wd) (Nat.le_refl _) d1).mono HB.out.size))
          have HP3 := Lib.hid (HP2.out.drawn d1)
          have HD3 := Lib.hid (HD2.out.drawn d1)
          have HT3 := Lib.hid (HT2.out.drawn d1)
          clear HP2 HD2 HT2 HB
          generalize wd.drewN d1 = wd at *
          go_wp2_with fail
          refine HF1.out.mono ?_
          rintro a w5 ⟨rfl, d1, rfl⟩
          clear HF1
          have HB := Lib.hid (HB2.out.trans ((bdn (Below.refl _ wd) (Nat.le_refl _) d1).mono HB2.out.size))
          have HP2 := Lib.hid (HP3.out.drawn d1)
          have HD2 := Lib.hid (HD3.out.drawn d1)
          have HT2 := Lib.hid (HT3.out.drawn d1)
          clear HP3 HD3 HT3 HB2
          generalize wd.drewN d1 = wd at *
          have HK1 := Lib.hid (HP2.out.peek OK.out x h0)
          have HK2 := Lib.hid (HD2.out.peek OK.out x h0)
          generalize e.peek x = y at *
          go_wp2_with fail
          refine HK1.out.mono ?_
          rintro a w5 ⟨rfl, rfl⟩
          go_wp2_with fail
          refine HK2.out.mono ?_
          rintro a w5 ⟨rfl, rfl⟩
          clear HK1 HK2
          have HK1 := Lib.hid (HP2.out.trace OK.out)
          go_wp2_with fail
          refine HK1.out.mono ?_
          rintro a w5 ⟨u, rfl, htu, hb5⟩
          have HK2 := Lib.hid (SameTrace_yes htu (HT2.out.below hb5) OK.out.tr.1 OK.out.tr.2)
          have HB2 := Lib.hid (HB.out.trans (hb5.mono HB.out.size))
          clear htu hb5 HK1 HT2 HP2 HD2 HB OK
          go_wp2_with fail
          refine HK2.out.mono ?_
          rintro a w6 ⟨rfl, hb6⟩
          have HB := Lib.hid (HB2.out.trans (hb6.mono HB2.out.size))
          clear HK2 HB2 hb6
          go_wp2
          go_ret
          exact ⟨rfl, HB.out⟩
end
end Go.Proofs.Ythggpbbnhjaegaa

/-
  StepApart: threads that use cells of their own leave the same, and are told the same, by any picks. No condition.
-/
import Derived.Test.YtkaplifhaafpdaaMApTail
import Derived.Deep.CutBlock
namespace Go.Proofs.Ytkaplifhaafpdaa
open Go Go.RowKit
set_option linter.unusedSimpArgs false
set_option linter.unusedVariables false
section
variable {W w : World} {ll : List (List Plan)}
set_option maxHeartbeats 4000000 in
set_option maxRecDepth 100000 in
theorem StepApart_any {tv : Value} {ps qs : List Int} {p1 p2 : Option Addr} {c1 c2 : Nat} (hp : PlansAt W tv ll) (hw : plansWt ll ≤ 1048576) (hf : ∀ l ∈ ll, ∀ y ∈ l, ∀ d ∈ y.l, d.fits) (ha : Reads W (.slice p1 ps.length c1) (is64 ps)) (hna : ps.length ≤ 1048576) (hb : Reads W (.slice p2 qs.length c2) (is64 qs)) (hnb : qs.length ≤ 1048576) :
    Calls Try.prog 6 #[tv, .slice p1 ps.length c1, .slice p2 qs.length c2] W fun e w' => e = .returned (.bool true) ∧ Below W.heap.size W w' := by
  have HL : Hid (ll.length ≤ 1048576 ∧ ∀ l ∈ ll, l.length ≤ 1048576) := plans_len hw
  have HP := Lib.hid hp
  have HRA := Lib.hid ha
  have HRB := Lib.hid hb
  have HF := Lib.hid hf
  have HW := Lib.hid hw
  have hp' := hp
  obtain ⟨tp, tc, rfl, _⟩ := hp'
  have HXL : Hid (∀ l ∈ ll, ∀ x ∈ l, x.l.length ≤ 1048576) := fun l hl x hx => by
    have h1 : planWt l ≤ _ := wt_mem planWt ll l hl
    have h2 : x.wt ≤ _ := wt_mem Plan.wt l x hx
    have h3 := wt_len (fun d : Do => 1 + d.vals.length) (fun d => by omega) x.l
    have e0 : plansWt ll = 1 + (ll.map planWt).sum := rfl
    have e1 : planWt l = 1 + (l.map Plan.wt).sum := rfl
    have e2 : x.wt = 1 + (x.l.map fun d => 1 + d.vals.length).sum := rfl
    omega
  clear hp ha hb hw hf
  go_enter Try.func6, Try.ntmps6
  go_wp2_with fail
  refine (live_any _).mono ?_
  rintro e w0 ⟨rfl, hbl⟩
  have HBL := Lib.hid hbl
  clear hbl
  have hll := HL.out.1
  go_upto_block 0 with fail
  go_cut [7, 8, 9, 10, 11, 12, 13] (fun s7 _ _ _ _ _ _ wx => ∃ (n : Nat) (op : Option Addr) (oc : Nat), s7 = .slice op n oc ∧ Hid (∃ LL : List (List Plan), LL.length = n ∧ Below W.heap.size W wx ∧ PlansAt wx (.slice op n oc) LL ∧ Apart LL ∧ plansWt LL ≤ 1048576 ∧ ∀ l ∈ LL, ∀ y ∈ l, ∀ d ∈ y.l, d.fits))
  case first =>
    go_wp2_with fail
    go_loopw [7, 8, 9, 10, 11, 12, 13] (fun s7 s8 _ _ _ _ _ wx => ∃ (i : Nat) (op : Option Addr) (oc : Nat), s8 = .int .i64 i ∧ i ≤ 10 ∧ i ≤ ll.length ∧ s7 = .slice op i oc ∧ Hid (Below w0.heap.size w0 wx ∧ AllOf W wx w0.heap.size (.slice op i oc) (ownN ll i))) (fun _ s8 _ _ _ _ _ _ => 10 - (intOf s8).toNat)
    case atStart => exact ⟨0, none, 0, rfl, by omega, by omega, rfl, Below.refl _ _, AllOf.nil⟩
    case round =>
      obtain ⟨i, op, oc, rfl, hi, hi2, rfl, HI⟩ := hrel
      by_cases hex : i < ll.length ∧ i < 10
      · obtain ⟨hlt, hl10⟩ := hex
        have t1 : decide ((i : Int) < (ll.length : Int)) = true := by simp; omega
        have t2 : decide ((i : Int) < 10) = true := by simp; omega
        obtain ⟨l, hl⟩ : ∃ l, ll[i]? = some l := ⟨_, List.getElem?_eq_getElem hlt⟩
        obtain ⟨tp', tc', eq, _, hpl⟩ := HP.out
        injection eq with eq1 _ eq3
        subst eq1 eq3
        obtain ⟨b, o, v, rfl, hbl, hbc, hpa⟩ := hpl i l hl
        obtain ⟨lp, lc, rfl, _, hpx⟩ := hpa
        have HC1 : Hid (∀ wx, Below W.heap.size W wx → wx.cell? ⟨b, o + i, none⟩ = some (.slice lp l.length lc)) := fun wx hx => (hx.cell (p := ⟨b, o + i, none⟩) hbl).trans hbc
        have HPX := Lib.hid hpx
        have hlen := HL.out.2 l (List.mem_of_getElem? hl)
        have HXX := Lib.hid (HXL.out l (List.mem_of_getElem? hl))
        have HFF := Lib.hid (HF.out l (List.mem_of_getElem? hl))
        have HGL : Hid (ll.getD i [] = l) := by show _ = _; rw [List.getD_eq_getElem?_getD, hl]; rfl
        have i0 : (0 : Int) ≤ (i : Int) := by omega
        have i1 : (i : Int) < (ll.length : Int) := by omega
        clear hpl hbc hpx hl
        obtain ⟨wi, rfl⟩ : ∃ wi : World, wi = wr := ⟨_, rfl⟩
        have HBW : Hid (Below W.heap.size W wi) := HBL.out.trans (HI.out.1.mono HBL.out.size)
        go_wp2_with fail
        go_loopw [9, 10, 11, 12, 13] (fun s9 s10 _ _ _ wx => ∃ (k : Nat) (rp : Option Addr) (rc : Nat), s10 = .int .i64 k ∧ k ≤ l.length ∧ s9 = .slice rp k rc ∧ Hid (Below wi.heap.size wi wx ∧ PlansOf W wx wi.heap.size (.slice rp k rc) ((l.take k).map (Plan.own i)))) (fun _ s10 _ _ _ _ => l.length - (intOf s10).toNat)
        case atStart => exact ⟨0, none, 0, rfl, Nat.zero_le _, rfl, Below.refl _ _, PlansOf.nil⟩
        case round =>
          obtain ⟨k, rp, rc, rfl, hk, rfl, HJ⟩ := hrel
          have hbx : Below W.heap.size W wr := HBW.out.trans (HJ.out.1.mono HBW.out.size)
          have c1 := HC1.out wr hbx
          by_cases hlk : k < l.length
          · obtain ⟨x, hx⟩ : ∃ x, l[k]? = some x := ⟨_, List.getElem?_eq_getElem hlk⟩
            obtain ⟨b2, o2, u2, rfl, hb2, d0, d1, hd⟩ := HPX.out k x hx
            obtain ⟨dp, dc, rfl, hdn, hdd⟩ := hd
            have e0 : wr.cell? ⟨b2, o2 + k * 2, none⟩ = some (.bool x.none) := (hbx.cell (p := ⟨b2, _, none⟩) hb2).trans d0
            have HE1 : Hid (∀ wx, Below W.heap.size W wx → wx.cell? ⟨b2, o2 + k * 2 + 1, none⟩ = some (.slice dp x.l.length dc)) := fun wx hx => (hx.cell (p := ⟨b2, _, none⟩) hb2).trans d1
            have HDD := Lib.hid hdd
            have HXL2 := HXX.out x (List.mem_of_getElem? hx)
            have HFF2 := Lib.hid (HFF.out x (List.mem_of_getElem? hx))
            have HX := Lib.hid hx
            have t3 : decide ((k : Int) < (l.length : Int)) = true := by simp; omega
            have k0 : (0 : Int) ≤ (k : Int) := by omega
            have k1 : (k : Int) < (l.length : Int) := by omega
            clear d0 d1 hdd hx
            obtain ⟨wk, rfl⟩ : ∃ wk : World, wk = wr := ⟨_, rfl⟩
            have HBK : Hid (Below W.heap.size W wk) := hbx
            clear hbx
            go_wp2_with fail
            have hbp : wk.heap.size < (wk.alloc (.cells #[.bool x.none, .slice none 0 0] 59)).heap.size := by simp
            go_loopw [12, 13] (fun s12 _ wx => ∃ (a : Nat) (pp : Option Addr) (pc : Nat), s12 = .int .i64 a ∧ a ≤ x.l.length ∧ Hid (Below wk.heap.size wk wx ∧ Blk wx wk.heap.size 59 #[.bool x.none, .slice pp a pc] ∧ DosOf W wx (wk.heap.size + 1) (.slice pp a pc) ((x.l.take a).map (Do.own i)))) (fun s12 _ _ => x.l.length - (intOf s12).toNat)
            case atStart => exact ⟨0, none, 0, rfl, Nat.zero_le _, (Below.refl _ _).alloc (Nat.le_refl _) _, Blk.made _ _ _, DosOf.nil⟩
            case round =>
              clear c1 e0 hbp
              obtain ⟨a, pp, pc, rfl, ha, HQ⟩ := hrel
              have hbx : Below W.heap.size W wr := HBK.out.trans (HQ.out.1.mono HBK.out.size)
              have c1 := HC1.out wr hbx
              have e1 := HE1.out wr hbx
              by_cases hax : a < x.l.length
              · have t4 : decide ((a : Int) < (x.l.length : Int)) = true := by simp; omega
                obtain ⟨d, hd⟩ : ∃ d, x.l[a]? = some d := ⟨_, List.getElem?_eq_getElem hax⟩
                have HFD := Lib.hid (HFF2.out d (List.mem_of_getElem? hd))
                obtain ⟨b3, o3, ap, ac, rfl, hda, hva, hnil⟩ := HDD.out a d hd
                have q0 : wr.cell? ⟨b3, o3 + a * 5, none⟩ = some (.int .u8 d.kind) := (hbx.cell (p := ⟨b3, _, none⟩) hda.lt).trans hda.qk
                have q1 : wr.cell? ⟨b3, o3 + a * 5 + 1, none⟩ = some (.int .u64 d.addr) := (hbx.cell (p := ⟨b3, _, none⟩) hda.lt).trans hda.qx
                have q2 : wr.cell? ⟨b3, o3 + a * 5 + 2, none⟩ = some (.int .u64 d.a) := (hbx.cell (p := ⟨b3, _, none⟩) hda.lt).trans hda.qa
                have q3 : wr.cell? ⟨b3, o3 + a * 5 + 3, none⟩ = some (.int .u64 d.b) := (hbx.cell (p := ⟨b3, _, none⟩) hda.lt).trans hda.qb
                have q4 : wr.cell? ⟨b3, o3 + a * 5 + 4, none⟩ = some (.slice ap d.vals.length ac) := (hbx.cell (p := ⟨b3, _, none⟩) hda.lt).trans hda.qv
                have a0 : (0 : Int) ≤ (a : Int) := by omega
                have a1 : (a : Int) < (x.l.length : Int) := by omega
                have HVA := Lib.hid hva
                have HNIL := Lib.hid hnil
                have HD := Lib.hid hd
                clear hd hda hva hnil
                have w1 : wrap64 (10 * (i : Int)) = 10 * (i : Int) := by unfold wrap64; omega
                have w2 : wrap64 (60 + 10 * (i : Int)) = 60 + 10 * (i : Int) := by unfold wrap64; omega
                have w3 : IntKind.u64.wrap (60 + 10 * (i : Int)) = 60 + 10 * (i : Int) := IntWalk.u64_in _ ⟨by omega, by omega⟩
                obtain ⟨na, hna⟩ : ∃ na, na = (Do.own i d).addr := ⟨_, rfl⟩
                have w4 : IntKind.u64.wrap (60 + 10 * (i : Int) + d.addr.tmod 10) = na := by
                  have h0 : 0 ≤ d.addr := HFD.out.2
                  have e : d.addr.tmod 10 = d.addr % 10 := Int.tmod_eq_emod_of_nonneg h0
                  rw [hna, e]
                  exact IntWalk.u64_in _ ⟨by omega, by omega⟩
                obtain ⟨rows, hrr, hrm⟩ := HQ.out.2.2
                have hrl : rows.length = a := by
                  have h := congrArg List.length hrm
                  simp at h
                  omega
                subst hrl
                have HOW : Hid (∀ o1 o2, ((wr.alloc o1).alloc o2).ownsRow (wk.heap.size + 1) 63 5 (.slice pp rows.length pc) rows.length (rows.flatMap doC)) := fun o1 o2 => own_fr hrr.own (((Fr.refl (fun _ => False) _).alloc o1).alloc o2) (fun _ _ e => e)
                have HB := Lib.hid HQ.out.2.1
                have cP : ∀ o, (wr.alloc o).cell? ⟨wk.heap.size, 1, none⟩ = some (.slice pp rows.length pc) := fun o => (HB.out.alloc o).cell 1
                have hn9 : rows.length ≤ 1000000000 := by omega
                have hsz : wk.heap.size + 1 ≤ wr.heap.size := HB.out.lt
                have hsz2 : ∀ o, wk.heap.size + 1 ≤ (wr.alloc o).heap.size := fun o => by simp; omega
                have HSZ := Lib.hid hsz2
                have HRR := Lib.hid hrr
                have HRM : Hid (rows.map (·.1) ++ [Do.own i d] = (x.l.take (rows.length + 1)).map (Do.own i)) := by
                  show _ = _
                  rw [hrm, List.take_add_one, HD.out]
                  simp
                have HNA : Hid (∀ nk, nk = (Do.own i d).kind → Do.own i d = ⟨nk, na, d.a, d.b, d.vals⟩) := fun nk e => by rw [e, hna]; rfl
                have HOA : Hid (0 < 1) := by show 0 < 1; omega
                clear hrr hrm hsz2 hna hsz
                by_cases h5 : d.kind = 5
                · have g5 : (d.kind == 5) = true := by simpa using h5
                  have HOWN := Lib.hid (HNA.out 4 (by simp [Do.own, h5]))
                  clear h5
                  go_wp2_with (at_builtin; refine app_n infoDo5 Try.underlying57 rfl (by decide) (by decide) rfl _ _ rfl rfl (HOW.out _ _) rfl (by simp) rfl (by simp [Value.oneCell']) hn9 (HSZ.out _) ?_; intro v5 w5 ho5 hg5; obtain ⟨⟨c5, f5⟩, h6⟩ := dos_next HQ.out.1 HB.out HRR.out (d := ⟨4, na, d.a, d.b, d.vals⟩) ho5 hg5 HVA.out HNIL.out; have HN6 := Lib.hid h6; obtain ⟨vp, vc, e5⟩ := bk_form ho5; subst e5; clear ho5 hg5 h6)
                  go_round
                  case rel => exact ⟨rows.length + 1, vp, vc, by go_num, by omega, HN6.out.1, HN6.out.2.1, ⟨_, HN6.out.2.2, by rw [List.map_append]; show rows.map (·.1) ++ [_] = _; rw [← HOWN.out]; exact HRM.out⟩⟩
                  case measure => simp [intOf]; omega
                · have g5 : (d.kind == 5) = false := by simpa using h5
                  have HOWN := Lib.hid (HNA.out d.kind (by simp [Do.own, h5]))
                  clear h5
                  go_wp2_with (at_builtin; refine app_n infoDo5 Try.underlying57 rfl (by decide) (by decide) rfl _ _ rfl rfl (HOW.out _ _) rfl (by simp) rfl (by simp [Value.oneCell']) hn9 (HSZ.out _) ?_; intro v5 w5 ho5 hg5; obtain ⟨⟨c5, f5⟩, h6⟩ := dos_next HQ.out.1 HB.out HRR.out (d := ⟨d.kind, na, d.a, d.b, d.vals⟩) ho5 hg5 HVA.out HNIL.out; have HN6 := Lib.hid h6; obtain ⟨vp, vc, e5⟩ := bk_form ho5; subst e5; clear ho5 hg5 h6)
                  go_round
                  case rel => exact ⟨rows.length + 1, vp, vc, by go_num, by omega, HN6.out.1, HN6.out.2.1, ⟨_, HN6.out.2.2, by rw [List.map_append]; show rows.map (·.1) ++ [_] = _; rw [← HOWN.out]; exact HRM.out⟩⟩
                  case measure => simp [intOf]; omega
              · obtain rfl : a = x.l.length := by omega
                have t4 : decide ((x.l.length : Int) < (x.l.length : Int)) = false := by simp
                have cP0 := HQ.out.2.1.cell 0
                have cP1 := HQ.out.2.1.cell 1
                have cP0 : wr.cell? ⟨wk.heap.size, 0, none⟩ = some (.bool x.none) := cP0
                have cP1 : wr.cell? ⟨wk.heap.size, 1, none⟩ = some (.slice pp x.l.length pc) := cP1
                obtain ⟨prow, hpr, hpm⟩ := HJ.out.2.bl HQ.out.1
                have hpl : prow.length = k := by
                  have h := congrArg List.length hpm
                  simp at h
                  omega
                subst hpl
                have HOW : Hid (∀ o1, (wr.alloc o1).ownsRow wi.heap.size 59 2 (.slice rp prow.length rc) prow.length (prow.flatMap planC)) := fun o1 => own_fr hpr.own ((Fr.refl (fun _ => False) _).alloc o1) (fun _ _ e => e)
                have hs1 := HJ.out.1.size
                have hs2 := HQ.out.1.size
                have hsz : wi.heap.size ≤ wr.heap.size := Nat.le_trans hs1 hs2
                have hn9 : prow.length ≤ 1000000000 := by omega
                have HD2 : Hid (DosOf W wr wi.heap.size (.slice pp x.l.length pc) (x.own i).l) := by
                  have h := HQ.out.2.2
                  rw [List.take_length] at h
                  exact h.low (by omega)
                have HPM : Hid (prow.map (·.1) ++ [x.own i] = (l.take (prow.length + 1)).map (Plan.own i)) := by
                  show _ = _
                  rw [hpm, List.take_add_one, HX.out]
                  simp
                have HPR := Lib.hid hpr
                have HBI : Hid (Below wi.heap.size wi wr) := HJ.out.1.trans (HQ.out.1.mono hs1)
                clear hpr hpm hs1 hs2 hbx
                go_wp2_with (at_builtin; refine app_n infoPlan2 Try.underlying56 rfl (by decide) (by decide) rfl _ _ rfl rfl (HOW.out _) rfl rfl rfl (by simp [Value.oneCell']) hn9 hsz ?_; intro v5 w5 ho5 hg5; have HN6 := Lib.hid (And.intro (grow_bel HBI.out hsz (fun g e => own_ge HPR.out.own e) hg5) (HPR.out.push (p := x.own i) ho5 hg5 HD2.out)); obtain ⟨vp, vc, e5⟩ := bk_form ho5; subst e5; clear ho5 hg5)
                go_round
                case rel => exact ⟨prow.length + 1, vp, vc, by go_num, by omega, rfl, HN6.out.1, by rw [← HPM.out]; exact HN6.out.2⟩
                case measure => simp [intOf]; omega
          · obtain rfl : k = l.length := by omega
            have t3 : decide ((l.length : Int) < (l.length : Int)) = false := by simp
            obtain ⟨lrow, hlr, hlm⟩ := HI.out.2.bl HJ.out.1
            have hpl : lrow.length = i := by
              have h := congrArg List.length hlm
              rw [List.length_map, ownN_len] at h
              exact h
            subst hpl
            have HOW : Hid (∀ o1, (wr.alloc o1).ownsRow w0.heap.size 56 1 (.slice op lrow.length oc) lrow.length (lrow.map (·.2))) := fun o1 => own_fr hlr.own ((Fr.refl (fun _ => False) _).alloc o1) (fun _ _ e => e)
            have hs1 := HI.out.1.size
            have hs2 := HJ.out.1.size
            have hsz : w0.heap.size ≤ wr.heap.size := Nat.le_trans hs1 hs2
            have hn9 : lrow.length ≤ 1000000000 := by omega
            have HD2 : Hid (PlansOf W wr w0.heap.size (.slice rp l.length rc) ((ll.getD lrow.length []).map (Plan.own lrow.length))) := by
              have h := HJ.out.2
              rw [List.take_length] at h
              rw [HGL.out]
              exact h.low hs1
            have HPM : Hid (lrow.map (·.1) ++ [(ll.getD lrow.length []).map (Plan.own lrow.length)] = ownN ll (lrow.length + 1)) := by
              show _ = _
              rw [hlm, ownN_succ]
            have HPR := Lib.hid hlr
            have HBI : Hid (Below w0.heap.size w0 wr) := HI.out.1.trans (HJ.out.1.mono hs1)
            clear hlr hlm hs1 hs2 hbx
            go_wp2_with (at_builtin; refine app_n infoPls Try.underlying45 rfl (by decide) (by decide) rfl _ _ rfl rfl (HOW.out _) rfl rfl rfl (by simp [Value.oneCell']) hn9 hsz ?_; intro v5 w5 ho5 hg5; have HN6 := Lib.hid (And.intro (grow_bel HBI.out hsz (fun g e => own_ge HPR.out.own e) hg5) (HPR.out.push ho5 hg5 HD2.out)); obtain ⟨vp, vc, e5⟩ := bk_form ho5; subst e5; clear ho5 hg5)
            go_round
            case rel => exact ⟨lrow.length + 1, vp, vc, by go_num, by omega, by omega, rfl, HN6.out.1, by rw [← HPM.out]; exact HN6.out.2⟩
            case measure => simp [intOf]; omega
      · have HBW : Hid (Below W.heap.size W wr) := HBL.out.trans (HI.out.1.mono HBL.out.size)
        have hnl : (ownN ll i).length = i := ownN_len ll i
        have HEND : Hid (∃ LL : List (List Plan), LL.length = i ∧ Below W.heap.size W wr ∧ PlansAt wr (.slice op i oc) LL ∧ Apart LL ∧ plansWt LL ≤ 1048576 ∧ ∀ l ∈ LL, ∀ y ∈ l, ∀ d ∈ y.l, d.fits) := ⟨ownN ll i, hnl, HBW.out, HI.out.2.at HBW.out, ownN_apart hi, ownN_wt_le hi2 HW.out, ownN_fits HF.out⟩
        clear hnl
        by_cases hlt : i < ll.length
        · obtain rfl : i = 10 := by omega
          have t1 : decide (((10 : Nat) : Int) < (ll.length : Int)) = true := by simp; omega
          go_wp2_with fail
          go_meet
          exact ⟨10, op, oc, rfl, HEND⟩
        · obtain rfl : i = ll.length := by omega
          have t1 : decide ((ll.length : Int) < (ll.length : Int)) = false := by simp
          go_wp2_with fail
          go_meet
          exact ⟨ll.length, op, oc, rfl, HEND⟩
  case rest =>
    obtain ⟨n, op, oc, rfl, HE⟩ := hcut
    obtain ⟨LL, rfl, h1, h2, h3, h4, h5⟩ := HE.out
    rename_i aK
    refine aK _ _ ?_
    exact ApTail _ rfl (Lib.hid h1) (Lib.hid h2) (Lib.hid h3) (Lib.hid h4) (Lib.hid h5) (Lib.hid (HRA.out.below h1)) (Lib.hid (HRB.out.below h1)) hna hnb _ _ _ _ _ _ _ _ _ _ _ _ _ _ _ _ _ _ _ _ _ _ _ _ _ _ _ _ _ _ _ _ _ _ _ _ _ _ _ _ _ _ _ _ _ _ _ _ _ _ _ _ _ _ _ _ _ _ _ _ _ _ _ _ _ _ _ _ _ _ _ _ _ _ _ _ _ _ _ _ _ _ _ _ _ _ _ _ _ _ _ _ _ _ _ _ _ _ _ _ _ _ _ _ _ _ _ _ _ _ _ _ _ _ _ _ _ _ _ _ _ _ _ _ _ _ _ _ _ _ _ _ _ _ _ _ _ _ _ _ _ _ _ _ _ _ _ _ _ _ _ _ _ _ _ _ _ _ _ _ _ _ _ _ _ _ _ _ _ _ _ _ _ _ _ _ _ _ _ _ _ _ _ _ _ _ _ _ _ _ _ _ _ _ _ _ _ _ _ _ _ _ _ _ _ _ _ _ _ _ _ _ _ _ _ _ _ _ _ _
end
end Go.Proofs.Ytkaplifhaafpdaa

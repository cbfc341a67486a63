/-
  StAlike, StNone, StCom: the texts of the proof, merged. No condition.
-/
import Derived.Test.YtkaplifhaafpdaaM34
import Derived.Test.YtkaplifhaafpdaaM24
section
/-
  alike: both tell the same. No condition.
-/
namespace Go.Proofs.Ytkaplifhaafpdaa
open Go Go.RowKit
set_option linter.unusedSimpArgs false
set_option linter.unusedVariables false
section
variable {W w w' w1 : World} {ll : List (List Plan)} {wd q : Nat} {L : Lay} {s : St} {U U' S : Nat → Prop}
theorem TL.below {v : Value} {tr : List Acc} (h : TL w v tr) (hb : Below w.heap.size w w') : TL w' v tr := by
  obtain ⟨p, c, e, rows, h1, h2, h3⟩ := h
  refine ⟨p, c, e, rows, h1, ?_, fun x hx => (h3 x hx).below hb⟩
  rcases h2 with h2 | ⟨g, e1, hl, h2⟩
  · exact .inl h2
  · exact .inr ⟨g, e1, Nat.lt_of_lt_of_le hl hb.size, fun i x hx j u hu => (hb.cell (p := ⟨g, _, none⟩) hl).trans (h2 i x hx j u hu)⟩
theorem bdr {B : Nat} (h : Below B w w') (hB : B ≤ w'.heap.size) (n : Nat) : Below B w (w'.drewN n) := h.trans (((Fr.refl (fun _ => False) w').drawn n).to_below hB (fun _ _ e => e))
theorem btr {B : Nat} (h : Below B w w') (hB : B ≤ w'.heap.size) (k : Below w'.heap.size w' w1) : Below B w w1 := h.trans (k.mono hB)
theorem GV.below {v : Value} {l : List Int} (h : GV w v l) (hb : Below w.heap.size w w') : GV w' v l := by
  obtain ⟨ao, c, h1, h2, h3⟩ := h
  exact ⟨ao, c, h1, h2, fun ad e => ⟨Nat.lt_of_lt_of_le (h3 ad e).1 hb.size, fun j u hu => (hb.cell (by have := (h3 ad e).1; unfold Addr.add; split <;> exact this)).trans ((h3 ad e).2 j u hu)⟩⟩
theorem app_u64 {ops : Array Oper} {rest : List Oper} {o : Oper} {a : Act} {Q : Exit → Act → World → Prop} (w : World) (hg : o.guard = none) (s x : Operand)
    (hop : o.op = Op.call { callee := Callee.builtin Builtin.append, args := #[s, x], argTypes := #[61, 61] }) (base : Nat) (v : Value) (l y : List Int) (hs : a.eval s = v) (hown : w.ownsRow base 22 1 v l.length (us l)) (v2 : Value) (hx : a.eval x = v2) (hgv : GV w v2 y)
    (hm : l.length + y.length ≤ 1000000000) (hb : base ≤ w.heap.size)
    (hK : ∀ up uc w', w'.ownsRow base 22 1 (.slice up (l ++ y).length uc) (l ++ y).length (us (l ++ y)) → w.grownBy w' v.ownBlock → wpList Try.prog ops Q rest (a.put o.dst (.slice up (l ++ y).length uc)) w') : wpList Try.prog ops Q (o :: rest) a w := by
  obtain ⟨i0, hi, hz0, hz1, hz2⟩ := info_parts infoU
  obtain ⟨ao, c, rfl, hnone, hc⟩ := hgv
  have hus : us (l ++ y) = us l ++ us y := by simp [us]
  cases ao with
  | some ad =>
    refine wpList_append_own w hg s x 61 hop base 22 i0 _ 1 8 Try.underlying61 hi hz0 hz1 hz2 rfl (by decide) _ l.length (us l) hs hown ad y.length c (us y) hx (by simp [us]) (hc ad rfl).2 (by intro u hu; obtain ⟨z, _, rfl⟩ := List.mem_map.1 hu; rfl) (by unfold maxLen; omega) (by omega) hb ?_
    intro v' w' h1 h2 _
    rw [← hus, ← List.length_append] at h1
    obtain ⟨up, uc, rfl⟩ := r_form h1
    exact hK up uc w' h1 h2
  | none =>
    obtain ⟨h0, rfl⟩ := hnone rfl
    obtain rfl := List.length_eq_zero_iff.1 h0
    refine wpList_plain hg fun K hK' => ?_
    obtain ⟨up, uc, rfl⟩ := r_form hown
    have hrun := run_append_owned_none (P := Try.prog) w base 61 o.type 22 i0 1 Try.underlying61 hi _ l.length (us l) hown
    unfold Oper.wp
    simp [execOp, hop, resolve, invoke, builtin, hs, hx, hrun, Result.andThen]
    have h1 := hK' _ _ (hK up uc w (by simpa using hown) ⟨rfl, rfl, rfl, Nat.le_refl _, fun _ _ _ => rfl⟩)
    have h2 : K (a.put o.dst (.slice up l.length uc)) w := by simpa using h1
    exact h2
/-- what a round of the loop reads, in every world behind w -/
def Round (w : World) (g1 g i : Nat) (l : List Int) : Prop := ∃ (got : List (List Int)) (pr : Option Addr) (cr : Nat) (v : Value), got.flatten = l ∧ got.length ≤ 4096 ∧
  Hid (∀ wx, Below w.heap.size w wx → (wx.cell? ⟨g1, i, none⟩ = some (.slice pr got.length cr) ∧ wx.cell? ⟨g, i, none⟩ = some v ∧ VR wx v l)) ∧
  Hid (∀ (k : Nat) y, got[k]? = some y → ∃ g2 pb v, pr = some ⟨g2, 0, none⟩ ∧ ∀ wx, Below w.heap.size w wx → (wx.cell? ⟨g2, k, none⟩ = some (.pointer (some ⟨pb, 0, none⟩)) ∧ wx.cell? ⟨pb, 2, none⟩ = some v ∧ GV wx v y))
theorem Duo.rounds (h : Duo W ll wd q L s s w U) (hn : Fits ll) (hnil : s.NilOK ll) : ∃ pm cm g c, Hid (∀ wx, Below w.heap.size w wx → (wx.cell? ⟨wd, 2, none⟩ = some (.slice pm ll.length cm) ∧ wx.cell? ⟨q, 7, none⟩ = some (.slice (some ⟨g, 0, none⟩) ll.length c))) ∧
    Hid (∀ (i : Nat) x, s.th[i]? = some x → ∃ g1, pm = some ⟨g1, 0, none⟩ ∧ Round w g1 g i x.got.flatten) := by
  obtain ⟨pm, cm, a1, a2⟩ := h.gots hnil
  obtain ⟨g, c, b1, b2⟩ := h.rgots
  have tr : ∀ {a : Addr} {v : Value} {wx : World}, w.cell? a = some v → Below w.heap.size w wx → wx.cell? a = some v := fun ha hb => (hb.cell (sargs.cell_form ha).2).trans ha
  refine ⟨pm, cm, g, c, fun wx hx => ⟨tr a1 hx, tr b1 hx⟩, fun i x hxi => ?_⟩
  obtain ⟨g1, la, pr, cr, c1, c2, c3, c4⟩ := a2 i x hxi
  obtain ⟨v, d1, d2⟩ := b2 i x hxi
  refine ⟨g1, c1, tellings la x.got, pr, cr, v, c3, ?_, fun wx hx => ⟨tr c2 hx, tr d1 hx, d2.below hx⟩, fun k y hk => ?_⟩
  · obtain ⟨l, hl⟩ : ∃ l, ll[i]? = some l := ⟨_, List.getElem?_eq_getElem (by rw [← h.oks.2.1.tl]; exact (List.getElem?_eq_some_iff.1 hxi).1)⟩
    have h1 := (h.oks.2.1.th i x l hxi hl).gl
    have h2 := hn.l l (List.mem_of_getElem? hl)
    have h3 : (tellings la x.got).length ≤ (la.zip x.got).length := List.length_filterMap_le _ _
    rw [List.length_zip] at h3
    omega
  obtain ⟨g2, pb, v, e1, e2, e3, e4⟩ := c4 k y hk
  exact ⟨g2, pb, v, e1, fun wx hx => ⟨tr e2 hx, tr e3 hx, e4.below hx⟩⟩
set_option maxHeartbeats 4000000 in
set_option maxRecDepth 100000 in
theorem alike_any (h : Duo W ll wd q L s s w U) (hn : Fits ll) (hs : s.steps ≤ 40000000) (ht : s.TrOK) (hnil : s.NilOK ll) : Calls Try.prog 27 #[.pointer (some ⟨wd, 0, none⟩), .pointer (some ⟨q, 0, none⟩)] w fun e w' => e = .returned (.bool true) ∧ Below w.heap.size w w' := by
  obtain ⟨Z, mv, ms, hb, hmv, hrow, hZ, hZm⟩ := h.wx
  obtain ⟨rm, tv, hq0, hrm, htl⟩ := h.RTrace
  have HD : Hid (∀ wx, Below w.heap.size w wx → Duo W ll wd q L s s wx U) := fun wx hx => h.bl hx
  have d0 : w.cell? ⟨wd, 0, none⟩ = some (.pointer (some ⟨L.bm, 0, none⟩)) := hb.cell 0
  have d1 : w.cell? ⟨wd, 1, none⟩ = some (.pointer (some ⟨L.rp, 0, none⟩)) := hb.cell 1
  have htl0 := htl
  obtain ⟨tp, tc, etv, htr⟩ := htl0
  subst etv
  have HTL := Lib.hid htl
  have hlt : wd < w.heap.size ∧ q < w.heap.size ∧ rm < w.heap.size := by
    refine ⟨hb.lt, ?_, ?_⟩
    · exact (sargs.cell_form hq0).2
    · exact (sargs.cell_form hrm).2
  have HS : Hid (∀ wx, Below w.heap.size w wx → (wx.cell? ⟨wd, 0, none⟩ = some (.pointer (some ⟨L.bm, 0, none⟩)) ∧ wx.cell? ⟨wd, 1, none⟩ = some (.pointer (some ⟨L.rp, 0, none⟩)) ∧ wx.cell? ⟨q, 0, none⟩ = some (.pointer (some ⟨rm, 0, none⟩)) ∧ wx.cell? ⟨rm, 2, none⟩ = some (.slice tp s.A.trace.length tc))) := fun wx hx => ⟨(hx.cell (p := ⟨wd, 0, none⟩) hlt.1).trans d0, (hx.cell (p := ⟨wd, 1, none⟩) hlt.1).trans d1, (hx.cell (p := ⟨q, 0, none⟩) hlt.2.1).trans hq0, (hx.cell (p := ⟨rm, 2, none⟩) hlt.2.2).trans hrm⟩
  have HC43 := Lib.hid (h.Events (by omega))
  have HOK := Lib.hid h.oks
  obtain ⟨pm, cm, gg, gc, HCELL, HROUND⟩ := h.rounds hn hnil
  have hll1 : ll.length ≤ 64 := hn.n
  have hthl : s.th.length = ll.length := h.oks.2.1.tl
  have HGL : Hid (∀ (i : Nat) x, s.th[i]? = some x → x.got.flatten.length ≤ 40000000) := fun i x hx => by have := h.oks.2.1.gt i x hx; omega
  clear h hb hrow htr hlt hmv htl
  go_enter Try.func27, Try.ntmps27
  go_wp2_with fail
  refine HC43.out.mono ?_
  rintro e w2 ⟨ve, rfl, hve, hb2⟩
  have HRE := Lib.hid (fun wx hx => (HD.out wx hx).REvents)
  have HST := Lib.hid (fun wx hx => (HD.out wx hx).Steps)
  have HRS := Lib.hid (fun wx hx => (HD.out wx hx).RSteps)
  have HAT := Lib.hid (fun wx hx => (HD.out wx hx).At (by omega))
  have HRA := Lib.hid (fun wx hx => (HD.out wx hx).RAt)
  have HPE := Lib.hid (fun wx hx => (HD.out wx hx).Pending hn)
  have HRP := Lib.hid (fun wx hx => (HD.out wx hx).RPending hn)
  have HDN := Lib.hid (fun wx hx => (HD.out wx hx).Done hn)
  have HRD := Lib.hid (fun wx hx => (HD.out wx hx).RDone hn)
  have HTR := Lib.hid (fun wx hx => (HD.out wx hx).Trace (by omega) ht)
  obtain ⟨vep, vec, hvf⟩ : ∃ p c, ve = .slice p s.evs.length c := by obtain ⟨p, c, e, _⟩ := hve; exact ⟨p, c, e⟩
  subst hvf
  have HVE := Lib.hid hve
  clear hve HC43
  have hb2d : Below w.heap.size w w2.drew := hb2.drew
  have hbs : Below w2.heap.size w2 w2.drew := ((Fr.refl (fun _ => False) w2).drawn 1).below (fun _ _ e => e)
  have hel : s.evs.length ≤ 1000000000 := by have := HOK.out.2.1.el; omega
  have hwl : s.wh.length ≤ 1000000000 := by have := HOK.out.2.1.wl; have := HOK.out.2.1.tr; omega
  have hpl : s.pending.length ≤ 1000000000 := by have := pend_len 0 s.th; have := HOK.out.2.1.tl; have := hn.n; unfold St.pending; omega
  have htl1 : s.A.trace.length ≤ 1000000000 := by have := HOK.out.2.1.tr; omega
  have htv1 : ∀ x ∈ s.A.trace, x.vals.length ≤ 1000000000 := fun x hx => by have := ht x hx; omega
  go_upto_region 2 with fail
  go_cut [76] (fun s76 wx => s76 = .bool false ∧ Hid (Below w.heap.size w wx))
  case first =>
    -- [[
    go_region_held3 (fun wx => wx.cell? ⟨wd, 0, none⟩ = some (.pointer (some ⟨L.bm, 0, none⟩)) ∧ wx.cell? ⟨wd, 1, none⟩ = some (.pointer (some ⟨L.rp, 0, none⟩)) ∧ wx.cell? ⟨q, 0, none⟩ = some (.pointer (some ⟨rm, 0, none⟩)) ∧ wx.cell? ⟨rm, 2, none⟩ = some (.slice tp s.A.trace.length tc))
      (exact HS.out _ (by assumption))
      (first
        | ((with_reducible refine (HRE.out _ (by assumption)).mono ?_); rintro e w3 ⟨v3, rfl, hv3, rfl⟩)
        | ((with_reducible refine (SameE_yes (HVE.out.below (by assumption)) hv3 (by assumption)).mono ?_); rintro e w4 ⟨rfl, n4, hw4⟩; have hb4 : Below w.heap.size w w4 := (by rw [hw4]; exact bdr hb2d (hb2d.size) n4); clear hw4)
        | ((with_reducible refine (HST.out _ (by assumption)).mono ?_); rintro e w5 ⟨rfl, rfl⟩)
        | ((with_reducible refine (HRS.out _ (by assumption)).mono ?_); rintro e w6 ⟨rfl, rfl⟩)
        | ((with_reducible refine (HAT.out _ (by assumption)).mono ?_); rintro e w7 ⟨v7, rfl, hv7, hb7'⟩; have hb7 : Below w.heap.size w w7 := btr (by assumption) (Below.size (by assumption)) hb7')
        | ((with_reducible refine (HRA.out _ (by assumption)).mono ?_); rintro e w8 ⟨v8, rfl, hv8, rfl⟩)
        | ((with_reducible refine (SameI_yes hv7 hv8 (by assumption)).mono ?_); rintro e w9 ⟨rfl, n9, hw9⟩; have hb9 : Below w.heap.size w w9 := (by rw [hw9]; exact bdr (by assumption) (Below.size (by assumption)) n9); clear hw9)
        | ((with_reducible refine (SameI_yes hv7 (hv8.below (by assumption)) (by assumption)).mono ?_); rintro e w9 ⟨rfl, n9, hw9⟩; have hb9 : Below w.heap.size w w9 := (by rw [hw9]; exact bdr (by assumption) (Below.size (by assumption)) n9); clear hw9)
        | ((with_reducible refine (HPE.out _ (by assumption)).mono ?_); rintro e wa ⟨va, rfl, hva, hba'⟩; have hba : Below w.heap.size w wa := btr (by assumption) (Below.size (by assumption)) hba')
        | ((with_reducible refine (HRP.out _ (by assumption)).mono ?_); rintro e wb ⟨vb, rfl, hvb, hbb'⟩; have hbb : Below w.heap.size w wb := btr (by assumption) (Below.size (by assumption)) hbb')
        | ((with_reducible refine (SameI_yes hva (hvb.below (by assumption)) (by assumption)).mono ?_); rintro e wc ⟨rfl, nc, hwc⟩; have hbc : Below w.heap.size w wc := (by rw [hwc]; exact bdr (by assumption) (Below.size (by assumption)) nc); clear hwc)
        | ((with_reducible refine (SameI_yes (hva.below (by assumption)) hvb (by assumption)).mono ?_); rintro e wc ⟨rfl, nc, hwc⟩; have hbc : Below w.heap.size w wc := (by rw [hwc]; exact bdr (by assumption) (Below.size (by assumption)) nc); clear hwc)
        | ((with_reducible refine (HDN.out _ (by assumption)).mono ?_); rintro e wd1 ⟨rfl, hbd'⟩; have hbd : Below w.heap.size w wd1 := btr (by assumption) (Below.size (by assumption)) hbd')
        | ((with_reducible refine (HRD.out _ (by assumption)).mono ?_); rintro e we ⟨rfl, hbe'⟩; have hbe : Below w.heap.size w we := btr (by assumption) (Below.size (by assumption)) hbe')
        | ((with_reducible refine (HTR.out _ (by assumption)).mono ?_); rintro e wf ⟨vf, rfl, hvf, hbf'⟩; have hbf : Below w.heap.size w wf := btr (by assumption) (Below.size (by assumption)) hbf')
        | ((with_reducible refine (SameAccesses_yes hvf (HTL.out.below (by assumption)) (by assumption) (by assumption)).mono ?_); rintro e wg ⟨rfl, ng, hwg⟩; have hbg : Below w.heap.size w wg := (by rw [hwg]; exact bdr (by assumption) (Below.size (by assumption)) ng); clear hwg))
    all_goals
      go_wp2_with fail
      go_meet
      exact ⟨rfl, Lib.hid (by assumption)⟩
    -- ]]
  case rest =>
    clear HRE HST HRS HAT HRA HPE HRP HDN HRD HTR HVE HTL HS HD HOK
    obtain ⟨rfl, hwx⟩ := hcut
    go_wp2
    go_loopw [6] (fun i6 wr => ∃ i : Nat, i6 = .int .i64 i ∧ i ≤ ll.length ∧ Hid (Below w.heap.size w wr)) (fun i6 _ => ll.length - (intOf i6).toNat)
    case atStart => exact ⟨0, rfl, Nat.zero_le _, hwx⟩
    case round =>
      clear hwx
      obtain ⟨i, rfl, hi, hB⟩ := hrel
      obtain ⟨c1, c2⟩ := HCELL.out wr hB.out
      by_cases hlt : i < ll.length
      · obtain ⟨x, hx⟩ : ∃ x, s.th[i]? = some x := ⟨_, List.getElem?_eq_getElem (by omega)⟩
        obtain ⟨g1, rfl, got, pr, cr, v, hf, hg96, HR, HK⟩ := HROUND.out i x hx
        have hgl := HGL.out i x hx
        generalize x.got.flatten = fl at *
        subst hf
        clear hx
        go_wp2
        go_loopw [8, 7] (fun i8 i7 wr2 => ∃ k : Nat, i8 = .int .i64 k ∧ k ≤ got.length ∧ Hid (Below w.heap.size w wr2) ∧ ∃ p c, i7 = .slice p (got.take k).flatten.length c ∧ Hid (wr2.ownsRow w.heap.size 22 1 (.slice p (got.take k).flatten.length c) (got.take k).flatten.length (us (got.take k).flatten))) (fun i8 _ _ => got.length - (intOf i8).toNat)
        case atStart => exact ⟨0, rfl, Nat.zero_le _, hB, none, 0, rfl, Lib.hid (World.ownsRow_nil _ _ _ _)⟩
        case round =>
          obtain ⟨k, rfl, hk, hB2, p, c, rfl, HO⟩ := hrel
          obtain ⟨d1, d2⟩ := HCELL.out wr hB2.out
          obtain ⟨e1, e2, _⟩ := HR.out wr hB2.out
          by_cases hlk : k < got.length
          · obtain ⟨y, hy⟩ : ∃ y, got[k]? = some y := ⟨_, List.getElem?_eq_getElem hlk⟩
            obtain ⟨g2, pb, gv, rfl, hh⟩ := HK.out k y hy
            obtain ⟨f1, f2, hgv⟩ := hh wr hB2.out
            have HGV := Lib.hid hgv
            have hbs := hB2.out.size
            have hlen : (got.take k).flatten.length + y.length ≤ 1000000000 := by
              have h1 : (got.take (k + 1)).flatten.length = (got.take k).flatten.length + y.length := by rw [List.take_add_one, hy]; simp
              have h2 : got.flatten.length = (got.take (k + 1)).flatten.length + (got.drop (k + 1)).flatten.length := by rw [← List.length_append, ← List.flatten_append, List.take_append_drop]
              omega
            have htk : (got.take (k + 1)).flatten = (got.take k).flatten ++ y := by rw [List.take_add_one, hy]; simp
            have HTK := Lib.hid htk
            have hgd : wr.grownBy = wr.grownBy := rfl
            clear hgv hh htk hgd
            generalize (got.take k).flatten = pre at *
            go_wp2_with (at_builtin; refine app_u64 _ rfl _ _ rfl w.heap.size _ pre y rfl HO.out _ rfl HGV.out (by omega) (by omega) ?_; intro up uc w5 hown5 hgrow5)
            go_roundw
            case rel =>
              refine ⟨k + 1, by go_num, by omega, Lib.hid (hB2.out.grown hgrow5 hbs ?_), up, uc, by rw [HTK.out, List.length_append], by rw [HTK.out]; exact Lib.hid hown5⟩
              exact fun k hk => (HO.out.lt k hk).1
            case measure => simp [intOf]; omega
          · have hke : k = got.length := by omega
            subst hke
            rw [List.take_length] at HO ⊢
            obtain ⟨_, e2, e3⟩ := HR.out wr hB2.out
            have HV := Lib.hid e3
            have HU : Hid (VR wr (.slice p got.flatten.length c) got.flatten) := Lib.hid (VR.own HO.out)
            have hgl2 : got.flatten.length ≤ 1000000000 := by omega
            clear HO e3 HK
            generalize got.flatten = fl at *
            go_wp2_with fail
            refine (SameU_yes HU.out HV.out hgl2).mono ?_
            rintro e w6 ⟨rfl, n6, rfl⟩
            have HB6 : Hid (Below w.heap.size w (wr.drewN n6)) := Lib.hid (bdr hB2.out hB2.out.size n6)
            go_wp2_with fail
            go_roundw
            case rel => exact ⟨i + 1, by go_num, by omega, HB6⟩
            case measure => simp [intOf]; omega
      · go_wp2
        go_ret
        exact ⟨rfl, hB.out⟩
end
end Go.Proofs.Ytkaplifhaafpdaa
end
section
/-
  StepNone: nil runners, procs and views. No condition.
-/
namespace Go.Proofs.Ytkaplifhaafpdaa
open Go Go.RowKit
set_option linter.unusedSimpArgs false
set_option linter.unusedVariables false
theorem reads_int {w : World} {p : Option Addr} {c : Nat} {vs : List Int} (h : Reads w (.slice p vs.length c) (is64 vs)) {k : Nat} (hk : k < vs.length) : ∃ b o x, p = some ⟨b, o, none⟩ ∧ w.cell? ⟨b, o + k, none⟩ = some (.int .i64 x) := by
  obtain ⟨p', c', e, -, hc⟩ := h
  injection e with e1 _ _
  subst e1
  obtain ⟨b, o, e, -, hx⟩ := hc k (.int .i64 vs[k]) (by simp [is64, hk])
  exact ⟨b, o, _, e, hx⟩
theorem Row_Step_nil (w : World) (v : Value) : Calls Try.prog 35 #[.pointer none, v] w fun e w' => e = .returned (.bool true) ∧ w = w' := by
  go_enter Try.func35, Try.ntmps35
  go_wp2
  go_ret
  exact ⟨rfl, rfl⟩
set_option maxRecDepth 100000 in
theorem Run_nil {w : World} {p : Option Addr} {c : Nat} {vs : List Int} (h : Reads w (.slice p vs.length c) (is64 vs)) (hn : vs.length ≤ 1000000000) : Calls Try.prog 28 #[.pointer none, .slice p vs.length c] w fun e w' => e = .returned (.tuple #[]) ∧ w = w' := by
  have H := Lib.hid h
  clear h
  go_enter Try.func28, Try.ntmps28
  go_wp2_with fail
  go_loopw [8] (fun i wr => ∃ k : Nat, i = .int .i64 k ∧ k ≤ vs.length ∧ wr = w) (fun i _ => vs.length - (intOf i).toNat)
  case atStart => exact ⟨0, rfl, Nat.zero_le _, rfl⟩
  case round =>
    obtain ⟨k, rfl, hk, rfl⟩ := hrel
    by_cases hlt : k < vs.length
    · obtain ⟨b, o, x, rfl, c1⟩ := reads_int H.out hlt
      go_wp2_with fail
      refine (Pick_nil _ _).mono ?_
      rintro e w2 ⟨rfl, rfl⟩
      go_wp2_with fail
      go_round
      case rel => exact ⟨k + 1, by go_num, by omega, trivial⟩
      case measure => simp [intOf]; omega
    · go_wp2
      go_end0
      exact ⟨rfl, rfl⟩
set_option maxRecDepth 100000 in
theorem Alone_nil (w : World) (v : Value) (most : Int) : Calls Try.prog 34 #[v, .nilIface, .int .i64 most] w fun e w' => e = .returned (.bool (decide (1 ≤ most))) ∧ w = w' := by
  by_cases hm : 1 ≤ most
  · have h0 : decide ((0 : Int) < most) = true := by simp; omega
    rw [decide_eq_true hm]
    go_enter Try.func34, Try.ntmps34
    go_wp2_with fail
    go_loopw [8] (fun i wr => i = .int .i64 0 ∧ wr = w) (fun i _ => 0)
    case atStart => exact ⟨rfl, rfl⟩
    case round =>
      obtain ⟨rfl, rfl⟩ := hrel
      go_wp2
      go_ret
      exact ⟨rfl, rfl⟩
  · have h0 : decide ((0 : Int) < most) = false := by simp; omega
    rw [decide_eq_false hm]
    go_enter Try.func34, Try.ntmps34
    go_wp2_with fail
    go_loopw [8] (fun i wr => i = .int .i64 0 ∧ wr = w) (fun i _ => 0)
    case atStart => exact ⟨rfl, rfl⟩
    case round =>
      obtain ⟨rfl, rfl⟩ := hrel
      go_wp2
      go_ret
      exact ⟨rfl, rfl⟩
set_option maxHeartbeats 2000000 in
set_option maxRecDepth 100000 in
theorem StepNone_any {w : World} {p : Option Addr} {c : Nat} {vs : List Int} (h : Reads w (.slice p vs.length c) (is64 vs)) (hn : vs.length ≤ 1000000000) (most a : Int) : Calls Try.prog 10 #[.slice p vs.length c, .int .i64 most, .int .u64 a] w fun e w' => e = .returned (.bool true) ∧ Below w.heap.size w w' := by
  have H := Lib.hid h
  clear h
  go_enter Try.func10, Try.ntmps10
  go_wp2_with fail
  refine (live_any w).mono ?_
  rintro e wl ⟨rfl, hbl⟩
  have HR : Hid (Reads wl (.slice p vs.length c) (is64 vs)) := H.out.below hbl
  have HBL := Lib.hid hbl
  clear hbl H
  go_wp2_with fail
  refine (Run_nil HR.out hn).mono ?_
  rintro e w1 ⟨rfl, rfl⟩
  go_wp2_with fail
  refine (Finish_nil _ _).mono ?_
  rintro e w1 ⟨rfl, rfl⟩
  go_wp2_with fail
  refine (Steps_nil _).mono ?_
  rintro e w1 ⟨rfl, rfl⟩
  go_wp2_with fail
  refine (Events_nil _).mono ?_
  rintro e w1 ⟨rfl, rfl⟩
  go_wp2_with fail
  refine (At_nil _).mono ?_
  rintro e w1 ⟨rfl, rfl⟩
  go_wp2_with fail
  refine (Pending_nil _).mono ?_
  rintro e w1 ⟨rfl, rfl⟩
  go_wp2_with fail
  refine (Done_nil _).mono ?_
  rintro e w1 ⟨rfl, rfl⟩
  go_wp2_with fail
  go_loopw [8] (fun i wr => ∃ k : Nat, i = .int .i64 k ∧ k ≤ vs.length ∧ wr = wl) (fun i _ => vs.length - (intOf i).toNat)
  case atStart => exact ⟨0, rfl, Nat.zero_le _, rfl⟩
  case round =>
    obtain ⟨k, rfl, hk, rfl⟩ := hrel
    by_cases hlt : k < vs.length
    · obtain ⟨b, o, x, rfl, c1⟩ := reads_int HR.out hlt
      go_wp2_with fail
      refine (Pick_nil _ _).mono ?_
      rintro e w2 ⟨rfl, rfl⟩
      go_wp2_with fail
      go_round
      case rel => exact ⟨k + 1, by go_num, by omega, trivial⟩
      case measure => simp [intOf]; omega
    · clear HR
      go_wp2_with fail
      refine (New_128 _).mono ?_
      rintro e w1 ⟨bm, rfl, hm, hb⟩
      have HB1 : Hid (Below w.heap.size w w1) := HBL.out.trans (hb.mono HBL.out.size)
      clear hm hb
      go_wp2_with fail
      refine (View_any w1 bm 0).mono ?_
      rintro e w2 ⟨rfl, hw2⟩
      have hv2 : VW w2 w1.heap.size bm 0 0 := by rw [hw2]; exact Blk.made w1 _ _
      have hb2 : Below w.heap.size w w2 := by rw [hw2]; exact HB1.out.alloc HB1.out.size _
      generalize w1.heap.size = v at *
      have H2 := Lib.hid (And.intro hv2 hb2)
      clear hw2 hv2 hb2 HB1
      go_wp2_with fail
      refine (NewLoad_any w2 a).mono ?_
      rintro e w3 ⟨rfl, hw3⟩
      have hl3 : LD w3 w2.heap.size a false 0 := by rw [hw3]; exact Blk.made w2 _ _
      have hv3 : VW w3 v bm 0 0 := by rw [hw3]; exact Blk.alloc H2.out.1 _
      have hb3 : Below w.heap.size w w3 := by rw [hw3]; exact H2.out.2.alloc H2.out.2.size _
      have hge : w.heap.size ≤ w2.heap.size := H2.out.2.size
      generalize w2.heap.size = pb at *
      have H3 := Lib.hid (And.intro hl3 (And.intro hv3 (And.intro hb3 hge)))
      have HA3 := Lib.hid (Accesses_any hv3)
      clear hw3 hl3 hv3 hb3 hge H2
      go_wp2_with fail
      refine (LStep_nil _ _).mono ?_
      rintro e w4 ⟨rfl, rfl⟩
      go_wp2_with fail
      refine (LValue_nil _).mono ?_
      rintro e w4 ⟨rfl, rfl⟩
      go_wp2_with fail
      refine (Row_Step_nil _ _).mono ?_
      rintro e w4 ⟨rfl, rfl⟩
      go_wp2_with fail
      refine HA3.out.mono ?_
      rintro e w4 ⟨rfl, rfl⟩
      clear HA3
      go_wp2_with fail
      refine (LStep_off H3.out.1).mono ?_
      rintro e w4 ⟨rfl, hl4, hf4⟩
      have hv4 : VW w4 v bm 0 0 := H3.out.2.1.fr hf4 (fun e => Blk.ne H3.out.1 (e ▸ H3.out.2.1) (by decide) rfl)
      have hb4 : Below w.heap.size w w4 := H3.out.2.2.1.trans (hf4.to_below H3.out.2.2.1.size (by intro k hk e; have := H3.out.2.2.2; omega))
      have HV := Lib.hid (LValue_any hl4)
      have HA := Lib.hid (Accesses_any hv4)
      have HE := Lib.hid hb4
      have hmost : ((decide (1 ≤ most)) == decide (1 ≤ most)) = true := by simp
      clear H3 hl4 hf4 hv4 hb4
      go_wp2_with fail
      refine HV.out.mono ?_
      rintro e w5 ⟨rfl, rfl⟩
      go_wp2_with fail
      refine (Alone_nil _ _ most).mono ?_
      rintro e w5 ⟨rfl, rfl⟩
      go_wp2_with fail
      refine HA.out.mono ?_
      rintro e w5 ⟨rfl, rfl⟩
      go_wp2_with fail
      go_ret
      exact ⟨by simp, HE.out⟩
end Go.Proofs.Ytkaplifhaafpdaa
end
section
/-
  Both runners at one state: what each law's walk takes along. No condition.
-/
namespace Go.Proofs.Ytkaplifhaafpdaa
open Go Go.RowKit
set_option linter.unusedSimpArgs false
set_option linter.unusedVariables false
theorem wt_len {α : Type} (f : α → Nat) (h : ∀ x, 1 ≤ f x) : ∀ (l : List α), l.length ≤ (l.map f).sum
  | [] => Nat.zero_le _
  | x :: l => by have := wt_len f h l; have := h x; simp only [List.map_cons, List.sum_cons, List.length_cons]; omega
theorem wt_mem {α : Type} (f : α → Nat) : ∀ (l : List α) x, x ∈ l → f x ≤ (l.map f).sum
  | [], x, h => by simp at h
  | y :: l, x, h => by
    simp only [List.map_cons, List.sum_cons]
    rcases List.mem_cons.1 h with e | e
    · subst e; omega
    · have := wt_mem f l x e; omega
theorem fits_of {ll : List (List Plan)} (h : tooMany ll = false) (hw : plansWt ll ≤ 1048576) (hf : ∀ l ∈ ll, ∀ y ∈ l, ∀ d ∈ y.l, d.fits) : Fits ll := by
  unfold tooMany at h
  rw [Bool.or_eq_false_iff] at h
  obtain ⟨h1, h2⟩ := h
  have h1 := of_decide_eq_false h1
  rw [List.any_eq_false] at h2
  refine ⟨by omega, fun l hl => ?_, fun l hl x hx => ?_⟩
  · have := h2 l hl
    simp at this
    exact this
  · have w1 : planWt l ≤ _ := wt_mem planWt ll l hl
    have w2 : x.wt ≤ _ := wt_mem Plan.wt l x hx
    have w3 := wt_len (fun d : Do => 1 + d.vals.length) (fun _ => by omega) x.l
    have e1 : plansWt ll = 1 + (ll.map planWt).sum := rfl
    have e2 : planWt l = 1 + (l.map Plan.wt).sum := rfl
    have e3 : x.wt = 1 + (x.l.map fun d => 1 + d.vals.length).sum := rfl
    refine ⟨by omega, fun d hd => ⟨hf l hl x hx d hd, ?_⟩⟩
    have w4 : 1 + d.vals.length ≤ _ := wt_mem (fun d : Do => 1 + d.vals.length) x.l d hd
    omega
theorem plans_len {ll : List (List Plan)} (hw : plansWt ll ≤ 1048576) : ll.length ≤ 1048576 ∧ ∀ l ∈ ll, l.length ≤ 1048576 := by
  have e1 : plansWt ll = 1 + (ll.map planWt).sum := rfl
  refine ⟨?_, fun l hl => ?_⟩
  · have := wt_len planWt (fun l => by unfold planWt; omega) ll
    omega
  · have w1 : planWt l ≤ _ := wt_mem planWt ll l hl
    have e2 : planWt l = 1 + (l.map Plan.wt).sum := rfl
    have := wt_len Plan.wt (fun l => by unfold Plan.wt; omega) l
    omega
/-- both, at a state each -/
def Twin (W : World) (ll : List (List Plan)) (wd q : Nat) (L : Lay) (s1 s2 : St) (w : World) : Prop := ∃ U, Duo W ll wd q L s1 s2 w U
/-- a state from which all may be asked -/
def St.Good (ll : List (List Plan)) (s : St) : Prop := s.TrOK ∧ s.NilOK ll
section
variable {W w w' w1 : World} {ll : List (List Plan)} {wd q : Nat} {L : Lay} {s s1 s2 : St}
theorem BothX.twin (h : BothX W w w' ll wd q s) (hW : W.heap.size ≤ w.heap.size) : ∃ L, Twin W ll wd q L s s w' ∧ Below w.heap.size w w' := by
  obtain ⟨L, U, _, hd, _, hb⟩ := h.duo hW
  exact ⟨L, ⟨U, hd⟩, hb⟩
theorem Twin.bl (h : Twin W ll wd q L s1 s2 w) (hb : Below w.heap.size w w') : Twin W ll wd q L s1 s2 w' := let ⟨U, h⟩ := h; ⟨U, h.bl hb⟩
theorem Twin.drew (h : Twin W ll wd q L s1 s2 w) : Twin W ll wd q L s1 s2 w.drew := let ⟨U, h⟩ := h; ⟨U, h.drawn 1⟩
theorem Twin.bel (h : Twin W ll wd q L s1 s2 w) : Below W.heap.size W w := let ⟨U, h⟩ := h; h.bel
theorem Twin.cell1 (h : Twin W ll wd q L s1 s2 w) : w.cell? ⟨wd, 0, none⟩ = some (.pointer (some ⟨L.bm, 0, none⟩)) ∧ w.cell? ⟨wd, 1, none⟩ = some (.pointer (some ⟨L.rp, 0, none⟩)) := by
  obtain ⟨U, h⟩ := h
  obtain ⟨Z, mv, ms, hb, _⟩ := h.wx
  exact ⟨hb.cell 0, hb.cell 1⟩
theorem Twin.pickP (h : Twin W ll wd q L s1 s2 w) (hn : Fits ll) (hs : s1.steps ≤ 40000000) (t : Int) : Calls Try.prog 25 #[.pointer (some ⟨L.rp, 0, none⟩), .int .i64 t] w fun e w' => e = .returned (.bool (!s1.idle ll t)) ∧ Twin W ll wd q L (s1.one ll t) s2 w' := by
  obtain ⟨U, h⟩ := h
  refine (h.pickP hn hs t).mono ?_
  rintro e w' ⟨rfl, U', h', _⟩
  exact ⟨rfl, U', h'⟩
theorem Twin.pickZ (h : Twin W ll wd q L s1 s2 w) (hn : Fits ll) (hs : s2.steps ≤ 40000000) (t : Int) : Calls Try.prog 26 #[.pointer (some ⟨q, 0, none⟩), .int .i64 t] w fun e w' => e = .returned (.bool (!s2.idle ll t)) ∧ Twin W ll wd q L s1 (s2.one ll t) w' := by
  obtain ⟨U, h⟩ := h
  refine (h.pickZ hn hs t).mono ?_
  rintro e w' ⟨rfl, U', h', _⟩
  exact ⟨rfl, U', h'⟩
theorem Twin.alike (h : Twin W ll wd q L s s w) (hn : Fits ll) (hs : s.steps ≤ 40000000) (hg : s.Good ll) : Calls Try.prog 27 #[.pointer (some ⟨wd, 0, none⟩), .pointer (some ⟨q, 0, none⟩)] w fun e w' => e = .returned (.bool true) ∧ Twin W ll wd q L s s w' := by
  obtain ⟨U, h⟩ := h
  refine (alike_any h hn hs hg.1 hg.2).mono ?_
  rintro e w' ⟨rfl, hb⟩
  exact ⟨rfl, U, h.bl hb⟩
theorem Twin.oks (h : Twin W ll wd q L s1 s2 w) : s1.Ok ll ∧ s2.Ok ll := let ⟨_, h⟩ := h; ⟨h.oks.2.1, h.oks.2.2⟩
theorem St.Good.one (h : s.Good ll) (hn : Fits ll) (ok : s.Ok ll) (t : Int) : (s.one ll t).Good ll := ⟨TrOK.one h.1 hn t, NilOK.one h.2 ok t⟩
theorem start_good (ll : List (List Plan)) : (St.start ll mem0).Good ll := ⟨start_tr ll, start_nil ll mem0⟩
end
end Go.Proofs.Ytkaplifhaafpdaa
end

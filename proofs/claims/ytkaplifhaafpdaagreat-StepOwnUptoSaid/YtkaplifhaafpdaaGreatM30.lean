/-
  alike: both tell the same. No condition.
-/
import Derived.Test.YtkaplifhaafpdaaGreatM29
namespace Go.Proofs.YtkaplifhaafpdaaGreat
open Go Go.RowKit
set_option linter.unusedSimpArgs false
set_option linter.unusedVariables false
section
variable {W w w' w1 : World} {ll : List (List Plan)} {wd q : Nat} {L : Lay} {s : St} {U U' S : Nat → Prop}
theorem TL.below {v : Value} {tr : List Acc} (h : TL w v tr) (hb : Below w.heap.size w w') : TL w' v tr := by
  obtain ⟨p, c, e, rows, h1, h2, h3⟩ := h
  refine ⟨p, c, e, rows, h1, ?_, fun x hx => (h3 x hx).below hb⟩
  rcases h2 with h2 | ⟨g, e1, hl, h2⟩
  · exact .inl h2
  · exact .inr ⟨g, e1, Nat.lt_of_lt_of_le hl hb.size, fun i x hx j u hu => (hb.cell (p := ⟨g, _, none⟩) hl).trans (h2 i x hx j u hu)⟩
theorem bdr {B : Nat} (h : Below B w w') (hB : B ≤ w'.heap.size) (n : Nat) : Below B w (w'.drewN n) := h.trans (((Fr.refl (fun _ => False) w').drawn n).to_below hB (fun _ _ e => e))
theorem btr {B : Nat} (h : Below B w w') (hB : B ≤ w'.heap.size) (k : Below w'.heap.size w' w1) : Below B w w1 := h.trans (k.mono hB)
theorem GV.below {v : Value} {l : List Int} (h : GV w v l) (hb : Below w.heap.size w w') : GV w' v l := by
  obtain ⟨ao, c, h1, h2, h3⟩ := h
  exact ⟨ao, c, h1, h2, fun ad e => ⟨Nat.lt_of_lt_of_le (h3 ad e).1 hb.size, fun j u hu => (hb.cell (by have := (h3 ad e).1; unfold Addr.add; split <;> exact this)).trans ((h3 ad e).2 j u hu)⟩⟩
theorem app_u64 {ops : Array Oper} {rest : List Oper} {o : Oper} {a : Act} {Q : Exit → Act → World → Prop} (w : World) (hg : o.guard = none) (s x : Operand)
    (hop : o.op = Op.call { callee := Callee.builtin Builtin.append, args := #[s, x], argTypes := #[107, 107] }) (base : Nat) (v : Value) (l y : List Int) (hs : a.eval s = v) (hown : w.ownsRow base 72 1 v l.length (us l)) (v2 : Value) (hx : a.eval x = v2) (hgv : GV w v2 y)
    (hm : l.length + y.length ≤ 1000000000) (hb : base ≤ w.heap.size)
    (hK : ∀ up uc w', w'.ownsRow base 72 1 (.slice up (l ++ y).length uc) (l ++ y).length (us (l ++ y)) → w.grownBy w' v.ownBlock → wpList Tryz.prog ops Q rest (a.put o.dst (.slice up (l ++ y).length uc)) w') : wpList Tryz.prog ops Q (o :: rest) a w := by
  obtain ⟨i0, hi, hz0, hz1, hz2⟩ := info_parts infoU
  obtain ⟨ao, c, rfl, hnone, hc⟩ := hgv
  have hus : us (l ++ y) = us l ++ us y := by simp [us]
  cases ao with
  | some ad =>
    refine wpList_append_own w hg s x 107 hop base 72 i0 _ 1 8 Tryz.underlying107 hi hz0 hz1 hz2 rfl (by decide) _ l.length (us l) hs hown ad y.length c (us y) hx (by simp [us]) (hc ad rfl).2 (by intro u hu; obtain ⟨z, _, rfl⟩ := List.mem_map.1 hu; rfl) (by unfold maxLen; omega) (by omega) hb ?_
    intro v' w' h1 h2 _
    rw [← hus, ← List.length_append] at h1
    obtain ⟨up, uc, rfl⟩ := r_form h1
    exact hK up uc w' h1 h2
  | none =>
    obtain ⟨h0, rfl⟩ := hnone rfl
    obtain rfl := List.length_eq_zero_iff.1 h0
    refine wpList_plain hg fun K hK' => ?_
    obtain ⟨up, uc, rfl⟩ := r_form hown
    have hrun := run_append_owned_none (P := Tryz.prog) w base 107 o.type 72 i0 1 Tryz.underlying107 hi _ l.length (us l) hown
    unfold Oper.wp
    simp [execOp, hop, resolve, invoke, builtin, hs, hx, hrun, Result.andThen]
    have h1 := hK' _ _ (hK up uc w (by simpa using hown) ⟨rfl, rfl, rfl, Nat.le_refl _, fun _ _ _ => rfl⟩)
    have h2 : K (a.put o.dst (.slice up l.length uc)) w := by simpa using h1
    exact h2
/-- what a round of the loop reads, in every world behind w -/
def Round (w : World) (g1 g i : Nat) (l : List Int) : Prop := ∃ (got : List (List Int)) (pr : Option Addr) (cr : Nat) (v : Value), got.flatten = l ∧ got.length ≤ 4096 ∧
  Hid (∀ wx, Below w.heap.size w wx → (wx.cell? ⟨g1, i, none⟩ = some (.slice pr got.length cr) ∧ wx.cell? ⟨g, i, none⟩ = some v ∧ VR wx v l)) ∧
  Hid (∀ (k : Nat) y, got[k]? = some y → ∃ g2 pb v, pr = some ⟨g2, 0, none⟩ ∧ ∀ wx, Below w.heap.size w wx → (wx.cell? ⟨g2, k, none⟩ = some (.pointer (some ⟨pb, 0, none⟩)) ∧ wx.cell? ⟨pb, 2, none⟩ = some v ∧ GV wx v y))
theorem Duo.rounds (h : Duo W ll wd q L s s w U) (hn : Fits ll) (hnil : s.NilOK ll) : ∃ pm cm g c, Hid (∀ wx, Below w.heap.size w wx → (wx.cell? ⟨wd, 2, none⟩ = some (.slice pm ll.length cm) ∧ wx.cell? ⟨q, 7, none⟩ = some (.slice (some ⟨g, 0, none⟩) ll.length c))) ∧
    Hid (∀ (i : Nat) x, s.th[i]? = some x → ∃ g1, pm = some ⟨g1, 0, none⟩ ∧ Round w g1 g i x.got.flatten) := by
  obtain ⟨pm, cm, a1, a2⟩ := h.gots hnil
  obtain ⟨g, c, b1, b2⟩ := h.rgots
  have tr : ∀ {a : Addr} {v : Value} {wx : World}, w.cell? a = some v → Below w.heap.size w wx → wx.cell? a = some v := fun ha hb => (hb.cell (sargs.cell_form ha).2).trans ha
  refine ⟨pm, cm, g, c, fun wx hx => ⟨tr a1 hx, tr b1 hx⟩, fun i x hxi => ?_⟩
  obtain ⟨g1, la, pr, cr, c1, c2, c3, c4⟩ := a2 i x hxi
  obtain ⟨v, d1, d2⟩ := b2 i x hxi
  refine ⟨g1, c1, tellings la x.got, pr, cr, v, c3, ?_, fun wx hx => ⟨tr c2 hx, tr d1 hx, d2.below hx⟩, fun k y hk => ?_⟩
  · obtain ⟨l, hl⟩ : ∃ l, ll[i]? = some l := ⟨_, List.getElem?_eq_getElem (by rw [← h.oks.2.1.tl]; exact (List.getElem?_eq_some_iff.1 hxi).1)⟩
    have h1 := (h.oks.2.1.th i x l hxi hl).gl
    have h2 := hn.l l (List.mem_of_getElem? hl)
    have h3 : (tellings la x.got).length ≤ (la.zip x.got).length := List.length_filterMap_le _ _
    rw [List.length_zip] at h3
    omega
  obtain ⟨g2, pb, v, e1, e2, e3, e4⟩ := c4 k y hk
  exact ⟨g2, pb, v, e1, fun wx hx => ⟨tr e2 hx, tr e3 hx, e4.below hx⟩⟩
set_option maxHeartbeats 4000000 in
set_option maxRecDepth 100000 in
theorem alike_any (h : Duo W ll wd q L s s w U) (hn : Fits ll) (hs : s.steps ≤ 40000000) (ht : s.TrOK) (hnil : s.NilOK ll) : Calls Tryz.prog 14 #[.pointer (some ⟨wd, 0, none⟩), .pointer (some ⟨q, 0, none⟩)] w fun e w' => e = .returned (.bool true) ∧ Below w.heap.size w w' := by
  obtain ⟨Z, mv, ms, hb, hmv, hrow, hZ, hZm⟩ := h.wx
  obtain ⟨rm, tv, hq0, hrm, htl⟩ := h.RTrace
  have HD : Hid (∀ wx, Below w.heap.size w wx → Duo W ll wd q L s s wx U) := fun wx hx => h.bl hx
  have d0 : w.cell? ⟨wd, 0, none⟩ = some (.pointer (some ⟨L.bm, 0, none⟩)) := hb.cell 0
  have d1 : w.cell? ⟨wd, 1, none⟩ = some (.pointer (some ⟨L.rp, 0, none⟩)) := hb.cell 1
  have htl0 := htl
  obtain ⟨tp, tc, etv, htr⟩ := htl0
  subst etv
  have HTL := Lib.hid htl
  have hlt : wd < w.heap.size ∧ q < w.heap.size ∧ rm < w.heap.size := by
    refine ⟨hb.lt, ?_, ?_⟩
    · exact (sargs.cell_form hq0).2
    · exact (sargs.cell_form hrm).2
  have HS : Hid (∀ wx, Below w.heap.size w wx → (wx.cell? ⟨wd, 0, none⟩ = some (.pointer (some ⟨L.bm, 0, none⟩)) ∧ wx.cell? ⟨wd, 1, none⟩ = some (.pointer (some ⟨L.rp, 0, none⟩)) ∧ wx.cell? ⟨q, 0, none⟩ = some (.pointer (some ⟨rm, 0, none⟩)) ∧ wx.cell? ⟨rm, 2, none⟩ = some (.slice tp s.A.trace.length tc))) := fun wx hx => ⟨(hx.cell (p := ⟨wd, 0, none⟩) hlt.1).trans d0, (hx.cell (p := ⟨wd, 1, none⟩) hlt.1).trans d1, (hx.cell (p := ⟨q, 0, none⟩) hlt.2.1).trans hq0, (hx.cell (p := ⟨rm, 2, none⟩) hlt.2.2).trans hrm⟩
  have HC43 := Lib.hid (h.Events (by omega))
  have HOK := Lib.hid h.oks
  obtain ⟨pm, cm, gg, gc, HCELL, HROUND⟩ := h.rounds hn hnil
  have hll1 : ll.length ≤ 64 := hn.n
  have hthl : s.th.length = ll.length := h.oks.2.1.tl
  have HGL : Hid (∀ (i : Nat) x, s.th[i]? = some x → x.got.flatten.length ≤ 40000000) := fun i x hx => by have := h.oks.2.1.gt i x hx; omega
  clear h hb hrow htr hlt hmv htl
  go_enter Tryz.func14, Tryz.ntmps14
  go_wp2_with fail
  refine HC43.out.mono ?_
  rintro e w2 ⟨ve, rfl, hve, hb2⟩
  have HRE := Lib.hid (fun wx hx => (HD.out wx hx).REvents)
  have HST := Lib.hid (fun wx hx => (HD.out wx hx).Steps)
  have HRS := Lib.hid (fun wx hx => (HD.out wx hx).RSteps)
  have HAT := Lib.hid (fun wx hx => (HD.out wx hx).At (by omega))
  have HRA := Lib.hid (fun wx hx => (HD.out wx hx).RAt)
  have HPE := Lib.hid (fun wx hx => (HD.out wx hx).Pending hn)
  have HRP := Lib.hid (fun wx hx => (HD.out wx hx).RPending hn)
  have HDN := Lib.hid (fun wx hx => (HD.out wx hx).Done hn)
  have HRD := Lib.hid (fun wx hx => (HD.out wx hx).RDone hn)
  have HTR := Lib.hid (fun wx hx => (HD.out wx hx).Trace (by omega) ht)
  obtain ⟨vep, vec, hvf⟩ : ∃ p c, ve = .slice p s.evs.length c := by obtain ⟨p, c, e, _⟩ := hve; exact ⟨p, c, e⟩
  subst hvf
  have HVE := Lib.hid hve
  clear hve HC43
  have hb2d : Below w.heap.size w w2.drew := hb2.drew
  have hbs : Below w2.heap.size w2 w2.drew := ((Fr.refl (fun _ => False) w2).drawn 1).below (fun _ _ e => e)
  have hel : s.evs.length ≤ 1000000000 := by have := HOK.out.2.1.el; omega
  have hwl : s.wh.length ≤ 1000000000 := by have := HOK.out.2.1.wl; have := HOK.out.2.1.tr; omega
  have hpl : s.pending.length ≤ 1000000000 := by have := pend_len 0 s.th; have := HOK.out.2.1.tl; have := hn.n; unfold St.pending; omega
  have htl1 : s.A.trace.length ≤ 1000000000 := by have := HOK.out.2.1.tr; omega
  have htv1 : ∀ x ∈ s.A.trace, x.vals.length ≤ 1000000000 := fun x hx => by have := ht x hx; omega
  go_upto_region 2 with fail
  go_cut [76] (fun s76 wx => s76 = .bool false ∧ Hid (Below w.heap.size w wx))
  case first =>
    -- [[
    go_region_held3 (fun wx => wx.cell? ⟨wd, 0, none⟩ = some (.pointer (some ⟨L.bm, 0, none⟩)) ∧ wx.cell? ⟨wd, 1, none⟩ = some (.pointer (some ⟨L.rp, 0, none⟩)) ∧ wx.cell? ⟨q, 0, none⟩ = some (.pointer (some ⟨rm, 0, none⟩)) ∧ wx.cell? ⟨rm, 2, none⟩ = some (.slice tp s.A.trace.length tc))
      (exact HS.out _ (by assumption))
      (first
        | ((with_reducible refine (HRE.out _ (by assumption)).mono ?_); rintro e w3 ⟨v3, rfl, hv3, rfl⟩)
        | ((with_reducible refine (SameE_yes (HVE.out.below (by assumption)) hv3 (by assumption)).mono ?_); rintro e w4 ⟨rfl, n4, hw4⟩; have hb4 : Below w.heap.size w w4 := (by rw [hw4]; exact bdr hb2d (hb2d.size) n4); clear hw4)
        | ((with_reducible refine (HST.out _ (by assumption)).mono ?_); rintro e w5 ⟨rfl, rfl⟩)
        | ((with_reducible refine (HRS.out _ (by assumption)).mono ?_); rintro e w6 ⟨rfl, rfl⟩)
        | ((with_reducible refine (HAT.out _ (by assumption)).mono ?_); rintro e w7 ⟨v7, rfl, hv7, hb7'⟩; have hb7 : Below w.heap.size w w7 := btr (by assumption) (Below.size (by assumption)) hb7')
        | ((with_reducible refine (HRA.out _ (by assumption)).mono ?_); rintro e w8 ⟨v8, rfl, hv8, rfl⟩)
        | ((with_reducible refine (SameI_yes hv7 hv8 (by assumption)).mono ?_); rintro e w9 ⟨rfl, n9, hw9⟩; have hb9 : Below w.heap.size w w9 := (by rw [hw9]; exact bdr (by assumption) (Below.size (by assumption)) n9); clear hw9)
        | ((with_reducible refine (SameI_yes hv7 (hv8.below (by assumption)) (by assumption)).mono ?_); rintro e w9 ⟨rfl, n9, hw9⟩; have hb9 : Below w.heap.size w w9 := (by rw [hw9]; exact bdr (by assumption) (Below.size (by assumption)) n9); clear hw9)
        | ((with_reducible refine (HPE.out _ (by assumption)).mono ?_); rintro e wa ⟨va, rfl, hva, hba'⟩; have hba : Below w.heap.size w wa := btr (by assumption) (Below.size (by assumption)) hba')
        | ((with_reducible refine (HRP.out _ (by assumption)).mono ?_); rintro e wb ⟨vb, rfl, hvb, hbb'⟩; have hbb : Below w.heap.size w wb := btr (by assumption) (Below.size (by assumption)) hbb')
        | ((with_reducible refine (SameI_yes hva (hvb.below (by assumption)) (by assumption)).mono ?_); rintro e wc ⟨rfl, nc, hwc⟩; have hbc : Below w.heap.size w wc := (by rw [hwc]; exact bdr (by assumption) (Below.size (by assumption)) nc); clear hwc)
        | ((with_reducible refine (SameI_yes (hva.below (by assumption)) hvb (by assumption)).mono ?_); rintro e wc ⟨rfl, nc, hwc⟩; have hbc : Below w.heap.size w wc := (by rw [hwc]; exact bdr (by assumption) (Below.size (by assumption)) nc); clear hwc)
        | ((with_reducible refine (HDN.out _ (by assumption)).mono ?_); rintro e wd1 ⟨rfl, hbd'⟩; have hbd : Below w.heap.size w wd1 := btr (by assumption) (Below.size (by assumption)) hbd')
        | ((with_reducible refine (HRD.out _ (by assumption)).mono ?_); rintro e we ⟨rfl, hbe'⟩; have hbe : Below w.heap.size w we := btr (by assumption) (Below.size (by assumption)) hbe')
        | ((with_reducible refine (HTR.out _ (by assumption)).mono ?_); rintro e wf ⟨vf, rfl, hvf, hbf'⟩; have hbf : Below w.heap.size w wf := btr (by assumption) (Below.size (by assumption)) hbf')
        | ((with_reducible refine (SameAccesses_yes hvf (HTL.out.below (by assumption)) (by assumption) (by assumption)).mono ?_); rintro e wg ⟨rfl, ng, hwg⟩; have hbg : Below w.heap.size w wg := (by rw [hwg]; exact bdr (by assumption) (Below.size (by assumption)) ng); clear hwg))
    all_goals
      go_wp2_with fail
      go_meet
      exact ⟨rfl, Lib.hid (by assumption)⟩
    -- ]]
  case rest =>
    clear HRE HST HRS HAT HRA HPE HRP HDN HRD HTR HVE HTL HS HD HOK
    obtain ⟨rfl, hwx⟩ := hcut
    go_wp2
    go_loopw [6] (fun i6 wr => ∃ i : Nat, i6 = .int .i64 i ∧ i ≤ ll.length ∧ Hid (Below w.heap.size w wr)) (fun i6 _ => ll.length - (intOf i6).toNat)
    case atStart => exact ⟨0, rfl, Nat.zero_le _, hwx⟩
    case round =>
      clear hwx
      obtain ⟨i, rfl, hi, hB⟩ := hrel
      obtain ⟨c1, c2⟩ := HCELL.out wr hB.out
      by_cases hlt : i < ll.length
      · obtain ⟨x, hx⟩ : ∃ x, s.th[i]? = some x := ⟨_, List.getElem?_eq_getElem (by omega)⟩
        obtain ⟨g1, rfl, got, pr, cr, v, hf, hg96, HR, HK⟩ := HROUND.out i x hx
        have hgl := HGL.out i x hx
        generalize x.got.flatten = fl at *
        subst hf
        clear hx
        go_wp2
        go_loopw [8, 7] (fun i8 i7 wr2 => ∃ k : Nat, i8 = .int .i64 k ∧ k ≤ got.length ∧ Hid (Below w.heap.size w wr2) ∧ ∃ p c, i7 = .slice p (got.take k).flatten.length c ∧ Hid (wr2.ownsRow w.heap.size 72 1 (.slice p (got.take k).flatten.length c) (got.take k).flatten.length (us (got.take k).flatten))) (fun i8 _ _ => got.length - (intOf i8).toNat)
        case atStart => exact ⟨0, rfl, Nat.zero_le _, hB, none, 0, rfl, Lib.hid (World.ownsRow_nil _ _ _ _)⟩
        case round =>
          obtain ⟨k, rfl, hk, hB2, p, c, rfl, HO⟩ := hrel
          obtain ⟨d1, d2⟩ := HCELL.out wr hB2.out
          obtain ⟨e1, e2, _⟩ := HR.out wr hB2.out
          by_cases hlk : k < got.length
          · obtain ⟨y, hy⟩ : ∃ y, got[k]? = some y := ⟨_, List.getElem?_eq_getElem hlk⟩
            obtain ⟨g2, pb, gv, rfl, hh⟩ := HK.out k y hy
            obtain ⟨f1, f2, hgv⟩ := hh wr hB2.out
            have HGV := Lib.hid hgv
            have hbs := hB2.out.size
            have hlen : (got.take k).flatten.length + y.length ≤ 1000000000 := by
              have h1 : (got.take (k + 1)).flatten.length = (got.take k).flatten.length + y.length := by rw [List.take_add_one, hy]; simp
              have h2 : got.flatten.length = (got.take (k + 1)).flatten.length + (got.drop (k + 1)).flatten.length := by rw [← List.length_append, ← List.flatten_append, List.take_append_drop]
              omega
            have htk : (got.take (k + 1)).flatten = (got.take k).flatten ++ y := by rw [List.take_add_one, hy]; simp
            have HTK := Lib.hid htk
            have hgd : wr.grownBy = wr.grownBy := rfl
            clear hgv hh htk hgd
            generalize (got.take k).flatten = pre at *
            go_wp2_with (at_builtin; refine app_u64 _ rfl _ _ rfl w.heap.size _ pre y rfl HO.out _ rfl HGV.out (by omega) (by omega) ?_; intro up uc w5 hown5 hgrow5)
            go_roundw
            case rel =>
              refine ⟨k + 1, by go_num, by omega, Lib.hid (hB2.out.grown hgrow5 hbs ?_), up, uc, by rw [HTK.out, List.length_append], by rw [HTK.out]; exact Lib.hid hown5⟩
              exact fun k hk => (HO.out.lt k hk).1
            case measure => simp [intOf]; omega
          · have hke : k = got.length := by omega
            subst hke
            rw [List.take_length] at HO ⊢
            obtain ⟨_, e2, e3⟩ := HR.out wr hB2.out
            have HV := Lib.hid e3
            have HU : Hid (VR wr (.slice p got.flatten.length c) got.flatten) := Lib.hid (VR.own HO.out)
            have hgl2 : got.flatten.length ≤ 1000000000 := by omega
            clear HO e3 HK
            generalize got.flatten = fl at *
            go_wp2_with fail
            refine (SameU_yes HU.out HV.out hgl2).mono ?_
            rintro e w6 ⟨rfl, n6, rfl⟩
            have HB6 : Hid (Below w.heap.size w (wr.drewN n6)) := Lib.hid (bdr hB2.out hB2.out.size n6)
            go_wp2_with fail
            go_roundw
            case rel => exact ⟨i + 1, by go_num, by omega, HB6⟩
            case measure => simp [intOf]; omega
      · go_wp2
        go_ret
        exact ⟨rfl, hB.out⟩
end
end Go.Proofs.YtkaplifhaafpdaaGreat

/-
  StepAlone, the document's walk. No condition.
-/
import Derived.Test.YtkaplifhaafpdaaMAnDoc
import Derived.Test.YtkaplifhaafpdaaM23
import Derived.Test.YtkaplifhaafpdaaM37
namespace Go.Proofs.Ytkaplifhaafpdaa
open Go Go.RowKit
set_option linter.unusedSimpArgs false
set_option linter.unusedVariables false
section
set_option maxHeartbeats 4000000 in
set_option maxRecDepth 100000 in
theorem AnTail {W w9 : World} {l : List Plan} {lay : List (Option Nat)} {bm rm rp vv mp mc m lc : Nat} {lp : Option Addr} {most : Int} {G' F0 : Nat → Prop} {s0 : St} (cc : Code) (hcc : cseq2 (cseq2 (cseq2 (cseq2 (cseq2 (cseq2 (cseq2 (cseq2 (cseq2 (cseq2 (cseq2 (cseq2 (cseq2 (cseq2 (Try.f7.body.getD .ret)))))))))))))) = cc)
    (HP : Hid (PlanAt W (.slice lp l.length lc) l)) (HF : Hid (∀ y ∈ l, ∀ d ∈ y.l, d.fits)) (hll : l.length ≤ 1048576) (HMO : Hid (-9223372036854775808 ≤ most ∧ most ≤ 9223372036854775807)) (HK : Hid (AnOK l lay))
    (HPR : Hid (∀ (j : Nat) (p : Plan), l[j]? = some p → (p.none = true ∧ lay[j]? = some none) ∨ (p.none = false ∧ ∃ pb, lay[j]? = some (some pb)))) (HF3 : Hid (Fin3 l most.toNat m)) (HR9 : Hid (Rx W w9 G' F0 rm (Mem.made 200) mp lay)) (HB : Hid (Bgn l s0))
    (HOKm : Hid ((run3 l s0 m).Ok (l4 l))) (HTR : Hid ((run3 l s0 m).TrOK ∧ (run3 l s0 m).A.trace.length ≤ 1000000000)) (HA9 : Hid (AG W w9 G' rp bm vv l lay (run3 l s0 m))) (HA0 : Hid (s0.A = Mem.made 200)) (HW9 : Hid (Below W.heap.size W w9))
    (u2 u3 u4 u6 u8 u9 u11 u12 u13 u14 u15 u16 u17 u18 u19 u20 u21 u22 u23 u24 u25 u26 u27 u28 u29 u30 u31 u32 u33 u34 u35 u36 u37 u38 u39 u40 u41 u42 u43 u44 u45 u46 u47 u48 u49 u50 u51 u52 u53 u54 u55 u56 u57 u58 u59 u60 u61 u62 u63 u64 u65 u66 u67 u68 u69 u70 u71 u72 u73 u74 u75 u76 u77 u78 u79 u80 u81 u82 u83 u84 u85 u86 u87 u88 u89 u90 u91 u92 u93 u94 u95 u96 u97 u98 u99 u100 u101 u102 u103 u104 u105 u106 u107 u108 u109 u110 u111 u112 u113 u114 u115 u116 u117 u118 u119 u120 u121 u122 u123 u124 u125 u126 u127 u128 u129 u130 u131 u132 u133 u134 u135 u136 u137 u138 u139 u140 u141 u142 u143 u144 u145 u146 u147 u148 u149 u150 u151 u152 u153 u154 u155 u156 u157 u158 u159 u160 u161 u162 u163 u164 u165 u166 u167 u168 u169 u170 u171 u172 u173 u174 u175 u176 u177 u178 u179 u180 u181 u182 u183 u184 u185 u186 u187 u188 u189 u190 u191 u192 u193 u194 u195 u196 u197 u198 u199 u200 u201 u202 u203 u204 u205 u206 u207 u208 u209 u210 u211 u212 u213 u214 u215 : Value) :
    cc.wp Try.prog (bodyPost Try.prog Try.f7 fun e w' => e = .returned (.bool true) ∧ Below W.heap.size W w') { tmps := ((.slice lp l.length lc : Value) :: (.int .i64 most : Value) :: u2 :: u3 :: u4 :: (.pointer (some ⟨bm, 0, none⟩) : Value) :: u6 :: (.pointer (some ⟨rm, 0, none⟩) : Value) :: u8 :: u9 :: (.slice (some ⟨mp, 0, none⟩) 1 mc : Value) :: u11 :: u12 :: u13 :: u14 :: u15 :: u16 :: u17 :: u18 :: u19 :: u20 :: u21 :: u22 :: u23 :: u24 :: u25 :: u26 :: u27 :: u28 :: u29 :: u30 :: u31 :: u32 :: u33 :: u34 :: u35 :: u36 :: u37 :: u38 :: u39 :: u40 :: u41 :: u42 :: u43 :: u44 :: u45 :: u46 :: u47 :: u48 :: u49 :: u50 :: u51 :: u52 :: u53 :: u54 :: u55 :: u56 :: u57 :: u58 :: u59 :: u60 :: u61 :: u62 :: u63 :: u64 :: u65 :: u66 :: u67 :: u68 :: u69 :: u70 :: u71 :: u72 :: u73 :: u74 :: u75 :: u76 :: u77 :: u78 :: u79 :: u80 :: u81 :: u82 :: u83 :: u84 :: u85 :: u86 :: u87 :: u88 :: u89 :: u90 :: u91 :: u92 :: u93 :: u94 :: u95 :: u96 :: u97 :: u98 :: u99 :: u100 :: u101 :: u102 :: u103 :: u104 :: u105 :: u106 :: u107 :: u108 :: u109 :: u110 :: u111 :: u112 :: u113 :: u114 :: u115 :: u116 :: u117 :: u118 :: u119 :: u120 :: u121 :: u122 :: u123 :: u124 :: u125 :: u126 :: u127 :: u128 :: u129 :: u130 :: u131 :: u132 :: u133 :: u134 :: u135 :: u136 :: u137 :: u138 :: u139 :: u140 :: u141 :: u142 :: u143 :: u144 :: u145 :: u146 :: u147 :: u148 :: u149 :: u150 :: u151 :: u152 :: u153 :: u154 :: u155 :: u156 :: u157 :: u158 :: u159 :: u160 :: u161 :: u162 :: u163 :: u164 :: u165 :: u166 :: u167 :: u168 :: u169 :: u170 :: u171 :: u172 :: u173 :: u174 :: u175 :: u176 :: u177 :: u178 :: u179 :: u180 :: u181 :: u182 :: u183 :: u184 :: u185 :: u186 :: u187 :: u188 :: u189 :: u190 :: u191 :: u192 :: u193 :: u194 :: u195 :: u196 :: u197 :: u198 :: u199 :: u200 :: u201 :: u202 :: u203 :: u204 :: u205 :: u206 :: u207 :: u208 :: u209 :: u210 :: u211 :: u212 :: u213 :: u214 :: u215 :: []).toArray, defers := [] } w9 := by
  unfold Try.f7 at hcc
  dsimp only [cseq1, cseq2, Option.getD_some] at hcc
  subst hcc
  try dsimp only
  go_upto_if 110 with fail
  go_cut [19] (fun s19 wx => s19 = .int .i64 (most.toNat : Nat) ∧ wx = w9)
  case first =>
    by_cases h0 : most < 0
    · have t0 : decide (most < 0) = true := by simpa using h0
      go_wp2_with fail
      go_meet
      exact ⟨by rw [show most.toNat = 0 by omega]; rfl, rfl⟩
    · have t0 : decide (most < 0) = false := by simpa using h0
      go_wp2_with fail
      go_meet
      exact ⟨by rw [show ((most.toNat : Nat) : Int) = most by omega], rfl⟩
  case rest =>
    obtain ⟨rfl, hw⟩ := hcut
    have hw : w9 = _ := hw.symm
    subst hw
    have HMM : Hid (((most.toNat : Nat) : Int) ≤ 9223372036854775807) := Lib.hid (by have := HMO.out; omega)
    generalize hM : most.toNat = M at *
    clear hM HMO
    have HB0 : Hid (∀ k, F0 k → W.heap.size ≤ k ∧ ¬ G' k) := fun k hk => ⟨(HR9.out.fz k hk).2.1, (HR9.out.fz k hk).1⟩
    have HDI : Hid (DI F0 w9 w9 rm (Mem.made 200) (.slice none 0 0) []) := DI.begin HR9.out.rm (fun k hk => (HR9.out.fz k hk).2.2)
    have HMP := Lib.hid (fun (k : Nat) (y : Value) (hy : (mptrs lay)[k]? = some y) => HR9.out.ptr (rm' := rm) hy)
    clear HR9
    have HD0 : Hid (DocAt l s0 M (cum l 0) M (Mem.made 200)) := by have := DocAt.start (l := l) (s := s0) M; rw [HA0.out] at this; exact this
    clear HA0
    go_wp2_with fail
    go_loopw [19, 20, 21, 22, 23] (fun s19 s20 s21 _ _ wx => ∃ (i kk : Nat) (lf : Int) (B : Mem), s21 = .int .i64 i ∧ i ≤ l.length ∧ s19 = .int .i64 lf ∧ s20 = .int .i64 kk ∧ kk ≤ i ∧ -(i : Int) ≤ lf ∧ lf ≤ 9223372036854775807 ∧ Hid (DocAt l s0 M (cum l i) lf B ∧ DI F0 w9 wx rm B (.slice none 0 0) [] ∧ kk = ((lay.take i).filterMap id).length)) (fun _ _ s21 _ _ _ => l.length - (intOf s21).toNat)
    case atStart => exact ⟨0, 0, M, _, rfl, Nat.zero_le _, rfl, rfl, Nat.le_refl _, by omega, HMM.out, HD0.out, HDI.out, rfl⟩
    case round =>
      clear HDI HD0
      obtain ⟨i, kk, lf, B, rfl, hi, rfl, rfl, hki, hlf, hlf2, HD⟩ := hrel
      have hbw : Below W.heap.size W wr := HD.out.2.1.bel HW9.out (fun k hk => (HB0.out k hk).1)
      by_cases hlt : i < l.length
      · obtain ⟨x, hx⟩ : ∃ x, l[i]? = some x := ⟨_, List.getElem?_eq_getElem hlt⟩
        obtain ⟨c1, c2, ec, _, hpc⟩ := HP.out
        injection ec with ec1 ec2 ec3
        subst ec1 ec3
        obtain ⟨b, o, u, rfl, hbl, hc0, hc1, hdos⟩ := hpc i x hx
        obtain ⟨dp, dc, rfl, hdn, hdd⟩ := hdos
        have d0 : wr.cell? ⟨b, o + i * 2, none⟩ = some (.bool x.none) := (hbw.cell (p := ⟨b, _, none⟩) hbl).trans hc0
        have hlt' : decide ((i : Int) < (l.length : Int)) = true := by simp; omega
        have HX := Lib.hid hx
        have HFI := Lib.hid (fun (wx : World) (hb : Below W.heap.size W wx) => (hb.cell (p := ⟨b, o + i * 2 + 1, none⟩) hbl).trans hc1)
        have HDD := Lib.hid hdd
        clear hpc hc0 hc1 hdd hx ec2
        rcases HPR.out i x HX.out with ⟨hn, hly⟩ | ⟨hn, pb, hly⟩
        · have hfm := Lib.hid (fm_next lay i _ hly)
          rw [hn] at d0
          have ow : wrap64 (lf - 1) = lf - 1 := by unfold wrap64; omega
          have HNX := Lib.hid (HD.out.1.skip HB.out HX.out hn)
          clear hly
          go_wp2_with fail
          go_round
          case rel => exact ⟨i + 1, kk, lf - 1, B, by go_num, by omega, rfl, rfl, by omega, by omega, by omega, HNX.out, HD.out.2.1, by rw [hfm.out]; exact HD.out.2.2⟩
          case measure => simp [intOf]; omega
        · have hfm := Lib.hid (fm_next lay i _ hly)
          rw [hn] at d0
          have hptr : (mptrs lay)[kk]? = some (pptr pb) := by
            rw [HD.out.2.2]
            simp [mptrs, fm_at lay i pb hly]
          have hkl := (List.getElem?_eq_some_iff.1 hptr).1
          obtain ⟨g, c, hgc⟩ := HMP.out _ _ hptr
          have HGC := Lib.hid hgc
          have HLY := Lib.hid hly
          have HN := Lib.hid hn
          have hcn : x.cost = max 1 x.l.length := by unfold Plan.cost; rw [hn]; rfl
          have HCN := Lib.hid hcn
          have hxl := (HK.out.fit.p l (by simp [l4]) x (List.mem_of_getElem? HX.out)).1
          have HFX := Lib.hid (HK.out.fit.p l (by simp [l4]) x (List.mem_of_getElem? HX.out)).2
          clear hptr hgc hly hn
          obtain ⟨wi, rfl⟩ : ∃ wi : World, wi = wr := ⟨_, rfl⟩
          generalize hxc : x.cost = xc at *
          have HXC := Lib.hid hxc
          clear hxc hcn
          go_wp2_with fail
          go_loopw [19, 22, 23] (fun s19 s22 s23 wx => ∃ (a : Nat) (lf' : Int) (B' : Mem) (gp : Option Addr) (gl gc : Nat), s23 = .int .i64 a ∧ a ≤ xc ∧ s19 = .int .i64 lf' ∧ -(i : Int) ≤ lf' ∧ lf' ≤ 9223372036854775807 ∧ s22 = .slice gp gl gc ∧ gl ≤ a ∧ Hid (∃ gs : List Int, gs.length = gl ∧ DocAt l s0 M (cum l i + a) lf' B' ∧ DI F0 w9 wx rm B' (.slice gp gl gc) gs ∧ gs = gotOf (run3 l s0 (min (cum l i + a) M)) i)) (fun _ _ s23 _ => xc - (intOf s23).toNat)
          case atStart => exact ⟨0, lf, B, none, 0, 0, rfl, Nat.zero_le _, rfl, hlf, hlf2, rfl, Nat.le_refl _, [], rfl, HD.out.1, HD.out.2.1, (DocAt.nogot HB.out hlt M).symm⟩
          case round =>
            have HKK : Hid (kk = ((lay.take i).filterMap id).length) := HD.out.2.2
            clear HD hbw
            obtain ⟨a, lf', B', gp, gl, gc, rfl, ha, rfl, hl1, hl2, rfl, hgl, HI⟩ := hrel
            have hbx : Below W.heap.size W wr := by
              obtain ⟨gs, _, _, hI, _⟩ := HI.out
              exact hI.bel HW9.out (fun k hk => (HB0.out k hk).1)
            have e1 := HFI.out wr hbx
            have d0 : wr.cell? ⟨b, o + i * 2, none⟩ = some (.bool false) := by
              obtain ⟨c1, c2, ec, _, hpc⟩ := HP.out
              injection ec with ec1 ec2 ec3
              obtain ⟨b', o', u', e2, hbl', hc0, _⟩ := hpc i x HX.out
              rw [e2] at ec1
              injection ec1 with ec1
              injection ec1 with ec1 ec4
              subst ec1 ec4
              rw [← HN.out]
              exact (hbx.cell (p := ⟨b, _, none⟩) hbl').trans hc0
            have hxcn := HCN.out
            by_cases hex : a = xc ∨ lf' ≤ 0
            · skip
              obtain ⟨gs, rfl, hD, hI, hgs⟩ := HI.out
              obtain ⟨hD2, hgs2⟩ := hD.close HB.out HX.out (by rw [HXC.out]; exact ha) (by rw [HXC.out]; exact hex) HF3.out
              obtain ⟨c1, c2'⟩ := HGC.out wr ⟨_, _, _, hI⟩
              have c2 : wr.cell? ⟨g, kk, none⟩ = some (.pointer (some ⟨pb, 0, none⟩)) := c2'
              clear c2'
              obtain ⟨uu, hu, hv⟩ := (hI.ag HA9.out HK.out HOKm.out HB0.out).got HK.out HOKm.out HX.out HLY.out
              rw [← hgs2, ← hgs] at hv
              have hgl9 : gs.length ≤ 1000000000 := by omega
              have HSAME := Lib.hid (SameU_yes hv hI.vr hgl9)
              obtain ⟨up, un, uc, rfl⟩ := hv.form
              have HNX : Hid (∀ n, DocAt l s0 M (cum l (i + 1)) lf' B' ∧ DI F0 w9 (wr.drewN n) rm B' (.slice none 0 0) [] ∧ kk + 1 = ((lay.take (i + 1)).filterMap id).length) := fun n => ⟨hD2, hI.fresh.drawn n, by rw [hfm.out, ← HKK.out]; rfl⟩
              have k0 : (0 : Int) ≤ (kk : Int) := by omega
              have k1 : (kk : Int) < ((mptrs lay).length : Int) := by omega
              have k2 : decide (((mptrs lay).length : Int) ≤ (kk : Int)) = false := by simp; omega
              clear hD hI hgs hD2 hgs2 hv HI
              have hend : Hid (l.length - (i + 1) < l.length - i) := by show _ < _; omega
              by_cases hax : a < x.l.length
              · have t1 : decide ((a : Int) < (x.l.length : Int)) = true := by simp; omega
                have t2 : decide (lf' ≤ 0) = true := by simp; omega
                go_wp2_with fail
                refine HSAME.out.mono ?_
                rintro e w5 ⟨rfl, nq, rfl⟩
                go_wp2_with fail
                go_round
                case rel => exact ⟨i + 1, kk + 1, lf', B', by go_num, by omega, rfl, by go_num, by omega, by omega, by omega, HNX.out _⟩
                case measure => simp [intOf]; omega
              · have t1 : decide ((a : Int) < (x.l.length : Int)) = false := by simp; omega
                by_cases ha1 : a < 1
                · have t3 : decide ((a : Int) < 1) = true := by simp; omega
                  have t2 : decide (lf' ≤ 0) = true := by simp; omega
                  go_wp2_with fail
                  refine HSAME.out.mono ?_
                  rintro e w5 ⟨rfl, nq, rfl⟩
                  go_wp2_with fail
                  go_round
                  case rel => exact ⟨i + 1, kk + 1, lf', B', by go_num, by omega, rfl, by go_num, by omega, by omega, by omega, HNX.out _⟩
                  case measure => simp [intOf]; omega
                · have t3 : decide ((a : Int) < 1) = false := by simp; omega
                  go_wp2_with fail
                  refine HSAME.out.mono ?_
                  rintro e w5 ⟨rfl, nq, rfl⟩
                  go_wp2_with fail
                  go_round
                  case rel => exact ⟨i + 1, kk + 1, lf', B', by go_num, by omega, rfl, by go_num, by omega, by omega, by omega, HNX.out _⟩
                  case measure => simp [intOf]; omega
            · skip
              have hex1 : a < xc := by omega
              have hex2 : 0 < lf' := by omega
              have HST : Hid (∃ gs : List Int, gs.length = gl ∧ DocAt l s0 M (cum l i + a) lf' B' ∧ DI F0 w9 wr rm B' (.slice gp gl gc) gs ∧ DocAt l s0 M (cum l i + (a + 1)) (lf' - 1) (B'.act (x.act a)) ∧ gs ++ B'.said (x.act a) = gotOf (run3 l s0 (min (cum l i + (a + 1)) M)) i) := by
                obtain ⟨gs, e, hD, hI, hgs⟩ := HI.out
                obtain ⟨h1, h2⟩ := hD.step HB.out HX.out (by rw [HXC.out]; exact hex1) hex2
                exact ⟨gs, e, hD, hI, h1, by rw [h2, ← hgs]⟩
              have ow : wrap64 (lf' - 1) = lf' - 1 := by unfold wrap64; omega
              have t2 : decide (lf' ≤ 0) = false := by simp; omega
              clear HI hex
              by_cases hax : a < x.l.length
              · have t1 : decide ((a : Int) < (x.l.length : Int)) = true := by simp; omega
                obtain ⟨d, hd⟩ : ∃ d, x.l[a]? = some d := ⟨_, List.getElem?_eq_getElem hax⟩
                have HACT : Hid (x.act a = some d) := by show _ = _; unfold Plan.act; rw [HN.out]; simpa using hd
                have HFD := Lib.hid (HFX.out d (List.mem_of_getElem? hd))
                obtain ⟨b2, o2, ap, ac, rfl, hda, hva, hnil⟩ := HDD.out a d hd
                have q0 : wr.cell? ⟨b2, o2 + a * 5, none⟩ = some (.int .u8 d.kind) := (hbx.cell (p := ⟨b2, _, none⟩) hda.lt).trans hda.qk
                have q1 : wr.cell? ⟨b2, o2 + a * 5 + 1, none⟩ = some (.int .u64 d.addr) := (hbx.cell (p := ⟨b2, _, none⟩) hda.lt).trans hda.qx
                have q2 : wr.cell? ⟨b2, o2 + a * 5 + 2, none⟩ = some (.int .u64 d.a) := (hbx.cell (p := ⟨b2, _, none⟩) hda.lt).trans hda.qa
                have q3 : wr.cell? ⟨b2, o2 + a * 5 + 3, none⟩ = some (.int .u64 d.b) := (hbx.cell (p := ⟨b2, _, none⟩) hda.lt).trans hda.qb
                have q4 : wr.cell? ⟨b2, o2 + a * 5 + 4, none⟩ = some (.slice ap d.vals.length ac) := (hbx.cell (p := ⟨b2, _, none⟩) hda.lt).trans hda.qv
                have a0 : (0 : Int) ≤ (a : Int) := by omega
                have a1 : (a : Int) < (x.l.length : Int) := by omega
                have HVA := Lib.hid hva
                have HNIL := Lib.hid hnil
                clear hd hda hva hnil
                have HU : Hid (d.real = false → ∃ gs : List Int, gs.length = gl ∧ DocAt l s0 M (cum l i + (a + 1)) (lf' - 1) B' ∧ DI F0 w9 wr rm B' (.slice gp gl gc) gs ∧ gs = gotOf (run3 l s0 (min (cum l i + (a + 1)) M)) i) := by
                  intro hr
                  obtain ⟨gs, e, _, hI, h1, h2⟩ := HST.out
                  rw [HACT.out] at h1 h2
                  refine ⟨gs, e, ?_, hI, ?_⟩
                  · have e2 : B'.act (some d) = B' := make_unreal hr
                    rw [e2] at h1
                    exact h1
                  · rw [← h2]
                    simp [Mem.said, hr]
                by_cases hk1 : 1 ≤ d.kind
                · have g1 : decide (1 ≤ d.kind) = true := by simpa using hk1
                  by_cases hk2 : d.kind ≤ 5
                  · have g2 : decide (d.kind ≤ 5) = true := by simpa using hk2
                    have hreal : d.real = true := by simp [Do.real]; omega
                    obtain ⟨gs, rfl, hD, hI, h1, h2⟩ := HST.out
                    have hoff : d.vals ≠ [] → ∀ q, ap = some q → ¬ F0 q.block ∧ q.block < w9.heap.size := by
                      intro hne q e
                      obtain ⟨p', c', e2, hq⟩ := HVA.out
                      rcases hq with hq | ⟨ad', e3, hq, _⟩
                      · exact absurd hq hne
                      · injection e2 with e2 _ _
                        rw [e3, e] at e2
                        injection e2 with e2
                        subst e2
                        refine ⟨fun hF => ?_, Nat.lt_of_lt_of_le hq HW9.out.size⟩
                        have := (HB0.out _ hF).1
                        omega
                    have hva9 : VA wr (.slice ap d.vals.length ac) d.vals := HVA.out.fr (Fr.of_below (S := fun _ => False) hbx) (fun _ _ _ _ e => e)
                    have HMK := Lib.hid (hI.make HFD.out.1 hva9 hoff HNIL.out HFD.out.2 (hD.fit HB.out (by have := HB.out.cu i; omega)))
                    have HN2 : Hid (DocAt l s0 M (cum l i + (a + 1)) (lf' - 1) (B'.make 3 d) ∧ gs ++ [B'.tell d] = gotOf (run3 l s0 (min (cum l i + (a + 1)) M)) i) := by
                      rw [HACT.out] at h1 h2
                      refine ⟨h1, ?_⟩
                      rw [← h2]
                      simp [Mem.said, hreal]
                    clear h1 h2 hI hD hva9 hoff HU HST
                    go_wp2_with fail
                    refine HMK.out.mono ?_
                    rintro e w5 ⟨rfl, HI5⟩
                    have HOW : Hid (∀ o, (w5.alloc o).ownsRow w9.heap.size 22 1 (.slice gp gs.length gc) gs.length (us gs)) := fun o => by
                      obtain ⟨FZ, hx⟩ := HI5.out
                      exact own_fr hx.own ((Fr.refl (fun _ => False) _).alloc o) (fun _ _ e => e)
                    have hsz : w9.heap.size ≤ w5.heap.size := HI5.out.size
                    have hgl9 : gs.length ≤ 1000000000 := by omega
                    go_wp2_with (at_builtin; refine app_one infoU Try.underlying61 rfl (by decide) rfl _ _ rfl rfl (HOW.out _) rfl (by simp) rfl hgl9 hsz ?_; intro v7 w7 ho7 hg7 hat7; have HI7 := Lib.hid (HI5.out.push ho7 hg7 hat7); obtain ⟨vp, vc, e7⟩ := bk_form ho7; subst e7; clear ho7 hg7 hat7)
                    go_round
                    case rel => exact ⟨a + 1, lf' - 1, B'.make 3 d, vp, gs.length + 1, vc, by go_num, by omega, rfl, by omega, by omega, rfl, by omega, gs ++ [B'.tell d], by simp, HN2.out.1, HI7.out, HN2.out.2⟩
                    case measure => simp [intOf]; omega
                  · have g2 : decide (d.kind ≤ 5) = false := by simpa using hk2
                    have hreal : d.real = false := by simp [Do.real]; omega
                    have HNX := Lib.hid (HU.out hreal)
                    clear hreal
                    go_wp2_with fail
                    go_round
                    case rel => exact ⟨a + 1, lf' - 1, B', gp, gl, gc, by go_num, by omega, rfl, by omega, by omega, rfl, by omega, HNX⟩
                    case measure => simp [intOf]; omega
                · have g1 : decide (1 ≤ d.kind) = false := by simpa using hk1
                  have hreal : d.real = false := by simp [Do.real]; omega
                  have HNX := Lib.hid (HU.out hreal)
                  clear hreal
                  go_wp2_with fail
                  go_round
                  case rel => exact ⟨a + 1, lf' - 1, B', gp, gl, gc, by go_num, by omega, rfl, by omega, by omega, rfl, by omega, HNX⟩
                  case measure => simp [intOf]; omega
              · have t1 : decide ((a : Int) < (x.l.length : Int)) = false := by simp; omega
                have t3 : decide ((a : Int) < 1) = true := by simp; omega
                have HNX : Hid (∃ gs : List Int, gs.length = gl ∧ DocAt l s0 M (cum l i + (a + 1)) (lf' - 1) B' ∧ DI F0 w9 wr rm B' (.slice gp gl gc) gs ∧ gs = gotOf (run3 l s0 (min (cum l i + (a + 1)) M)) i) := by
                  obtain ⟨gs, e, _, hI, h1, h2⟩ := HST.out
                  have hact : x.act a = none := by unfold Plan.act; rw [HN.out]; simp; omega
                  rw [hact] at h1 h2
                  exact ⟨gs, e, h1, hI, by rw [← h2]; simp [Mem.said]⟩
                go_wp2_with fail
                go_round
                case rel => exact ⟨a + 1, lf' - 1, B', gp, gl, gc, by go_num, by omega, rfl, by omega, by omega, rfl, by omega, HNX⟩
                case measure => simp [intOf]; omega
      · obtain rfl : i = l.length := by omega
        obtain ⟨tv, htv, htl⟩ := HD.out.2.1.trace
        have HTL : Hid (B = (run3 l s0 m).A) := HD.out.1.last HB.out HF3.out
        rw [HTL.out] at htl
        have HA := Lib.hid (HD.out.2.1.ag HA9.out HK.out HOKm.out HB0.out)
        have HT1 : Hid (∀ wx, Below wr.heap.size wr wx → Calls Try.prog 38 #[.pointer (some ⟨bm, 0, none⟩)] wx fun e w' => ∃ u, e = .returned u ∧ TL w' u (run3 l s0 m).A.trace ∧ Below wx.heap.size wx w') := fun wx hb => (HA.out.bl HK.out HOKm.out hb).Trace HTR.out.2 HTR.out.1
        obtain ⟨tp, tc, ⟨rfl, hcut⟩⟩ : ∃ tp tc, tv = .slice tp (run3 l s0 m).A.trace.length tc ∧ True := by
          obtain ⟨p, c, e, _⟩ := htl
          exact ⟨p, c, e, trivial⟩
        have HS : Hid (∀ wx, Below wr.heap.size wr wx → wx.cell? ⟨rm, 2, none⟩ = some (.slice tp (run3 l s0 m).A.trace.length tc)) := by
          intro wx hb
          obtain ⟨FZ, hx⟩ := HD.out.2.1
          obtain ⟨r, tv, rows, hm⟩ := hx.rm
          exact (hb.cell (p := ⟨rm, 2, none⟩) (Blk.lt hm.bM)).trans htv
        have hlt' : decide ((l.length : Int) < (l.length : Int)) = false := by simp
        have htrl := HTR.out.2
        have htrv : ∀ x ∈ (run3 l s0 m).A.trace, x.vals.length ≤ 1000000000 := fun x hx => by have := HTR.out.1 x hx; omega
        have b1 : Below wr.heap.size wr wr.drew := (Below.refl _ _).drew
        have HTV := Lib.hid (And.intro htl htrv)
        have HBW := Lib.hid hbw
        clear htl htrv hbw HD HTL HMP hlf hlf2 hi hlt hki
        go_upto_region 49 with fail
        go_region_held3 (fun wx => wx.cell? ⟨rm, 2, none⟩ = some (.slice tp (run3 l s0 m).A.trace.length tc))
          (exact HS.out _ (by assumption))
          (first
            | ((with_reducible refine (HT1.out _ (by assumption)).mono ?_); rintro e w7 ⟨v7, rfl, hv7, hb7'⟩; have hb7 : Below wr.heap.size wr w7 := btr (by assumption) (Below.size (by assumption)) hb7')
            | ((with_reducible refine (SameAccesses_yes (hv7.below (by first | assumption | exact Below.refl _ _)) (HTV.out.1.below (by assumption)) htrl HTV.out.2).mono ?_); rintro e w9 ⟨rfl, n9, hw9⟩; have hb9 : Below wr.heap.size wr w9 := (by rw [hw9]; exact bdr (by assumption) (Below.size (by assumption)) n9); clear hw9))
        all_goals
          go_wp2_with fail
          go_ret
          exact ⟨rfl, HBW.out.trans ((by assumption : Below wr.heap.size wr _).mono HBW.out.size)⟩
end
end Go.Proofs.Ytkaplifhaafpdaa

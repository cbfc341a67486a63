/-
  StepApart, behind the plans: two pairs of runners, to their ends. No condition.
-/
import Derived.Test.YtkaplifhaafpdaaMApTwo
import Derived.Test.YtkaplifhaafpdaaM23
import Derived.Test.YtkaplifhaafpdaaM37
namespace Go.Proofs.Ytkaplifhaafpdaa
open Go Go.RowKit
set_option linter.unusedSimpArgs false
set_option linter.unusedVariables false
section
variable {W : World} {ll : List (List Plan)}
set_option maxHeartbeats 4000000 in
set_option maxRecDepth 100000 in
theorem ApTail {W0 : World} {ps qs : List Int} {lp p1 p2 tp : Option Addr} {ln lc c1 c2 tc : Nat} (cc : Code) (hcc : cseq2 (cseq2 (cseq2 (cseq2 (Try.f6.body.getD .ret)))) = cc)
    (H0 : Hid (Below W0.heap.size W0 W)) (HP : Hid (PlansAt W (.slice tp ll.length tc) ll)) (HA : Hid (Apart ll)) (HW : Hid (plansWt ll ≤ 1048576)) (HFI : Hid (∀ l ∈ ll, ∀ y ∈ l, ∀ d ∈ y.l, d.fits)) (HRA : Hid (Reads W (.slice p1 ps.length c1) (is64 ps))) (HRB : Hid (Reads W (.slice p2 qs.length c2) (is64 qs))) (hna : ps.length ≤ 1048576) (hnb : qs.length ≤ 1048576)
    (u3 u4 u5 u6 u8 u9 u10 u11 u12 u13 u14 u15 u16 u17 u18 u19 u20 u21 u22 u23 u24 u25 u26 u27 u28 u29 u30 u31 u32 u33 u34 u35 u36 u37 u38 u39 u40 u41 u42 u43 u44 u45 u46 u47 u48 u49 u50 u51 u52 u53 u54 u55 u56 u57 u58 u59 u60 u61 u62 u63 u64 u65 u66 u67 u68 u69 u70 u71 u72 u73 u74 u75 u76 u77 u78 u79 u80 u81 u82 u83 u84 u85 u86 u87 u88 u89 u90 u91 u92 u93 u94 u95 u96 u97 u98 u99 u100 u101 u102 u103 u104 u105 u106 u107 u108 u109 u110 u111 u112 u113 u114 u115 u116 u117 u118 u119 u120 u121 u122 u123 u124 u125 u126 u127 u128 u129 u130 u131 u132 u133 u134 u135 u136 u137 u138 u139 u140 u141 u142 u143 u144 u145 u146 u147 u148 u149 u150 u151 u152 u153 u154 u155 u156 u157 u158 u159 u160 u161 u162 u163 u164 u165 u166 u167 u168 u169 u170 u171 u172 u173 u174 u175 u176 u177 u178 u179 u180 u181 u182 u183 u184 u185 u186 u187 u188 u189 u190 u191 u192 u193 u194 u195 u196 u197 u198 u199 u200 u201 u202 u203 u204 u205 u206 u207 u208 u209 u210 u211 u212 u213 u214 u215 u216 u217 u218 u219 u220 u221 u222 u223 : Value) :
    cc.wp Try.prog (bodyPost Try.prog Try.f6 fun e w' => e = .returned (.bool true) ∧ Below W0.heap.size W0 w') { tmps := ((.slice lp ln lc : Value) :: (.slice p1 ps.length c1 : Value) :: (.slice p2 qs.length c2 : Value) :: u3 :: u4 :: u5 :: u6 :: (.slice tp ll.length tc : Value) :: u8 :: u9 :: u10 :: u11 :: u12 :: u13 :: u14 :: u15 :: u16 :: u17 :: u18 :: u19 :: u20 :: u21 :: u22 :: u23 :: u24 :: u25 :: u26 :: u27 :: u28 :: u29 :: u30 :: u31 :: u32 :: u33 :: u34 :: u35 :: u36 :: u37 :: u38 :: u39 :: u40 :: u41 :: u42 :: u43 :: u44 :: u45 :: u46 :: u47 :: u48 :: u49 :: u50 :: u51 :: u52 :: u53 :: u54 :: u55 :: u56 :: u57 :: u58 :: u59 :: u60 :: u61 :: u62 :: u63 :: u64 :: u65 :: u66 :: u67 :: u68 :: u69 :: u70 :: u71 :: u72 :: u73 :: u74 :: u75 :: u76 :: u77 :: u78 :: u79 :: u80 :: u81 :: u82 :: u83 :: u84 :: u85 :: u86 :: u87 :: u88 :: u89 :: u90 :: u91 :: u92 :: u93 :: u94 :: u95 :: u96 :: u97 :: u98 :: u99 :: u100 :: u101 :: u102 :: u103 :: u104 :: u105 :: u106 :: u107 :: u108 :: u109 :: u110 :: u111 :: u112 :: u113 :: u114 :: u115 :: u116 :: u117 :: u118 :: u119 :: u120 :: u121 :: u122 :: u123 :: u124 :: u125 :: u126 :: u127 :: u128 :: u129 :: u130 :: u131 :: u132 :: u133 :: u134 :: u135 :: u136 :: u137 :: u138 :: u139 :: u140 :: u141 :: u142 :: u143 :: u144 :: u145 :: u146 :: u147 :: u148 :: u149 :: u150 :: u151 :: u152 :: u153 :: u154 :: u155 :: u156 :: u157 :: u158 :: u159 :: u160 :: u161 :: u162 :: u163 :: u164 :: u165 :: u166 :: u167 :: u168 :: u169 :: u170 :: u171 :: u172 :: u173 :: u174 :: u175 :: u176 :: u177 :: u178 :: u179 :: u180 :: u181 :: u182 :: u183 :: u184 :: u185 :: u186 :: u187 :: u188 :: u189 :: u190 :: u191 :: u192 :: u193 :: u194 :: u195 :: u196 :: u197 :: u198 :: u199 :: u200 :: u201 :: u202 :: u203 :: u204 :: u205 :: u206 :: u207 :: u208 :: u209 :: u210 :: u211 :: u212 :: u213 :: u214 :: u215 :: u216 :: u217 :: u218 :: u219 :: u220 :: u221 :: u222 :: u223 :: []).toArray, defers := [] } W := by
  have HL : Hid (ll.length ≤ 1048576 ∧ ∀ l ∈ ll, l.length ≤ 1048576) := plans_len HW.out
  have HF : Hid (tooMany ll = false → Fits ll) := fun e => fits_of e HW.out HFI.out
  unfold Try.f6 at hcc
  dsimp only [cseq1, cseq2, Option.getD_some] at hcc
  subst hcc
  try dsimp only
  have HC := Lib.hid (both_any HP.out (Below.refl _ W) HL.out.1 HL.out.2)
  go_wp2_with fail
  refine HC.out.mono ?_
  clear HC
  rintro e wb (⟨htm, ⟨wd, rfl⟩, hb⟩ | ⟨htm, wd, q, rfl, hb⟩)
  · have HB : Hid (Below W.heap.size W wb) := hb
    clear hb
    have HC := Lib.hid (both_any HP.out HB.out HL.out.1 HL.out.2)
    clear HP HL
    go_wp2_with fail
    refine HC.out.mono ?_
    clear HC
    rintro e wc (⟨-, ⟨wd2, rfl⟩, hb⟩ | ⟨htm2, wd2, q2, rfl, hb⟩)
    · have HB2 : Hid (Below W.heap.size W wc) := HB.out.trans (hb.mono HB.out.size)
      clear hb
      go_wp2_with fail
      go_ret
      exact ⟨rfl, H0.out.trans (HB2.out.mono H0.out.size)⟩
    · rw [htm] at htm2; cases htm2
  · have hn' := HF.out htm
    obtain ⟨L, U, _, hd, _, hb⟩ := hb.out.duo (Nat.le_refl _)
    have HB : Hid (Below W.heap.size W wb) := hb
    have HD := Lib.hid hd
    have HOK := Lib.hid hd.oks.2.1
    have HC := Lib.hid (both_any HP.out HB.out HL.out.1 HL.out.2)
    clear hd hb
    go_wp2_with fail
    refine HC.out.mono ?_
    clear HC
    rintro e wc (⟨htm2, -, -⟩ | ⟨-, wd2, q2, rfl, hb⟩)
    · rw [htm] at htm2; cases htm2
    obtain ⟨L2, V, _, hd2, hV, hb⟩ := hb.out.duo HB.out.size
    have ht : Two W ll wd q L (St.start ll mem0) (St.start ll mem0) wd2 q2 L2 (St.start ll mem0) (St.start ll mem0) wc := ⟨U, V, HD.out.bl hb, hd2, fun k hu hv => by have := (HD.out.pos k hu).2; have := hV k hv; omega⟩
    have HF1 := Lib.hid (start_fine HW.out ps hn' (by omega) HOK.out)
    have HF2 := Lib.hid (start_fine HW.out qs hn' (by omega) HOK.out)
    have HR1 := Lib.hid ((Reach.start ll (St.start ll mem0)).many HA.out ps)
    have HR2 := Lib.hid ((Reach.start ll (St.start ll mem0)).many HA.out qs)
    have h00 : (St.start ll mem0).steps = 0 := rfl
    generalize St.start ll mem0 = s0 at *
    have hra : RdI wc (.slice p1 ps.length c1) ps := RdI.of (HRA.out.below ht.bel)
    have hrb : ∀ wx, Below W.heap.size W wx → RdI wx (.slice p2 qs.length c2) qs := fun wx hx => RdI.of (HRB.out.below hx)
    have harg : ∀ (pp : Option Addr) (cc : Nat) (l : List Int), Reads W (.slice pp l.length cc) (is64 l) → 0 < l.length → ∀ b o c, Value.slice pp l.length cc = .slice (some ⟨b, o, none⟩) l.length c → b < W.heap.size := by
      intro pp cc l hr h b o c e
      injection e with e _ _
      subst e
      obtain ⟨x, hx⟩ : ∃ x, l[0]? = some x := ⟨_, List.getElem?_eq_getElem h⟩
      obtain ⟨b', o', e, hl, _⟩ := reads_at hr hx
      injection e with e; injection e with e _ _
      subst e
      exact hl
    have HC := Lib.hid (ht.runA hn' (by omega) hra (harg _ _ _ HRA.out))
    have HARG := Lib.hid (harg _ _ _ HRB.out)
    have d1 := ht.one.cell1.2
    have d2 := ht.two.cell1.2
    have HBB := Lib.hid hrb
    have H00 := Lib.hid h00
    clear ht hra hrb harg hb hd2 hV d2 h00
    go_wp2_with fail
    refine HC.out.mono ?_
    clear HC
    rintro e w1 ⟨rfl, ht⟩
    have HC := Lib.hid (ht.runB' hn' (by rw [H00.out]; omega) (HBB.out _ ht.bel) HARG.out)
    have d2 := ht.two.cell1.2
    clear ht d1
    go_wp2_with fail
    refine HC.out.mono ?_
    clear HC
    rintro e w2 ⟨rfl, ht⟩
    have HC := Lib.hid (ht.finA HA.out hn' HF1.out HR1.out)
    have d1 := ht.one.cell1.2
    clear ht d2
    go_wp2_with fail
    refine HC.out.mono ?_
    clear HC
    rintro e w3 ⟨rfl, h3⟩
    obtain ⟨s1, ht, hd1, hr1, hf1⟩ := h3.out
    have HC := Lib.hid (ht.finB HA.out hn' HF2.out HR2.out)
    have HX1 := Lib.hid (And.intro hd1 (And.intro hr1 hf1))
    have d2 := ht.two.cell1.2
    clear ht d1 hd1 hr1 hf1 h3
    go_wp2_with fail
    refine HC.out.mono ?_
    clear HC
    rintro e w4 ⟨rfl, h4⟩
    obtain ⟨s2, ht, hd2, hr2, hf2⟩ := h4.out
    obtain ⟨hth, hpk⟩ := apart_same HA.out HX1.out.2.1 hr2 HX1.out.1 hd2
    have HT := Lib.hid ht
    have HTH := Lib.hid hth
    have HPK := Lib.hid hpk
    have HSTP : Hid (s1.steps ≤ 40000000) := by have := HX1.out.2.2.2.2; show _ ≤ _; omega
    have HTLEN : Hid (s1.th.length = ll.length) := HX1.out.2.2.1.tl
    clear ht d2 hd2 hr2 hf2 h4 hth hpk HX1
    have HTM : Hid (∀ m, Two W ll wd q L s1 s0 wd2 q2 L2 s2 s0 (w4.drewN m)) := fun m => HT.out.bl (bdr (Below.refl _ _) (Nat.le_refl _) m)
    go_wp2_with fail
    go_loopw [20] (fun i20 wx => ∃ k m : Nat, i20 = .int .i64 k ∧ k ≤ 200 ∧ wx = w4.drewN m) (fun i20 _ => 200 - (intOf i20).toNat)
    case atStart => exact ⟨0, 0, rfl, Nat.zero_le _, rfl⟩
    case round =>
      obtain ⟨k, m, rfl, hk, rfl⟩ := hrel
      by_cases hlt : k < 200
      · have hc1 := (HTM.out m).one.cell1.1
        have hc2 := (HTM.out m).two.cell1.1
        have HWX : Hid (∀ nq, (w4.drewN m).drewN nq = w4.drewN (m + nq)) := fun nq => by simp [World.drewN, Nat.add_assoc]
        have HP1 : Hid (∀ nq, Calls Try.prog 29 #[.pointer (some ⟨L.bm, 0, none⟩), .int .u64 (k : Int)] ((w4.drewN m).drewN nq) fun e w' => e = .returned (.int .u64 (s1.A.peek (k : Int))) ∧ (w4.drewN m).drewN nq = w') := fun nq => by
          rw [HWX.out]
          exact (HTM.out _).peekA (k : Int) (by omega)
        have HP2 : Hid (∀ nq, Calls Try.prog 29 #[.pointer (some ⟨L2.bm, 0, none⟩), .int .u64 (k : Int)] ((w4.drewN m).drewN nq) fun e w' => e = .returned (.int .u64 (s1.A.peek (k : Int))) ∧ (w4.drewN m).drewN nq = w') := fun nq => by
          rw [HWX.out, HPK.out (k : Int) (by omega)]
          exact (HTM.out _).peekB (k : Int) (by omega)
        generalize s1.A.peek (k : Int) = pk at *
        generalize w4.drewN m = wx at *
        have HQ1 := Lib.hid (fun nq => Calls.quiet_of_same ((HP1.out nq).mono fun _ _ hh => ⟨hh.1, hh.2.symm⟩))
        have HQ2 := Lib.hid (fun nq => Calls.quiet_of_same ((HP2.out nq).mono fun _ _ hh => ⟨hh.1, hh.2.symm⟩))
        have ow5 : IntKind.u64.wrap (k : Int) = (k : Int) := IntWalk.u64_in _ ⟨by omega, by omega⟩
        go_wp2_with fail
        go_quiet ((go_at_call 29; first | (with_reducible exact HQ1.out _) | (with_reducible exact HQ2.out _)))
        all_goals
          go_wp2_with fail
          go_roundw
          case rel => exact ⟨k + 1, m + nq, by go_num, by omega, HWX.out nq⟩
          case measure => simp [intOf]; omega
      · obtain rfl : k = 200 := by omega
        have HT5 := Lib.hid (HTM.out m)
        clear HTM HT HPK
        generalize w4.drewN m = w5 at *
        go_wp2_with fail
        go_loopw [21, 22] (fun i21 _ wx => ∃ i : Nat, i21 = .int .i64 i ∧ i ≤ ll.length ∧ Hid (Two W ll wd q L s1 s0 wd2 q2 L2 s2 s0 wx)) (fun i21 _ _ => ll.length - (intOf i21).toNat)
        case atStart => exact ⟨0, rfl, Nat.zero_le _, HT5⟩
        case round =>
          clear HT5
          obtain ⟨i, rfl, hi, HTW⟩ := hrel
          obtain ⟨pA, cA, pB, cB, ⟨ca, cb⟩, hgg⟩ := HTW.out.gots HSTP.out
          have hll := HL.out.1
          by_cases hlt : i < ll.length
          · obtain ⟨x, hx⟩ : ∃ x, s1.th[i]? = some x := ⟨_, List.getElem?_eq_getElem (by rw [HTLEN.out]; exact hlt)⟩
            obtain ⟨l, hl⟩ : ∃ l, ll[i]? = some l := ⟨_, List.getElem?_eq_getElem hlt⟩
            obtain ⟨gA, gB, prA, prB, crA, crB, n, rfl, rfl, hnl, ce, cf, hk⟩ := hgg i x l hx (by rw [← HTH.out i hlt]; exact hx) hl
            have HK := Lib.hid hk
            have hlen := HL.out.2 l (List.mem_of_getElem? hl)
            have HCC := Lib.hid (And.intro ca (And.intro cb (And.intro ce cf)))
            have hlt' : decide ((i : Int) < (ll.length : Int)) = true := by simp; omega
            have i0 : (0 : Int) ≤ (i : Int) := by omega
            have i1 : (i : Int) < (ll.length : Int) := by omega
            clear hgg hk hx hl cb ce cf
            obtain ⟨wy, rfl⟩ : ∃ wy : World, wy = wr := ⟨_, rfl⟩
            go_wp2_with fail
            clear ca
            go_loopw [22] (fun i22 wx => ∃ k : Nat, i22 = .int .i64 k ∧ k ≤ n ∧ Hid (Below wy.heap.size wy wx)) (fun i22 _ => n - (intOf i22).toNat)
            case atStart => exact ⟨0, rfl, Nat.zero_le _, Below.refl _ _⟩
            case round =>
              obtain ⟨k, rfl, hk, HBW⟩ := hrel
              have ca := bcell HCC.out.1 HBW.out
              have cb := bcell HCC.out.2.1 HBW.out
              have ce := bcell HCC.out.2.2.1 HBW.out
              have cf := bcell HCC.out.2.2.2 HBW.out
              by_cases hkn : k < n
              · obtain ⟨y, gA2, gB2, pbA, pbB, vA, vB, rfl, rfl, e1, e2, e3, e4, e5, e6, e7⟩ := HK.out k hkn
                have HS : Hid (∀ wx, Below wr.heap.size wr wx → (wx.cell? ⟨wd, 2, none⟩ = some (.slice (some ⟨gA, 0, none⟩) ll.length cA) ∧ wx.cell? ⟨gA, i, none⟩ = some (.slice (some ⟨gA2, 0, none⟩) n crA) ∧ wx.cell? ⟨gA2, k, none⟩ = some (.pointer (some ⟨pbA, 0, none⟩)) ∧ wx.cell? ⟨pbA, 2, none⟩ = some vA ∧
                    wx.cell? ⟨wd2, 2, none⟩ = some (.slice (some ⟨gB, 0, none⟩) ll.length cB) ∧ wx.cell? ⟨gB, i, none⟩ = some (.slice (some ⟨gB2, 0, none⟩) n crB) ∧ wx.cell? ⟨gB2, k, none⟩ = some (.pointer (some ⟨pbB, 0, none⟩)) ∧ wx.cell? ⟨pbB, 2, none⟩ = some vB)) := fun wx hb => by
                  exact ⟨bcell ca hb, bcell ce hb, bcell (bcell e1 HBW.out) hb, bcell (bcell e3 HBW.out) hb, bcell cb hb, bcell cf hb, bcell (bcell e2 HBW.out) hb, bcell (bcell e4 HBW.out) hb⟩
                have HSAME : Hid (∀ wx, Below wr.heap.size wr wx → Calls Try.prog 30 #[vA, vB] wx fun e w' => e = .returned (.bool true) ∧ ∃ n, w' = wx.drewN n) := fun wx hb => SameU_yes ((e5.below HBW.out).below hb) ((e6.below HBW.out).below hb) e7
                have b1 : Below wr.heap.size wr wr.drew := (Below.refl _ _).drew
                have k0 : (0 : Int) ≤ (k : Int) := by omega
                have k1 : (k : Int) < (n : Int) := by omega
                have hkn' : decide ((k : Int) < (n : Int)) = true := by simp; omega
                obtain ⟨aA, nA, uA, rfl⟩ := e5.form
                obtain ⟨aB, nB, uB, rfl⟩ := e6.form
                clear e1 e2 e3 e4 e5 e6 e7 cb cf
                go_upto_region 41 with fail
                go_cut [223] (fun s223 wx => s223 = .bool false ∧ Hid (Below wr.heap.size wr wx))
                case first =>
                  go_region_held3 (fun wx => wx.cell? ⟨wd, 2, none⟩ = some (.slice (some ⟨gA, 0, none⟩) ll.length cA) ∧ wx.cell? ⟨gA, i, none⟩ = some (.slice (some ⟨gA2, 0, none⟩) n crA) ∧ wx.cell? ⟨gA2, k, none⟩ = some (.pointer (some ⟨pbA, 0, none⟩)) ∧ wx.cell? ⟨pbA, 2, none⟩ = some (.slice aA nA uA) ∧
                      wx.cell? ⟨wd2, 2, none⟩ = some (.slice (some ⟨gB, 0, none⟩) ll.length cB) ∧ wx.cell? ⟨gB, i, none⟩ = some (.slice (some ⟨gB2, 0, none⟩) n crB) ∧ wx.cell? ⟨gB2, k, none⟩ = some (.pointer (some ⟨pbB, 0, none⟩)) ∧ wx.cell? ⟨pbB, 2, none⟩ = some (.slice aB nB uB))
                    (exact HS.out _ (by assumption))
                    (((with_reducible refine (HSAME.out _ (by assumption)).mono ?_); rintro e w6 ⟨rfl, nq, hw6⟩; have hb6 : Below wr.heap.size wr w6 := (by rw [hw6]; exact bdr (by assumption) (Below.size (by assumption)) nq); clear hw6))

                  all_goals
                    go_wp2_with fail
                    go_meet
                    exact ⟨rfl, Lib.hid (by assumption)⟩
                case rest =>
                  obtain ⟨rfl, HB6'⟩ := hcut
                  have HB6 : Hid (Below wy.heap.size wy _) := HBW.out.trans (HB6'.out.mono HBW.out.size)
                  go_wp2_with fail
                  go_round
                  case rel => exact ⟨k + 1, by go_num, by omega, HB6⟩
                  case measure => simp [intOf]; omega
              · obtain rfl : k = n := by omega
                have hkn' : decide ((k : Int) < (k : Int)) = false := by simp
                have HT6 : Hid (Two W ll wd q L s1 s0 wd2 q2 L2 s2 s0 wr) := HTW.out.bl HBW.out
                clear cb cf
                go_wp2_with fail
                go_round
                case rel => exact ⟨i + 1, by go_num, by omega, HT6⟩
                case measure => simp [intOf]; omega
          · obtain rfl : i = ll.length := by omega
            have hlt' : decide ((ll.length : Int) < (ll.length : Int)) = false := by simp
            have HE : Hid (Below W.heap.size W wr) := HTW.out.bel
            clear cb hgg
            go_wp2_with fail
            go_ret
            exact ⟨rfl, H0.out.trans (HE.out.mono H0.out.size)⟩
end
end Go.Proofs.Ytkaplifhaafpdaa

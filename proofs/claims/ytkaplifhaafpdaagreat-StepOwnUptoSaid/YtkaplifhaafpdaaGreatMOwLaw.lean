/-
  StepOwn: what is told is the caller's: written over and grown, no list shows in another, nor in what is told later. No condition.
-/
import Derived.Test.YtkaplifhaafpdaaGreatMOwBook
namespace Go.Proofs.YtkaplifhaafpdaaGreat
open Go Go.RowKit
set_option linter.unusedSimpArgs false
set_option linter.unusedVariables false
theorem reads_at {w : World} {p : Option Addr} {c : Nat} {vs : List Int} (h : Reads w (.slice p vs.length c) (is64 vs)) {k : Nat} {x : Int} (hx : vs[k]? = some x) : ∃ b o, p = some ⟨b, o, none⟩ ∧ b < w.heap.size ∧ w.cell? ⟨b, o + k, none⟩ = some (.int .i64 x) := by
  obtain ⟨p', c', e, -, hc⟩ := h
  injection e with e1 _ _
  subst e1
  obtain ⟨b, o, e, hl, hx⟩ := hc k (.int .i64 x) (by simp [is64, hx])
  exact ⟨b, o, e, hl, hx⟩
section
variable {W w w' w1 : World} {ll : List (List Plan)} {wd q : Nat} {L : Lay} {s : St}
set_option maxHeartbeats 4000000 in
set_option maxRecDepth 100000 in
theorem StepOwn_any {tv : Value} {p : Option Addr} {c : Nat} {vs : List Int} (hp : PlansAt W tv ll) (hw : plansWt ll ≤ 1048576) (hf : ∀ l ∈ ll, ∀ y ∈ l, ∀ d ∈ y.l, d.fits) (h : Reads W (.slice p vs.length c) (is64 vs)) (hn : vs.length ≤ 1048576) :
    Calls Tryz.prog 3 #[tv, .slice p vs.length c] W fun e w' => e = .returned (.bool true) ∧ Below W.heap.size W w' := by
  have hl1 : ll.length ≤ 1048576 ∧ ∀ l ∈ ll, l.length ≤ 1048576 := plans_len hw
  have HL := Lib.hid hl1
  have HP := Lib.hid hp
  have HR := Lib.hid (fun (k : Nat) (x : Int) (hx : vs[k]? = some x) => reads_at h hx)
  have HF : Hid (tooMany ll = false → Fits ll) := fun e => fits_of e hw hf
  clear hp h hw hf hl1
  go_enter Tryz.func3, Tryz.ntmps3
  go_wp2_with fail
  refine (live_any _).mono ?_
  rintro e wl ⟨rfl, hbl⟩
  have HBL := Lib.hid hbl
  have HC := Lib.hid (both_any HP.out hbl HL.out.1 HL.out.2)
  clear hbl HP HL
  go_wp2_with fail
  refine HC.out.mono ?_
  clear HC
  rintro e wb (⟨-, ⟨wd, rfl⟩, hb⟩ | ⟨htm, wd, q, rfl, hb⟩)
  · have HB : Hid (Below W.heap.size W wb) := HBL.out.trans (hb.mono HBL.out.size)
    clear hb
    go_wp2
    go_ret
    exact ⟨rfl, HB.out⟩
  · have hn' := HF.out htm
    obtain ⟨L, U, _, hd, _, hb⟩ := hb.out.duo HBL.out.size
    have HT : Hid (KD W ll wd q L (St.start ll mem0) (St.start ll mem0) wb.heap.size 0 0 (wb.alloc (.cells (bookC (.slice none 0 0) (.slice none 0 0)) 51)) ∧ (St.start ll mem0).Good ll ∧ (St.start ll mem0).steps = 0) :=
      ⟨⟨U, hd.bl ((Below.refl _ _).alloc (Nat.le_refl _) _), KB.start (fun k hk => (hd.pos k hk).2) hd.bel.size⟩, start_good ll, rfl⟩
    clear hd hb htm HF HBL
    unfold bookC at HT
    go_wp2_with fail
    generalize wb.alloc (.cells #[.slice none 0 0, .slice none 0 0, .slice none 0 0, .slice none 0 0, .slice none 0 0, .slice none 0 0, .slice none 0 0, .slice none 0 0, .slice none 0 0, .slice none 0 0, .slice none 0 0, .slice none 0 0, .slice none 0 0, .slice none 0 0, .slice none 0 0, .slice none 0 0, .slice none 0 0, .slice none 0 0, .slice none 0 0, .slice none 0 0] 51) = w0 at *
    generalize wb.heap.size = bk at *
    go_loopw [9] (fun i9 wr => ∃ (i : Nat) (s : St), i9 = .int .i64 i ∧ i ≤ vs.length ∧ Hid (KD W ll wd q L s s bk (4 * i) (2 * i) wr ∧ s.Good ll ∧ s.steps = i)) (fun i9 _ => vs.length - (intOf i9).toNat)
    case atStart => exact ⟨0, _, rfl, Nat.zero_le _, HT⟩
    case round =>
      clear HT
      obtain ⟨i, s, rfl, hi, HT⟩ := hrel
      have hst : s.steps = i := HT.out.2.2
      by_cases hlt : i < vs.length
      · obtain ⟨x, hx⟩ : ∃ x, vs[i]? = some x := ⟨_, List.getElem?_eq_getElem hlt⟩
        obtain ⟨b, o, rfl, hbl, hbc⟩ := HR.out i x hx
        have HS : Hid (∀ wx s1 s2, Twin W ll wd q L s1 s2 wx → (wx.cell? ⟨wd, 1, none⟩ = some (.pointer (some ⟨L.rp, 0, none⟩)) ∧ wx.cell? ⟨b, o + i, none⟩ = some (.int .i64 x))) := fun wx s1 s2 hx => ⟨hx.cell1.2, (hx.bel.cell (p := ⟨b, o + i, none⟩) hbl).trans hbc⟩
        have HG1 : Hid ((s.one ll x).Good ll) := HT.out.2.1.one hn' HT.out.1.twin.oks.1 x
        have HS1 : Hid ((s.one ll x).steps = s.steps + 1) := one_steps (ll := ll) (s := s) x
        have HK0 : Hid (KD W ll wd q L s s bk (4 * i) (2 * i) wr.drew) := HT.out.1.bl (Below.refl _ _).drew
        have hd0 : Twin W ll wd q L s s wr.drew := HK0.out.twin
        have hle : Hid (s.steps ≤ 40000000 ∧ (s.one ll x).steps ≤ 40000000 ∧ 4 * i + 4 ≤ 10000000 ∧ 2 * i + 2 ≤ 10000000) := by
          have h1 := HS1.out
          refine Lib.hid ⟨?_, ?_, ?_, ?_⟩ <;> omega
        have d1 := (HS.out _ _ _ HT.out.1.twin).1
        clear hbc HT hx
        go_upto_region 10 with fail
        go_cut [41] (fun _ wx => Hid (KD W ll wd q L (s.one ll x) s bk (4 * i) (2 * i) wx))
        case first =>
          go_region_held3 (fun wx => wx.cell? ⟨wd, 1, none⟩ = some (.pointer (some ⟨L.rp, 0, none⟩)) ∧ wx.cell? ⟨b, o + i, none⟩ = some (.int .i64 x))
            (exact HS.out _ _ _ (by assumption))
            (((with_reducible refine (HK0.out.pickP hn' hle.out.1 x).mono ?_); rintro e w1 ⟨rfl, hk1⟩; have ht1 := hk1.out.twin))
          all_goals
            go_wp2_with fail
            go_meet
            exact hk1
        case rest =>
          have HK1 : Hid (KD W ll wd q L (s.one ll x) s bk (4 * i) (2 * i) _) := hcut
          clear hcut hd0 d1 HK0
          obtain ⟨d1, dk⟩ := HS.out _ _ _ HK1.out.twin
          have HZ := Lib.hid (HK1.out.pickZ hn' hle.out.1 x)
          clear HK1
          go_wp2_with fail
          refine HZ.out.mono ?_
          rintro e w2 ⟨rfl, HK2⟩
          clear d1 dk HZ
          have d2 := (HS.out _ _ _ HK2.out.twin).1
          have HC2 := Lib.hid (HK2.out.events hle.out.2.1 (by have := hle.out.2.2; omega))
          clear HK2
          go_wp2_with fail
          refine HC2.out.mono ?_
          rintro e w2a ⟨p2, n2, c2, rfl, HT2⟩
          have HU2 := Lib.hid (show Calls Tryz.prog _ _ _ _ from HT2.out)
          clear d2 HC2 HT2
          go_wp2_with fail
          refine HU2.out.mono ?_
          rintro e w3 ⟨rfl, HK3⟩
          clear HU2
          have d3 := (HS.out _ _ _ HK3.out.twin).1
          have HC3 := Lib.hid (HK3.out.events hle.out.2.1 (by have := hle.out.2.2; omega))
          clear HK3
          go_wp2_with fail
          refine HC3.out.mono ?_
          rintro e w3a ⟨p3, n3, c3, rfl, HT3⟩
          have HU3 := Lib.hid (show Calls Tryz.prog _ _ _ _ from HT3.out)
          clear d3 HC3 HT3
          go_wp2_with fail
          refine HU3.out.mono ?_
          rintro e w4 ⟨rfl, HK4⟩
          clear HU3
          have d4 := (HS.out _ _ _ HK4.out.twin).1
          have HC4 := Lib.hid (HK4.out.at hle.out.2.1 (by have := hle.out.2.2; omega))
          clear HK4
          go_wp2_with fail
          refine HC4.out.mono ?_
          rintro e w4a ⟨p4, n4, c4, rfl, HT4⟩
          have HU4 := Lib.hid (show Calls Tryz.prog _ _ _ _ from HT4.out)
          clear d4 HC4 HT4
          go_wp2_with fail
          refine HU4.out.mono ?_
          rintro e w5 ⟨rfl, HK5⟩
          clear HU4
          have d5 := (HS.out _ _ _ HK5.out.twin).1
          have HC5 := Lib.hid (HK5.out.at hle.out.2.1 (by have := hle.out.2.2; omega))
          clear HK5
          go_wp2_with fail
          refine HC5.out.mono ?_
          rintro e w5a ⟨p5, n5, c5, rfl, HT5⟩
          have HU5 := Lib.hid (show Calls Tryz.prog _ _ _ _ from HT5.out)
          clear d5 HC5 HT5
          go_wp2_with fail
          refine HU5.out.mono ?_
          rintro e w6 ⟨rfl, HK6⟩
          clear HU5
          have d6 := (HS.out _ _ _ HK6.out.twin).1
          have HC6 := Lib.hid (HK6.out.pending hn' (by have := hle.out.2.2; omega))
          clear HK6
          go_wp2_with fail
          refine HC6.out.mono ?_
          rintro e w6a ⟨p6, n6, c6, rfl, HT6⟩
          have HU6 := Lib.hid (show Calls Tryz.prog _ _ _ _ from HT6.out)
          clear d6 HC6 HT6
          go_wp2_with fail
          refine HU6.out.mono ?_
          rintro e w7 ⟨rfl, HK7⟩
          clear HU6
          have d7 := (HS.out _ _ _ HK7.out.twin).1
          have HC7 := Lib.hid (HK7.out.pending hn' (by have := hle.out.2.2; omega))
          clear HK7
          go_wp2_with fail
          refine HC7.out.mono ?_
          rintro e w7a ⟨p7, n7, c7, rfl, HT7⟩
          have HU7 := Lib.hid (show Calls Tryz.prog _ _ _ _ from HT7.out)
          clear d7 HC7 HT7
          go_wp2_with fail
          refine HU7.out.mono ?_
          rintro e w8 ⟨rfl, HK8⟩
          clear HU7
          have e1 : 4 * i + 1 + 1 + 1 + 1 = 4 * (i + 1) := by omega
          have e2 : 2 * i + 1 + 1 = 2 * (i + 1) := by omega
          rw [e1, e2] at HK8
          clear e1 e2
          go_wp2_with fail
          go_round
          case rel => exact ⟨i + 1, s.one ll x, by go_num, by omega, HK8.out, HG1.out, by rw [HS1.out, hst]⟩
          case measure => simp [intOf]; omega
      · have hie : i = vs.length := by omega
        have HA := Lib.hid (HT.out.1.alone (by omega) (by omega))
        have HG := Lib.hid HT.out.2.1
        clear HT
        go_wp2_with fail
        refine HA.out.mono ?_
        rintro e w5 ⟨rfl, HT5⟩
        go_wp2_with fail
        refine (Twin.alike HT5.out hn' (by omega) HG.out).mono ?_
        rintro e w6 ⟨rfl, ht6⟩
        have HB := Lib.hid ht6.bel
        clear ht6 HT5 HA
        go_wp2_with fail
        go_ret
        exact ⟨rfl, HB.out⟩
end
end Go.Proofs.YtkaplifhaafpdaaGreat

/-
  StepRuns: any picks at once, then so many in turn. No condition.
-/
import Derived.Test.YtkaplifhaafpdaaM36
namespace Go.Proofs.Ytkaplifhaafpdaa
open Go Go.RowKit
set_option linter.unusedSimpArgs false
set_option linter.unusedVariables false
section
variable {W w w' w1 : World} {ll : List (List Plan)} {wd q : Nat} {L : Lay} {s s1 s2 : St} {vs : List Int} {U : Nat → Prop}
theorem Duo.runP (h : Duo W ll wd q L s s2 w U) (hn : Fits ll) (hs : s.steps + vs.length ≤ 40000000) {v : Value} (hv : RdI w v vs) (hb : ∀ b o c, v = .slice (some ⟨b, o, none⟩) vs.length c → b < w.heap.size ∧ ¬ U b) :
    Calls Try.prog 28 #[.pointer (some ⟨L.rp, 0, none⟩), v] w fun e w' => e = .returned (.tuple #[]) ∧ ∃ U', Duo W ll wd q L (s.many ll vs) s2 w' U' ∧ Gk w w' U U' := by
  refine Run_any (s := s) (fun s1 w1 => ∃ U', Duo W ll wd q L s1 s2 w1 U' ∧ Gk w w1 U U') L.rp hv ⟨U, h, Gk.refl w U⟩ (by omega) ?_ ?_
  · rintro wx s1 ⟨U', _, k⟩ b o c e
    obtain ⟨h1, h2⟩ := hb b o c e
    exact k.fr.block b h1 h2
  · rintro wx k x hx ⟨U', hd, hk⟩
    have hkl := (List.getElem?_eq_some_iff.1 hx).1
    refine (hd.pickP hn (by rw [many_steps]; simp; omega) x).mono ?_
    rintro e w' ⟨rfl, U2, h2, k2⟩
    exact ⟨⟨_, rfl⟩, U2, by rw [many_take hx]; exact h2, hk.trans k2⟩
set_option maxHeartbeats 4000000 in
set_option maxRecDepth 100000 in
theorem StepRuns_any {tv : Value} {p : Option Addr} {c : Nat} (hp : PlansAt W tv ll) (hw : plansWt ll ≤ 1048576) (hf : ∀ l ∈ ll, ∀ y ∈ l, ∀ d ∈ y.l, d.fits) (h : Reads W (.slice p vs.length c) (is64 vs)) (hn : vs.length ≤ 1048576) (most : Int) :
    Calls Try.prog 8 #[tv, .slice p vs.length c, .int .i64 most] W fun e w' => e = .returned (.bool true) ∧ Below W.heap.size W w' := by
  have hl1 : ll.length ≤ 1048576 ∧ ∀ l ∈ ll, l.length ≤ 1048576 := plans_len hw
  have HL := Lib.hid hl1
  have HP := Lib.hid hp
  have HRD := Lib.hid h
  have HF : Hid (tooMany ll = false → Fits ll) := fun e => fits_of e hw hf
  have HW := Lib.hid hw
  clear hp h hw hf hl1
  go_enter Try.func8, Try.ntmps8
  go_wp2_with fail
  refine (live_any _).mono ?_
  rintro e wl ⟨rfl, hbl⟩
  have HBL := Lib.hid hbl
  have HC := Lib.hid (both_any HP.out hbl HL.out.1 HL.out.2)
  clear hbl HP HL
  go_wp2_with fail
  refine HC.out.mono ?_
  clear HC
  rintro e wb (⟨-, ⟨wd, rfl⟩, hb⟩ | ⟨htm, wd, q, rfl, hb⟩)
  · have HB : Hid (Below W.heap.size W wb) := HBL.out.trans (hb.mono HBL.out.size)
    clear hb
    go_wp2
    go_ret
    exact ⟨rfl, HB.out⟩
  · have hn' := HF.out htm
    obtain ⟨L, U, _, hd, _, hb⟩ := hb.out.duo HBL.out.size
    have HWB : Hid (Below W.heap.size W wb) := HBL.out.trans (hb.mono HBL.out.size)
    have HOK := Lib.hid hd.oks.2.1
    have HFINE := Lib.hid (start_fine HW.out vs hn' (by omega) hd.oks.2.1)
    have HD := Lib.hid hd
    have HC := Lib.hid (HandI_any (HRD.out.below HWB.out) hn)
    clear hd hb htm HF HBL
    go_wp2_with fail
    refine HC.out.mono ?_
    rintro e wh ⟨rfl, hB, hbh⟩
    have hd2 := HD.out.bl hbh
    have hnU : ¬ U wb.heap.size := fun e => by have := (HD.out.pos _ e).2; omega
    have HR := Lib.hid (hd2.runP hn' (by show 0 + vs.length ≤ _; omega) (RdI.blk hB (vs.length + 9)) (fun b o c e => by injection e with e _ _; injection e with e; injection e with e _ _; subst e; exact ⟨hB.lt, hnU⟩))
    have HBH := Lib.hid hB
    have d1 : wh.cell? ⟨wd, 1, none⟩ = some (.pointer (some ⟨L.rp, 0, none⟩)) := (Twin.cell1 ⟨U, hd2⟩).2
    clear HC hd2 hB hbh HD
    go_wp2_with fail
    refine HR.out.mono ?_
    rintro e wr ⟨rfl, U', hd3, hk3⟩
    have hB3 : Blk wr wb.heap.size 3 (is64 (vs ++ marksI)).toArray := HBH.out.fr hk3.fr hnU
    have HC := Lib.hid (KeptI_any hB3 (RdI.of (HRD.out.below hd3.bel)) hn)
    have HT := Lib.hid (fun n => hd3.drawn n)
    clear hd3 hk3 hB3 HR HBH d1 hnU
    go_wp2_with fail
    refine HC.out.mono ?_
    rintro e wk ⟨rfl, n, rfl⟩
    have HT2 : Hid (Twin W ll wd q L ((St.start ll mem0).many ll vs) ((St.start ll mem0).many ll (vs.take 0)) (wr.drewN n)) := ⟨U', HT.out n⟩
    clear HT HC
    generalize hs0 : St.start ll mem0 = s0 at *
    have h00 : s0.steps = 0 := by rw [← hs0]; rfl
    clear hs0
    go_wp2_with fail
    go_loopw [11] (fun i11 wx => ∃ k : Nat, i11 = .int .i64 k ∧ k ≤ vs.length ∧ Hid (Twin W ll wd q L (s0.many ll vs) (s0.many ll (vs.take k)) wx)) (fun i11 _ => vs.length - (intOf i11).toNat)
    case atStart => exact ⟨0, rfl, Nat.zero_le _, HT2⟩
    case round =>
      clear HT2
      obtain ⟨k, rfl, hk, HT⟩ := hrel
      by_cases hlt : k < vs.length
      · obtain ⟨x, hx⟩ : ∃ x, vs[k]? = some x := ⟨_, List.getElem?_eq_getElem hlt⟩
        obtain ⟨b, o, rfl, hbl, hbc⟩ := reads_at (HRD.out.below HT.out.bel) hx
        have HC := Lib.hid (HT.out.pickZ hn' (by rw [many_steps]; simp; omega) x)
        rw [← many_take hx] at HC
        clear HT hx
        go_wp2_with fail
        refine HC.out.mono ?_
        rintro e w2 ⟨rfl, ht⟩
        have HT := Lib.hid ht
        clear ht HC
        go_wp2_with fail
        go_roundw
        case rel => exact ⟨k + 1, by go_num, by omega, HT⟩
        case measure => simp [intOf]; omega
      · obtain rfl : k = vs.length := by omega
        rw [List.take_length] at HT
        obtain ⟨_, _, hb⟩ := HFINE.out
        have HC := Lib.hid (HT.out.alike hn' (by omega) HFINE.out.2.1)
        clear hb HT
        generalize s0.many ll vs = s1 at *
        go_wp2_with fail
        refine HC.out.mono ?_
        rintro e w2 ⟨rfl, ht⟩
        have HT2 := Lib.hid ht
        clear ht HC
        go_wp2_with fail
        go_loopw [12] (fun i12 wx => ∃ (k : Nat) (s : St), i12 = .int .i64 k ∧ k ≤ 3 ∧ Hid (Twin W ll wd q L s s wx) ∧ Hid (s.Fine ll)) (fun i12 _ => 3 - (intOf i12).toNat)
        case atStart => exact ⟨0, s1, rfl, by omega, HT2, HFINE⟩
        case round =>
          clear HT2 HFINE
          obtain ⟨k, s, rfl, hk, HT, HFINE⟩ := hrel
          by_cases hlt : k < 3
          · have d1 := HT.out.cell1.2
            have HC := Lib.hid (HT.out.finP hn' most HFINE.out)
            clear HT
            go_wp2_with fail
            refine HC.out.mono ?_
            rintro e w3 ⟨b1, s1', rfl, ht1, f1, hr1⟩
            have HC2 := Lib.hid (ht1.finZ hn' most HFINE.out)
            have HR1 := Lib.hid hr1
            clear ht1 HC d1 hr1
            go_wp2_with fail
            refine HC2.out.mono ?_
            rintro e w4 ⟨b2, s2', rfl, ht2, f2, hr2⟩
            have he := fin_one HR1.out hr2
            injection he with he1 he2
            subst he1 he2
            have HFI := Lib.hid (rfin_fine hn' HFINE.out hr2)
            have hb := HFI.out.2.2
            have HC := Lib.hid (ht2.alike hn' (by omega) HFI.out.2.1)
            clear ht2 hr2 HR1 HC2 HFINE hb
            cases b1
            all_goals
              go_wp2_with fail
              refine HC.out.mono ?_
              rintro e w5 ⟨rfl, ht5⟩
              have HT5 := Lib.hid ht5
              clear ht5
              go_wp2_with fail
              go_roundw
              case rel => exact ⟨k + 1, s1', by go_num, by omega, HT5, HFI⟩
              case measure => simp [intOf]; omega
          · have HB := Lib.hid HT.out.bel
            clear HT
            go_wp2
            go_ret
            exact ⟨rfl, HB.out⟩
end
end Go.Proofs.Ytkaplifhaafpdaa

/-
  CameraAhead: of two calls, the one behind the other, neither has a smaller stamp than the one ahead. No condition.
-/
import Derived.Test.YtfbdgodebeggbaaCamLaw
import Derived.Test.YtfbdgodebeggbaaCamPlain2
import Derived.Deep.QuietTactic
import Derived.BigQuiet
namespace Go.Proofs.Ytfbdgodebeggbaa
open Go Go.RowKit
set_option linter.unusedSimpArgs false
set_option linter.unusedVariables false
section
variable {w w' : World} {bm j n : Nat} {allv u : Value} {cs : List CS} {A : Mem} {c : CS} {picks : List Int} {th : List (List (Bool × Int))} {lab : Nat → Nat} {P : RP} {s : RS} {m : Nat}
set_option maxHeartbeats 4000000 in
set_option maxRecDepth 100000 in
theorem CameraAhead_any (cell first : Int) (tv pv : Value) (w : World) (h0 : 0 ≤ cell) (ht : ThreadsAt w tv th) (hp : PicksAt w pv picks) (hn : FitsT th) (hk : picks.length ≤ 1048576) (hf0 : 0 ≤ first) (hf1 : first ≤ 18446744073709551615) :
    Calls Try.prog 6 #[.agg #[.int .u64 cell, .int .u64 first, tv, pv]] w fun e w' => e = .returned (.bool true) ∧ Below w.heap.size w w' := by
  have HT := Lib.hid ht
  have HP := Lib.hid hp
  obtain ⟨tp, tc, rfl, -⟩ := ht
  obtain ⟨pp, pc, rfl, -⟩ := hp
  go_enter Try.func6, Try.ntmps6
  go_wp2_with fail
  have hbx := Blk.made w 42 #[.int .u64 cell, .int .u64 first, .slice tp th.length tc, .slice pp picks.length pc]
  have b1 := (Below.refl w.heap.size w).alloc (Nat.le_refl _) (.cells #[.int .u64 cell, .int .u64 first, .slice tp th.length tc, .slice pp picks.length pc] 42)
  generalize hw1 : w.alloc _ = w1 at *
  clear hw1
  refine (live8_any _).mono ?_
  rintro e w2 ⟨rfl, b2⟩
  have hbx2 := hbx.below b2
  have b12 := b1.trans (b2.mono b1.size)
  have c0 : w2.cell? ⟨w.heap.size, 0, none⟩ = some _ := hbx2.cell 0
  have c1 : w2.cell? ⟨w.heap.size, 1, none⟩ = some _ := hbx2.cell 1
  have c2 : w2.cell? ⟨w.heap.size, 2, none⟩ = some _ := hbx2.cell 2
  have c3 : w2.cell? ⟨w.heap.size, 3, none⟩ = some _ := hbx2.cell 3
  have HR := Lib.hid (ran_fin cell first _ _ w2 h0 (HT.out.below b12) (HP.out.below b12) hn hk)
  clear hbx b1 b2
  go_wp2_with fail
  refine HR.out.mono ?_
  rintro e w3 ⟨bm, p, cap, rfl, hF, b3⟩
  have hbx3 := hbx2.below b3
  have b13 := b12.trans (b3.mono b12.size)
  have hlen : (RS.upto cell first th picks picks.length).A.cells.length = 128 := (upto_ri (first := first) h0 th picks picks.length).cells
  have hal := upto_all_le cell first th picks picks.length
  have LAW := Lib.hid (fun h1 => ahead_law h0 h1 hf0 hf1 hn.2.2 picks picks.length)
  generalize (RS.upto cell first th picks picks.length).all = cs at *
  generalize (RS.upto cell first th picks picks.length).A = A at *
  clear HR c0 c1 c2 c3 HT HP hbx2 b3 b12
  have HC := Lib.hid (fun n => (show (w3.drewN n).cell? ⟨w.heap.size, 0, none⟩ = some (.int .u64 cell) ∧ (w3.drewN n).cell? ⟨w.heap.size, 1, none⟩ = some (.int .u64 first) from ⟨hbx3.cell 0, hbx3.cell 1⟩))
  have c0 : w3.cell? ⟨w.heap.size, 0, none⟩ = some (.int .u64 cell) := hbx3.cell 0
  have HPK : Hid (∀ n, Calls Try.prog 27 #[.pointer (some ⟨bm, 0, none⟩), .int .u64 cell] (w3.drewN n) fun e w' => e = .returned (.int .u64 (A.peek cell)) ∧ w3.drewN n = w') := by
    intro n
    obtain ⟨F, q, r, tv, rows, hx⟩ := (hF.drawn n).mem
    exact peek_any hx cell h0 (by omega)
  have HFN := Lib.hid hF
  have HB : Hid (∀ n, Below w.heap.size w (w3.drewN n)) := fun n => ⟨b13.os, b13.tape, b13.output, b13.size, b13.block⟩
  clear hF b13 hbx3 hlen
  by_cases h1 : cell < 128
  · have t1 : decide ((128 : Int) ≤ cell) = false := by simp; omega
    obtain ⟨L1, L2⟩ := LAW.out h1
    generalize A.peek cell = V at *
    have HL1 := Lib.hid L1
    have HL2 := Lib.hid L2
    clear L1 L2 LAW
    go_wp2_with fail
    go_loopw [6] (fun i wr => ∃ k n : Nat, i = .int .i64 k ∧ k ≤ cs.length ∧ wr = w3.drewN n) (fun i _ => cs.length - (intOf i).toNat)
    case atStart => exact ⟨0, 0, rfl, Nat.zero_le _, rfl⟩
    case round =>
      obtain ⟨k, na, rfl, hk2, rfl⟩ := hrel
      by_cases hlt : k < cs.length
      · obtain ⟨a, ha⟩ : ∃ a, cs[k]? = some a := ⟨_, List.getElem?_eq_getElem hlt⟩
        have ham : a ∈ cs := List.mem_of_getElem? ha
        obtain ⟨g, cap', pa, npa, tpa, hv', d1, hP, hN, hT⟩ := (HFN.out.drawn na).at ha
        injection hv' with e1 e2 e3
        subst e1 e3
        have p0 : (w3.drewN na).cell? ⟨pa, 0, none⟩ = some (.bool a.isNow) := Blk.cell hP 0
        have p2 : (w3.drewN na).cell? ⟨pa, 2, none⟩ = some (.pointer (some ⟨npa, 0, none⟩)) := Blk.cell hP 2
        have p3 : (w3.drewN na).cell? ⟨pa, 3, none⟩ = some (.pointer (some ⟨tpa, 0, none⟩)) := Blk.cell hP 3
        have p15 : (w3.drewN na).cell? ⟨pa, 15, none⟩ = some (.int .i64 a.to) := Blk.cell hP 15
        have HA15 : Hid (∀ n', ((w3.drewN na).drewN n').cell? ⟨pa, 15, none⟩ = some (.int .i64 a.to) ∧ ((w3.drewN na).drewN n').cell? ⟨pa, 0, none⟩ = some (.bool a.isNow)) := fun n' => ⟨Blk.cell hP 15, Blk.cell hP 0⟩
        have HNS := Lib.hid (Now_Stamp_any hN)
        have HTS := Lib.hid (Take_Stamp_any hT)
        have HTE := Lib.hid (Take_Errno_any hT)
        clear hN hT hP
        have HW : Hid (∀ n', ∃ n'', (w3.drewN na).drewN n' = w3.drewN n'') := fun n' => ⟨na + n', by simp [World.drewN, Nat.add_assoc]⟩
        by_cases hto : a.to < 0
        · have t2 : decide (a.to < 0) = true := by simpa using hto
          go_wp2_with fail
          go_roundw
          case rel => exact ⟨k + 1, na, by go_num, by omega, by trivial⟩
          case measure => simp [intOf]; omega
        · have t2 : decide (a.to < 0) = false := by simpa using hto
          cases hb : a.isNow
          · rw [hb] at p0
            by_cases he : a.t.e = 0
            · rw [he] at HTE
              have hta : a.told = true := by simp [CS.told, hb, he]; omega
              obtain ⟨q1, q2⟩ := HL1.out a ham hta hb
              have hsay : a.say = a.t.stamp := by simp [CS.say, hb]
              have t3 : decide (a.t.stamp < first) = false := by simp; omega
              have t4 : decide (V ≤ a.t.stamp) = false := by simp; omega
              have HIN : Hid (∀ b ∈ cs, b.told = true → a.to < b.fr → a.t.stamp < b.say) := fun b hb2 ht2 hlt2 => by rw [← hsay]; exact (HL2.out a ham hta b hb2 ht2 hlt2).2 hb
              generalize a.t.stamp = sa at *
              go_wp2_with fail
              refine HTE.out.mono ?_
              rintro e w' ⟨rfl, rfl⟩
              go_wp2_with fail
              refine HNS.out.mono ?_
              rintro e w' ⟨rfl, rfl⟩
              go_wp2_with fail
              refine HTS.out.mono ?_
              rintro e w' ⟨rfl, rfl⟩
              obtain ⟨cc0, cc1⟩ := HC.out na
              go_wp2_with fail
              refine (HPK.out na).mono ?_
              rintro e w' ⟨rfl, rfl⟩
              go_wp2_with fail
              clear p0 p2 p3 p15 d1
              go_loopw [9] (fun i wx => ∃ kb nb : Nat, i = .int .i64 kb ∧ kb ≤ cs.length ∧ wx = (w3.drewN na).drewN nb) (fun i _ => cs.length - (intOf i).toNat)
              case atStart => exact ⟨0, 0, rfl, Nat.zero_le _, rfl⟩
              case round =>
                obtain ⟨kb, nb, rfl, hkb2, rfl⟩ := hrel
                by_cases hltb : kb < cs.length
                · obtain ⟨b, hcb⟩ : ∃ b, cs[kb]? = some b := ⟨_, List.getElem?_eq_getElem hltb⟩
                  have hbm : b ∈ cs := List.mem_of_getElem? hcb
                  obtain ⟨gb, capb, pb, npb, tpb, hvb, db1, hPb, hNb, hTb⟩ := ((HFN.out.drawn na).drawn nb).at hcb
                  injection hvb with e1 e2 e3
                  injection e1 with e1
                  injection e1 with e1
                  subst e1 e3
                  obtain ⟨pa15, pa0⟩ := HA15.out nb
                  generalize hwb : (w3.drewN na).drewN nb = wb at *
                  have HWB := Lib.hid hwb
                  clear hwb
                  rw [hb] at pa0
                  have p0 : wb.cell? ⟨pb, 0, none⟩ = some (.bool b.isNow) := Blk.cell hPb 0
                  have p2 : wb.cell? ⟨pb, 2, none⟩ = some (.pointer (some ⟨npb, 0, none⟩)) := Blk.cell hPb 2
                  have p3 : wb.cell? ⟨pb, 3, none⟩ = some (.pointer (some ⟨tpb, 0, none⟩)) := Blk.cell hPb 3
                  have p14 : wb.cell? ⟨pb, 14, none⟩ = some (.int .i64 b.fr) := Blk.cell hPb 14
                  have p15 : wb.cell? ⟨pb, 15, none⟩ = some (.int .i64 b.to) := Blk.cell hPb 15
                  have q0 : ∀ n, (wb.drewN n).cell? ⟨pb, 0, none⟩ = some (.bool b.isNow) := fun n => p0
                  have q2 : ∀ n, (wb.drewN n).cell? ⟨pb, 2, none⟩ = some (.pointer (some ⟨npb, 0, none⟩)) := fun n => p2
                  have q3 : ∀ n, (wb.drewN n).cell? ⟨pb, 3, none⟩ = some (.pointer (some ⟨tpb, 0, none⟩)) := fun n => p3
                  have qa : ∀ n, (wb.drewN n).cell? ⟨pa, 0, none⟩ = some (.bool false) := fun n => pa0
                  by_cases hfr : b.fr ≤ a.to
                  · have t5 : decide (b.fr ≤ a.to) = true := by simpa using hfr
                    go_wp2_with fail
                    go_quiet ((go_at_call 21; exact Calls.quiet_of_same ((Take_Errno_any (w := wb.drewN _) (Blk.drawn hTb _)).mono fun _ _ hh => ⟨hh.1, hh.2.symm⟩)))
                    all_goals
                      go_wp2_with fail
                      go_roundw
                      case rel => exact ⟨kb + 1, nb + nq, by go_num, by omega, by rw [← HWB.out]; simp [World.drewN, Nat.add_assoc]⟩
                      case measure => simp [intOf]; omega
                  · have t5 : decide (b.fr ≤ a.to) = false := by simpa using hfr
                    by_cases htb : b.to < 0
                    · have t6 : decide (b.to < 0) = true := by simpa using htb
                      go_wp2_with fail
                      go_quiet ((go_at_call 21; exact Calls.quiet_of_same ((Take_Errno_any (w := wb.drewN _) (Blk.drawn hTb _)).mono fun _ _ hh => ⟨hh.1, hh.2.symm⟩)))
                      all_goals
                        go_wp2_with fail
                        go_roundw
                        case rel => exact ⟨kb + 1, nb + nq, by go_num, by omega, by rw [← HWB.out]; simp [World.drewN, Nat.add_assoc]⟩
                        case measure => simp [intOf]; omega
                    · have t6 : decide (b.to < 0) = false := by simpa using htb
                      cases hbb : b.isNow
                      · rw [hbb] at p0 q0
                        by_cases heb : b.t.e = 0
                        · have HBS : Hid (b.say = b.t.stamp) := by show _ = _; simp [CS.say, hbb]
                          have hlaw := HIN.out b hbm (by simp [CS.told, hbb, heb]; omega) (by omega)
                          rw [HBS.out] at hlaw
                          have HTSb := Lib.hid (fun n => Take_Stamp_any (Blk.drawn hTb n))
                          have HNSb := Lib.hid (fun n => Now_Stamp_any (Blk.drawn hNb n))
                          have HTEb := fun n => Take_Errno_any (w := wb.drewN n) (Blk.drawn hTb n)
                          rw [heb] at HTEb
                          have HTEb := Lib.hid HTEb
                          generalize b.t.stamp = bz at *
                          have t7 : decide (bz < sa) = false := by simp; omega
                          have t8 : decide (bz ≤ sa) = false := by simp; omega
                          clear hlaw heb hfr htb hNb hTb hPb
                          go_wp2_with fail
                          go_quiet ((go_at_call 21; exact Calls.quiet_of_same ((HTEb.out _).mono fun _ _ hh => ⟨hh.1, hh.2.symm⟩)))
                          all_goals
                            go_wp2_with fail
                            refine (HNSb.out _).mono ?_
                            rintro e w' ⟨rfl, rfl⟩
                            go_wp2_with fail
                            refine (HTSb.out _).mono ?_
                            rintro e w' ⟨rfl, rfl⟩
                            go_wp2_with fail
                            go_roundw
                            case rel => exact ⟨kb + 1, nb + nq, by go_num, by omega, by rw [← HWB.out]; simp [World.drewN, Nat.add_assoc]⟩
                            case measure => simp [intOf]; omega
                        · have t7 : (b.t.e != 0) = true := by simpa using heb
                          have t8 : (b.t.e == 0) = false := by simpa using heb
                          go_wp2_with fail
                          go_quiet ((go_at_call 21; exact Calls.quiet_of_same ((Take_Errno_any (w := wb.drewN _) (Blk.drawn hTb _)).mono fun _ _ hh => ⟨hh.1, hh.2.symm⟩)))
                          all_goals
                            go_wp2_with fail
                            go_roundw
                            case rel => exact ⟨kb + 1, nb + nq, by go_num, by omega, by rw [← HWB.out]; simp [World.drewN, Nat.add_assoc]⟩
                            case measure => simp [intOf]; omega
                      · rw [hbb] at p0 q0
                        have HBS : Hid (b.say = b.n.t) := by show _ = _; simp [CS.say, hbb]
                        have hlaw := HIN.out b hbm (by simp [CS.told, hbb]; omega) (by omega)
                        rw [HBS.out] at hlaw
                        have HNSb := Lib.hid (fun n => Now_Stamp_any (Blk.drawn hNb n))
                        generalize b.n.t = bz at *
                        have t7 : decide (bz < sa) = false := by simp; omega
                        have t8 : decide (bz ≤ sa) = false := by simp; omega
                        clear hlaw hfr htb hPb
                        go_wp2_with fail
                        go_quiet ((go_at_call 21; exact Calls.quiet_of_same ((Take_Errno_any (w := wb.drewN _) (Blk.drawn hTb _)).mono fun _ _ hh => ⟨hh.1, hh.2.symm⟩)))
                        all_goals
                          go_wp2_with fail
                          refine (HNSb.out _).mono ?_
                          rintro e w' ⟨rfl, rfl⟩
                          go_wp2_with fail
                          go_roundw
                          case rel => exact ⟨kb + 1, nb + nq, by go_num, by omega, by rw [← HWB.out]; simp [World.drewN, Nat.add_assoc]⟩
                          case measure => simp [intOf]; omega
                · go_wp2_with fail
                  go_roundw
                  case rel => exact ⟨k + 1, na + nb, by go_num, by omega, by first | trivial | (simp [World.drewN, Nat.add_assoc]; done)⟩
                  case measure => simp [intOf]; omega
            · have t3 : (a.t.e != 0) = true := by simpa using he
              have t4 : (a.t.e == 0) = false := by simpa using he
              go_wp2_with fail
              refine HTE.out.mono ?_
              rintro e w' ⟨rfl, rfl⟩
              go_wp2_with fail
              go_roundw
              case rel => exact ⟨k + 1, na, by go_num, by omega, by trivial⟩
              case measure => simp [intOf]; omega
          · rw [hb] at p0
            have hta : a.told = true := by simp [CS.told, hb]; omega
            have hsay : a.say = a.n.t := by simp [CS.say, hb]
            have HIN : Hid (∀ b ∈ cs, b.told = true → a.to < b.fr → a.n.t ≤ b.say) := fun b hb2 ht2 hlt2 => by rw [← hsay]; exact (HL2.out a ham hta b hb2 ht2 hlt2).1
            generalize a.n.t = sa at *
            go_wp2_with fail
            refine HNS.out.mono ?_
            rintro e w' ⟨rfl, rfl⟩
            go_wp2_with fail
            clear p0 p2 p3 p15 d1
            go_loopw [9] (fun i wx => ∃ kb nb : Nat, i = .int .i64 kb ∧ kb ≤ cs.length ∧ wx = (w3.drewN na).drewN nb) (fun i _ => cs.length - (intOf i).toNat)
            case atStart => exact ⟨0, 0, rfl, Nat.zero_le _, rfl⟩
            case round =>
              obtain ⟨kb, nb, rfl, hkb2, rfl⟩ := hrel
              by_cases hltb : kb < cs.length
              · obtain ⟨b, hcb⟩ : ∃ b, cs[kb]? = some b := ⟨_, List.getElem?_eq_getElem hltb⟩
                have hbm : b ∈ cs := List.mem_of_getElem? hcb
                obtain ⟨gb, capb, pb, npb, tpb, hvb, db1, hPb, hNb, hTb⟩ := ((HFN.out.drawn na).drawn nb).at hcb
                injection hvb with e1 e2 e3
                injection e1 with e1
                injection e1 with e1
                subst e1 e3
                obtain ⟨pa15, pa0⟩ := HA15.out nb
                generalize hwb : (w3.drewN na).drewN nb = wb at *
                have HWB := Lib.hid hwb
                clear hwb
                rw [hb] at pa0
                have p0 : wb.cell? ⟨pb, 0, none⟩ = some (.bool b.isNow) := Blk.cell hPb 0
                have p2 : wb.cell? ⟨pb, 2, none⟩ = some (.pointer (some ⟨npb, 0, none⟩)) := Blk.cell hPb 2
                have p3 : wb.cell? ⟨pb, 3, none⟩ = some (.pointer (some ⟨tpb, 0, none⟩)) := Blk.cell hPb 3
                have p14 : wb.cell? ⟨pb, 14, none⟩ = some (.int .i64 b.fr) := Blk.cell hPb 14
                have p15 : wb.cell? ⟨pb, 15, none⟩ = some (.int .i64 b.to) := Blk.cell hPb 15
                have q0 : ∀ n, (wb.drewN n).cell? ⟨pb, 0, none⟩ = some (.bool b.isNow) := fun n => p0
                have q2 : ∀ n, (wb.drewN n).cell? ⟨pb, 2, none⟩ = some (.pointer (some ⟨npb, 0, none⟩)) := fun n => p2
                have q3 : ∀ n, (wb.drewN n).cell? ⟨pb, 3, none⟩ = some (.pointer (some ⟨tpb, 0, none⟩)) := fun n => p3
                have qa : ∀ n, (wb.drewN n).cell? ⟨pa, 0, none⟩ = some (.bool true) := fun n => pa0
                by_cases hfr : b.fr ≤ a.to
                · have t5 : decide (b.fr ≤ a.to) = true := by simpa using hfr
                  go_wp2_with fail
                  go_quiet ((go_at_call 21; exact Calls.quiet_of_same ((Take_Errno_any (w := wb.drewN _) (Blk.drawn hTb _)).mono fun _ _ hh => ⟨hh.1, hh.2.symm⟩)))
                  all_goals
                    go_wp2_with fail
                    go_roundw
                    case rel => exact ⟨kb + 1, nb + nq, by go_num, by omega, by rw [← HWB.out]; simp [World.drewN, Nat.add_assoc]⟩
                    case measure => simp [intOf]; omega
                · have t5 : decide (b.fr ≤ a.to) = false := by simpa using hfr
                  by_cases htb : b.to < 0
                  · have t6 : decide (b.to < 0) = true := by simpa using htb
                    go_wp2_with fail
                    go_quiet ((go_at_call 21; exact Calls.quiet_of_same ((Take_Errno_any (w := wb.drewN _) (Blk.drawn hTb _)).mono fun _ _ hh => ⟨hh.1, hh.2.symm⟩)))
                    all_goals
                      go_wp2_with fail
                      go_roundw
                      case rel => exact ⟨kb + 1, nb + nq, by go_num, by omega, by rw [← HWB.out]; simp [World.drewN, Nat.add_assoc]⟩
                      case measure => simp [intOf]; omega
                  · have t6 : decide (b.to < 0) = false := by simpa using htb
                    cases hbb : b.isNow
                    · rw [hbb] at p0 q0
                      by_cases heb : b.t.e = 0
                      · have HBS : Hid (b.say = b.t.stamp) := by show _ = _; simp [CS.say, hbb]
                        have hlaw := HIN.out b hbm (by simp [CS.told, hbb, heb]; omega) (by omega)
                        rw [HBS.out] at hlaw
                        have HTSb := Lib.hid (fun n => Take_Stamp_any (Blk.drawn hTb n))
                        have HNSb := Lib.hid (fun n => Now_Stamp_any (Blk.drawn hNb n))
                        have HTEb := fun n => Take_Errno_any (w := wb.drewN n) (Blk.drawn hTb n)
                        rw [heb] at HTEb
                        have HTEb := Lib.hid HTEb
                        generalize b.t.stamp = bz at *
                        have t7 : decide (bz < sa) = false := by simp; omega
                        clear hlaw heb hfr htb hNb hTb hPb
                        go_wp2_with fail
                        go_quiet ((go_at_call 21; exact Calls.quiet_of_same ((HTEb.out _).mono fun _ _ hh => ⟨hh.1, hh.2.symm⟩)))
                        all_goals
                          go_wp2_with fail
                          refine (HNSb.out _).mono ?_
                          rintro e w' ⟨rfl, rfl⟩
                          go_wp2_with fail
                          refine (HTSb.out _).mono ?_
                          rintro e w' ⟨rfl, rfl⟩
                          go_wp2_with fail
                          go_roundw
                          case rel => exact ⟨kb + 1, nb + nq, by go_num, by omega, by rw [← HWB.out]; simp [World.drewN, Nat.add_assoc]⟩
                          case measure => simp [intOf]; omega
                      · have t7 : (b.t.e != 0) = true := by simpa using heb
                        have t8 : (b.t.e == 0) = false := by simpa using heb
                        go_wp2_with fail
                        go_quiet ((go_at_call 21; exact Calls.quiet_of_same ((Take_Errno_any (w := wb.drewN _) (Blk.drawn hTb _)).mono fun _ _ hh => ⟨hh.1, hh.2.symm⟩)))
                        all_goals
                          go_wp2_with fail
                          go_roundw
                          case rel => exact ⟨kb + 1, nb + nq, by go_num, by omega, by rw [← HWB.out]; simp [World.drewN, Nat.add_assoc]⟩
                          case measure => simp [intOf]; omega
                    · rw [hbb] at p0 q0
                      have HBS : Hid (b.say = b.n.t) := by show _ = _; simp [CS.say, hbb]
                      have hlaw := HIN.out b hbm (by simp [CS.told, hbb]; omega) (by omega)
                      rw [HBS.out] at hlaw
                      have HNSb := Lib.hid (fun n => Now_Stamp_any (Blk.drawn hNb n))
                      generalize b.n.t = bz at *
                      have t7 : decide (bz < sa) = false := by simp; omega
                      clear hlaw hfr htb hPb
                      go_wp2_with fail
                      go_quiet ((go_at_call 21; exact Calls.quiet_of_same ((Take_Errno_any (w := wb.drewN _) (Blk.drawn hTb _)).mono fun _ _ hh => ⟨hh.1, hh.2.symm⟩)))
                      all_goals
                        go_wp2_with fail
                        refine (HNSb.out _).mono ?_
                        rintro e w' ⟨rfl, rfl⟩
                        go_wp2_with fail
                        go_roundw
                        case rel => exact ⟨kb + 1, nb + nq, by go_num, by omega, by rw [← HWB.out]; simp [World.drewN, Nat.add_assoc]⟩
                        case measure => simp [intOf]; omega
              · go_wp2_with fail
                go_roundw
                case rel => exact ⟨k + 1, na + nb, by go_num, by omega, by first | trivial | (simp [World.drewN, Nat.add_assoc]; done)⟩
                case measure => simp [intOf]; omega
      · go_wp2_with fail
        go_ret
        exact ⟨rfl, HB.out na⟩
  · have t1 : decide ((128 : Int) ≤ cell) = true := by simp; omega
    go_wp2_with fail
    go_ret
    exact ⟨rfl, HB.out 0⟩
end
end Go.Proofs.Ytfbdgodebeggbaa

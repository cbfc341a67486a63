/-
  StepNone: nil runners, procs and views. No condition.
-/
import Derived.Test.YtkaplifhaafpdaaStLoads
namespace Go.Proofs.Ytkaplifhaafpdaa
open Go Go.RowKit
set_option linter.unusedSimpArgs false
set_option linter.unusedVariables false
theorem reads_int {w : World} {p : Option Addr} {c : Nat} {vs : List Int} (h : Reads w (.slice p vs.length c) (is64 vs)) {k : Nat} (hk : k < vs.length) : ∃ b o x, p = some ⟨b, o, none⟩ ∧ w.cell? ⟨b, o + k, none⟩ = some (.int .i64 x) := by
  obtain ⟨p', c', e, -, hc⟩ := h
  injection e with e1 _ _
  subst e1
  obtain ⟨b, o, e, -, hx⟩ := hc k (.int .i64 vs[k]) (by simp [is64, hk])
  exact ⟨b, o, _, e, hx⟩
theorem Row_Step_nil (w : World) (v : Value) : Calls Try.prog 35 #[.pointer none, v] w fun e w' => e = .returned (.bool true) ∧ w = w' := by
  go_enter Try.func35, Try.ntmps35
  go_wp2
  go_ret
  exact ⟨rfl, rfl⟩
set_option maxRecDepth 100000 in
theorem Run_nil {w : World} {p : Option Addr} {c : Nat} {vs : List Int} (h : Reads w (.slice p vs.length c) (is64 vs)) (hn : vs.length ≤ 1000000000) : Calls Try.prog 28 #[.pointer none, .slice p vs.length c] w fun e w' => e = .returned (.tuple #[]) ∧ w = w' := by
  have H := Lib.hid h
  clear h
  go_enter Try.func28, Try.ntmps28
  go_wp2_with fail
  go_loopw [8] (fun i wr => ∃ k : Nat, i = .int .i64 k ∧ k ≤ vs.length ∧ wr = w) (fun i _ => vs.length - (intOf i).toNat)
  case atStart => exact ⟨0, rfl, Nat.zero_le _, rfl⟩
  case round =>
    obtain ⟨k, rfl, hk, rfl⟩ := hrel
    by_cases hlt : k < vs.length
    · obtain ⟨b, o, x, rfl, c1⟩ := reads_int H.out hlt
      go_wp2_with fail
      refine (Pick_nil _ _).mono ?_
      rintro e w2 ⟨rfl, rfl⟩
      go_wp2_with fail
      go_round
      case rel => exact ⟨k + 1, by go_num, by omega, trivial⟩
      case measure => simp [intOf]; omega
    · go_wp2
      go_end0
      exact ⟨rfl, rfl⟩
set_option maxRecDepth 100000 in
theorem Alone_nil (w : World) (v : Value) (most : Int) : Calls Try.prog 34 #[v, .nilIface, .int .i64 most] w fun e w' => e = .returned (.bool (decide (1 ≤ most))) ∧ w = w' := by
  by_cases hm : 1 ≤ most
  · have h0 : decide ((0 : Int) < most) = true := by simp; omega
    rw [decide_eq_true hm]
    go_enter Try.func34, Try.ntmps34
    go_wp2_with fail
    go_loopw [8] (fun i wr => i = .int .i64 0 ∧ wr = w) (fun i _ => 0)
    case atStart => exact ⟨rfl, rfl⟩
    case round =>
      obtain ⟨rfl, rfl⟩ := hrel
      go_wp2
      go_ret
      exact ⟨rfl, rfl⟩
  · have h0 : decide ((0 : Int) < most) = false := by simp; omega
    rw [decide_eq_false hm]
    go_enter Try.func34, Try.ntmps34
    go_wp2_with fail
    go_loopw [8] (fun i wr => i = .int .i64 0 ∧ wr = w) (fun i _ => 0)
    case atStart => exact ⟨rfl, rfl⟩
    case round =>
      obtain ⟨rfl, rfl⟩ := hrel
      go_wp2
      go_ret
      exact ⟨rfl, rfl⟩
set_option maxHeartbeats 2000000 in
set_option maxRecDepth 100000 in
theorem StepNone_any {w : World} {p : Option Addr} {c : Nat} {vs : List Int} (h : Reads w (.slice p vs.length c) (is64 vs)) (hn : vs.length ≤ 1000000000) (most a : Int) : Calls Try.prog 10 #[.slice p vs.length c, .int .i64 most, .int .u64 a] w fun e w' => e = .returned (.bool true) ∧ Below w.heap.size w w' := by
  have H := Lib.hid h
  clear h
  go_enter Try.func10, Try.ntmps10
  go_wp2_with fail
  refine (live_any w).mono ?_
  rintro e wl ⟨rfl, hbl⟩
  have HR : Hid (Reads wl (.slice p vs.length c) (is64 vs)) := H.out.below hbl
  have HBL := Lib.hid hbl
  clear hbl H
  go_wp2_with fail
  refine (Run_nil HR.out hn).mono ?_
  rintro e w1 ⟨rfl, rfl⟩
  go_wp2_with fail
  refine (Finish_nil _ _).mono ?_
  rintro e w1 ⟨rfl, rfl⟩
  go_wp2_with fail
  refine (Steps_nil _).mono ?_
  rintro e w1 ⟨rfl, rfl⟩
  go_wp2_with fail
  refine (Events_nil _).mono ?_
  rintro e w1 ⟨rfl, rfl⟩
  go_wp2_with fail
  refine (At_nil _).mono ?_
  rintro e w1 ⟨rfl, rfl⟩
  go_wp2_with fail
  refine (Pending_nil _).mono ?_
  rintro e w1 ⟨rfl, rfl⟩
  go_wp2_with fail
  refine (Done_nil _).mono ?_
  rintro e w1 ⟨rfl, rfl⟩
  go_wp2_with fail
  go_loopw [8] (fun i wr => ∃ k : Nat, i = .int .i64 k ∧ k ≤ vs.length ∧ wr = wl) (fun i _ => vs.length - (intOf i).toNat)
  case atStart => exact ⟨0, rfl, Nat.zero_le _, rfl⟩
  case round =>
    obtain ⟨k, rfl, hk, rfl⟩ := hrel
    by_cases hlt : k < vs.length
    · obtain ⟨b, o, x, rfl, c1⟩ := reads_int HR.out hlt
      go_wp2_with fail
      refine (Pick_nil _ _).mono ?_
      rintro e w2 ⟨rfl, rfl⟩
      go_wp2_with fail
      go_round
      case rel => exact ⟨k + 1, by go_num, by omega, trivial⟩
      case measure => simp [intOf]; omega
    · clear HR
      go_wp2_with fail
      refine (New_128 _).mono ?_
      rintro e w1 ⟨bm, rfl, hm, hb⟩
      have HB1 : Hid (Below w.heap.size w w1) := HBL.out.trans (hb.mono HBL.out.size)
      clear hm hb
      go_wp2_with fail
      refine (View_any w1 bm 0).mono ?_
      rintro e w2 ⟨rfl, hw2⟩
      have hv2 : VW w2 w1.heap.size bm 0 0 := by rw [hw2]; exact Blk.made w1 _ _
      have hb2 : Below w.heap.size w w2 := by rw [hw2]; exact HB1.out.alloc HB1.out.size _
      generalize w1.heap.size = v at *
      have H2 := Lib.hid (And.intro hv2 hb2)
      clear hw2 hv2 hb2 HB1
      go_wp2_with fail
      refine (NewLoad_any w2 a).mono ?_
      rintro e w3 ⟨rfl, hw3⟩
      have hl3 : LD w3 w2.heap.size a false 0 := by rw [hw3]; exact Blk.made w2 _ _
      have hv3 : VW w3 v bm 0 0 := by rw [hw3]; exact Blk.alloc H2.out.1 _
      have hb3 : Below w.heap.size w w3 := by rw [hw3]; exact H2.out.2.alloc H2.out.2.size _
      have hge : w.heap.size ≤ w2.heap.size := H2.out.2.size
      generalize w2.heap.size = pb at *
      have H3 := Lib.hid (And.intro hl3 (And.intro hv3 (And.intro hb3 hge)))
      have HA3 := Lib.hid (Accesses_any hv3)
      clear hw3 hl3 hv3 hb3 hge H2
      go_wp2_with fail
      refine (LStep_nil _ _).mono ?_
      rintro e w4 ⟨rfl, rfl⟩
      go_wp2_with fail
      refine (LValue_nil _).mono ?_
      rintro e w4 ⟨rfl, rfl⟩
      go_wp2_with fail
      refine (Row_Step_nil _ _).mono ?_
      rintro e w4 ⟨rfl, rfl⟩
      go_wp2_with fail
      refine HA3.out.mono ?_
      rintro e w4 ⟨rfl, rfl⟩
      clear HA3
      go_wp2_with fail
      refine (LStep_off H3.out.1).mono ?_
      rintro e w4 ⟨rfl, hl4, hf4⟩
      have hv4 : VW w4 v bm 0 0 := H3.out.2.1.fr hf4 (fun e => Blk.ne H3.out.1 (e ▸ H3.out.2.1) (by decide) rfl)
      have hb4 : Below w.heap.size w w4 := H3.out.2.2.1.trans (hf4.to_below H3.out.2.2.1.size (by intro k hk e; have := H3.out.2.2.2; omega))
      have HV := Lib.hid (LValue_any hl4)
      have HA := Lib.hid (Accesses_any hv4)
      have HE := Lib.hid hb4
      have hmost : ((decide (1 ≤ most)) == decide (1 ≤ most)) = true := by simp
      clear H3 hl4 hf4 hv4 hb4
      go_wp2_with fail
      refine HV.out.mono ?_
      rintro e w5 ⟨rfl, rfl⟩
      go_wp2_with fail
      refine (Alone_nil _ _ most).mono ?_
      rintro e w5 ⟨rfl, rfl⟩
      go_wp2_with fail
      refine HA.out.mono ?_
      rintro e w5 ⟨rfl, rfl⟩
      go_wp2_with fail
      go_ret
      exact ⟨by simp, HE.out⟩
end Go.Proofs.Ytkaplifhaafpdaa

/-
  CameraOnce: each number was moved by just one Take. No condition.
-/
import Derived.Test.YtfbdgodebeggbaaCamLaw
import Derived.Test.YtfbdgodebeggbaaCamPlain2
import Derived.Deep.LoopGhost
namespace Go.Proofs.Ytfbdgodebeggbaa
open Go Go.RowKit
set_option linter.unusedSimpArgs false
set_option linter.unusedVariables false
section
variable {w w' : World} {bm j n : Nat} {allv u : Value} {cs : List CS} {A : Mem} {c : CS} {picks : List Int} {th : List (List (Bool × Int))} {lab : Nat → Nat} {P : RP} {s : RS} {m : Nat}
set_option maxHeartbeats 4000000 in
set_option maxRecDepth 100000 in
theorem CameraOnce_any (cell first : Int) (tv pv : Value) (w : World) (h0 : 0 ≤ cell) (ht : ThreadsAt w tv th) (hp : PicksAt w pv picks) (hn : FitsT th) (hk : picks.length ≤ 1048576) (hf0 : 0 ≤ first) (hf1 : first ≤ 18446744073709551615) :
    Calls Try.prog 7 #[.agg #[.int .u64 cell, .int .u64 first, tv, pv]] w fun e w' => e = .returned (.bool true) ∧ Below w.heap.size w w' := by
  have HT := Lib.hid ht
  have HP := Lib.hid hp
  obtain ⟨tp, tc, rfl, -⟩ := ht
  obtain ⟨pp, pc, rfl, -⟩ := hp
  go_enter Try.func7, Try.ntmps7
  go_wp2_with fail
  have hbx := Blk.made w 42 #[.int .u64 cell, .int .u64 first, .slice tp th.length tc, .slice pp picks.length pc]
  have b1 := (Below.refl w.heap.size w).alloc (Nat.le_refl _) (.cells #[.int .u64 cell, .int .u64 first, .slice tp th.length tc, .slice pp picks.length pc] 42)
  generalize hw1 : w.alloc _ = w1 at *
  clear hw1
  refine (live8_any _).mono ?_
  rintro e w2 ⟨rfl, b2⟩
  have hbx2 := hbx.below b2
  have b12 := b1.trans (b2.mono b1.size)
  have c0 : w2.cell? ⟨w.heap.size, 0, none⟩ = some _ := hbx2.cell 0
  have c1 : w2.cell? ⟨w.heap.size, 1, none⟩ = some _ := hbx2.cell 1
  have c2 : w2.cell? ⟨w.heap.size, 2, none⟩ = some _ := hbx2.cell 2
  have c3 : w2.cell? ⟨w.heap.size, 3, none⟩ = some _ := hbx2.cell 3
  have HR := Lib.hid (ran_fin cell first _ _ w2 h0 (HT.out.below b12) (HP.out.below b12) hn hk)
  clear hbx b1 b2
  go_wp2_with fail
  refine HR.out.mono ?_
  rintro e w3 ⟨bm, p, cap, rfl, hF, b3⟩
  have hbx3 := hbx2.below b3
  have b13 := b12.trans (b3.mono b12.size)
  have hlen : (RS.upto cell first th picks picks.length).A.cells.length = 128 := (upto_ri (first := first) h0 th picks picks.length).cells
  have hal := upto_all_le cell first th picks picks.length
  have ONCE := Lib.hid (fun h1 => once_law h0 h1 hf0 hf1 hn.2.2 picks picks.length)
  generalize (RS.upto cell first th picks picks.length).all = cs at *
  generalize (RS.upto cell first th picks picks.length).A = A at *
  clear HR c0 c1 c2 c3 HT HP hbx2 b3 b12
  have c0 : w3.cell? ⟨w.heap.size, 0, none⟩ = some (.int .u64 cell) := hbx3.cell 0
  have c1 : w3.cell? ⟨w.heap.size, 1, none⟩ = some (.int .u64 first) := hbx3.cell 1
  obtain ⟨F, q, r, tv, rows, hx⟩ := hF.mem
  have HPK := Lib.hid (peek_any hx cell h0 (by omega))
  have HFN := Lib.hid hF
  have HB := Lib.hid b13
  clear hx hF b13 hbx3 hlen
  by_cases h1 : cell < 128
  · have t1 : decide ((128 : Int) ≤ cell) = false := by simp; omega
    obtain ⟨o1, o2, o3, o4⟩ := ONCE.out h1
    generalize A.peek cell = V at *
    have ow : IntKind.u64.wrap (V - first) = V - first := IntWalk.u64_in _ ⟨by omega, by omega⟩
    have t2 : decide ((cs.length : Int) < V - first) = false := by simp; omega
    have HO4 := Lib.hid o4
    clear o4 ONCE
    go_wp2_with fail
    refine HPK.out.mono ?_
    rintro e w' ⟨rfl, rfl⟩
    go_wp2_with fail
    clear ow t2 t1 o3
    go_loopg [7] (V - first).toNat (fun gk sv wr => ∃ v : Int, sv = .int .u64 v ∧ first ≤ v ∧ v ≤ V ∧ gk = (V - v).toNat ∧ wr = w3)
    case atStart => exact ⟨first, rfl, Int.le_refl _, o1, rfl, rfl⟩
    case round =>
      obtain ⟨v, rfl, v1, v2, rfl, rfl⟩ := hrel
      by_cases hv : v = V
      · subst hv
        go_wp2_with fail
        go_ret
        exact ⟨rfl, HB.out⟩
      · have t3 : (v != V) = true := by simpa using hv
        have t4 : (v == V) = false := by simpa using hv
        have hc1 := HO4.out v v1 (by omega)
        go_wp2_with fail
        go_loopw [8, 9] (fun nv i wx => ∃ k : Nat, i = .int .i64 k ∧ k ≤ cs.length ∧ nv = .int .i64 ((cs.take k).countP (fun c => c.mv && decide (c.t.stamp = v))) ∧ wx = wr) (fun _ i _ => cs.length - (intOf i).toNat)
        case atStart => exact ⟨0, rfl, Nat.zero_le _, by simp, rfl⟩
        case round =>
          obtain ⟨k, rfl, hk2, rfl, rfl⟩ := hrel
          by_cases hlt : k < cs.length
          · obtain ⟨c, hc⟩ : ∃ c, cs[k]? = some c := ⟨_, List.getElem?_eq_getElem hlt⟩
            obtain ⟨g, cap', pb, np, tp2, hv', d1, hP, hN, hT⟩ := HFN.out.at hc
            injection hv' with e1 e2 e3
            subst e1 e3
            have p0 : wr.cell? ⟨pb, 0, none⟩ = some (.bool c.isNow) := Blk.cell hP 0
            have p3 : wr.cell? ⟨pb, 3, none⟩ = some (.pointer (some ⟨tp2, 0, none⟩)) := Blk.cell hP 3
            have HCP : Hid (((cs.take (k + 1)).countP (fun c => c.mv && decide (c.t.stamp = v)) : Int) = ((cs.take k).countP (fun c => c.mv && decide (c.t.stamp = v)) : Int) + (if (c.mv && decide (c.t.stamp = v)) = true then 1 else 0)) := by
              show _ = _
              rw [take_snoc hc, List.countP_append]
              cases hm : (c.mv && decide (c.t.stamp = v)) <;> simp [hm]
            have hcb : (cs.take k).countP (fun c => c.mv && decide (c.t.stamp = v)) ≤ 1048576 := by
              have h1 : (cs.take k).countP (fun c => c.mv && decide (c.t.stamp = v)) ≤ (cs.take k).length := List.countP_le_length
              rw [List.length_take] at h1
              omega
            generalize (cs.take k).countP (fun c => c.mv && decide (c.t.stamp = v)) = cm at *
            have ow : wrap64 ((cm : Int) + 1) = (cm : Int) + 1 := by unfold wrap64; omega
            have HT := Lib.hid hT
            clear hT hP hN hc1 hc
            cases hb : c.isNow
            · rw [hb] at p0
              cases hmv : c.t.moved
              · have HE : Hid ((c.mv && decide (c.t.stamp = v)) = false) := by show _ = _; simp [CS.mv, hmv]
                have HMV := Lib.hid (Take_Moved_any HT.out)
                rw [hmv] at HMV
                clear hmv
                go_wp2_with fail
                refine HMV.out.mono ?_
                rintro e w' ⟨rfl, rfl⟩
                go_wp2_with fail
                go_roundw
                case rel => exact ⟨k + 1, by go_num, by omega, by rw [HCP.out, HE.out]; simp, by trivial⟩
                case measure => simp [intOf]; omega
              · have HMV := Lib.hid (Take_Moved_any HT.out)
                rw [hmv] at HMV
                have hmv' : c.mv = true := by simp [CS.mv, hb, hmv]
                by_cases hst : c.t.stamp = v
                · have HE : Hid ((c.mv && decide (c.t.stamp = v)) = true) := by show _ = _; simp [hmv', hst]
                  have HST := Lib.hid (Take_Stamp_any HT.out)
                  rw [hst] at HST
                  clear hmv hmv' hst
                  go_wp2_with fail
                  refine HMV.out.mono ?_
                  rintro e w' ⟨rfl, rfl⟩
                  go_wp2_with fail
                  refine HST.out.mono ?_
                  rintro e w' ⟨rfl, rfl⟩
                  go_wp2_with fail
                  go_roundw
                  case rel => exact ⟨k + 1, by go_num, by omega, by rw [HCP.out, HE.out]; simp, by trivial⟩
                  case measure => simp [intOf]; omega
                · have HE : Hid ((c.mv && decide (c.t.stamp = v)) = false) := by show _ = _; simp [hst]
                  have HST := Lib.hid (Take_Stamp_any HT.out)
                  have t5 : (c.t.stamp == v) = false := by simpa using hst
                  clear hmv hmv' hst
                  go_wp2_with fail
                  refine HMV.out.mono ?_
                  rintro e w' ⟨rfl, rfl⟩
                  go_wp2_with fail
                  refine HST.out.mono ?_
                  rintro e w' ⟨rfl, rfl⟩
                  go_wp2_with fail
                  go_roundw
                  case rel => exact ⟨k + 1, by go_num, by omega, by rw [HCP.out, HE.out]; simp, by trivial⟩
                  case measure => simp [intOf]; omega
            · rw [hb] at p0
              have HE : Hid ((c.mv && decide (c.t.stamp = v)) = false) := by show _ = _; simp [CS.mv, hb]
              go_wp2_with fail
              go_roundw
              case rel => exact ⟨k + 1, by go_num, by omega, by rw [HCP.out, HE.out]; simp, by trivial⟩
              case measure => simp [intOf]; omega
          · obtain rfl : k = cs.length := by omega
            rw [List.take_length]
            rw [hc1]
            have ow : IntKind.u64.wrap (v + 1) = v + 1 := IntWalk.u64_in _ ⟨by omega, by omega⟩
            go_wp2_with fail
            go_roundg ((V - (v + 1)).toNat)
            case measure => omega
            case rel => exact ⟨v + 1, by go_num, by omega, by omega, rfl, by trivial⟩
  · have t1 : decide ((128 : Int) ≤ cell) = true := by simp; omega
    go_wp2_with fail
    go_ret
    exact ⟨rfl, HB.out⟩
end
end Go.Proofs.Ytfbdgodebeggbaa

/-
  CameraRises: the cell holds what it held first and how many Takes have moved it. No condition.
-/
import Derived.Test.YtfbdgodebeggbaaCamLaw
namespace Go.Proofs.Ytfbdgodebeggbaa
open Go Go.RowKit
set_option linter.unusedSimpArgs false
set_option linter.unusedVariables false
section
variable {w w' : World} {bm j n : Nat} {allv u : Value} {cs : List CS} {A : Mem} {c : CS} {picks : List Int} {th : List (List (Bool × Int))} {lab : Nat → Nat} {P : RP} {s : RS} {m : Nat}
set_option maxHeartbeats 4000000 in
set_option maxRecDepth 100000 in
theorem CameraRises_any (cell first : Int) (tv pv : Value) (w : World) (h0 : 0 ≤ cell) (ht : ThreadsAt w tv th) (hp : PicksAt w pv picks) (hn : FitsT th) (hk : picks.length ≤ 1048576) (hf0 : 0 ≤ first) (hf1 : first ≤ 18446744073709551615) :
    Calls Try.prog 5 #[.agg #[.int .u64 cell, .int .u64 first, tv, pv]] w fun e w' => e = .returned (.bool true) ∧ Below w.heap.size w w' := by
  have HT := Lib.hid ht
  have HP := Lib.hid hp
  obtain ⟨tp, tc, rfl, -⟩ := ht
  obtain ⟨pp, pc, rfl, -⟩ := hp
  go_enter Try.func5, Try.ntmps5
  go_wp2_with fail
  have hbx := Blk.made w 42 #[.int .u64 cell, .int .u64 first, .slice tp th.length tc, .slice pp picks.length pc]
  have b1 := (Below.refl w.heap.size w).alloc (Nat.le_refl _) (.cells #[.int .u64 cell, .int .u64 first, .slice tp th.length tc, .slice pp picks.length pc] 42)
  generalize hw1 : w.alloc _ = w1 at *
  clear hw1
  refine (live8_any _).mono ?_
  rintro e w2 ⟨rfl, b2⟩
  have hbx2 := hbx.below b2
  have b12 := b1.trans (b2.mono b1.size)
  have c0 : w2.cell? ⟨w.heap.size, 0, none⟩ = some _ := hbx2.cell 0
  have c1 : w2.cell? ⟨w.heap.size, 1, none⟩ = some _ := hbx2.cell 1
  have c2 : w2.cell? ⟨w.heap.size, 2, none⟩ = some _ := hbx2.cell 2
  have c3 : w2.cell? ⟨w.heap.size, 3, none⟩ = some _ := hbx2.cell 3
  have HR := Lib.hid (ran_fin cell first _ _ w2 h0 (HT.out.below b12) (HP.out.below b12) hn hk)
  clear hbx b1 b2
  go_wp2_with fail
  refine HR.out.mono ?_
  rintro e w3 ⟨bm, p, cap, rfl, hF, b3⟩
  have hbx3 := hbx2.below b3
  have b13 := b12.trans (b3.mono b12.size)
  obtain ⟨r1, r2, r3, r4⟩ := rises_law h0 hf0 hf1 hn.2.2 picks picks.length
  have hal := upto_all_le cell first th picks picks.length
  have hlen : (RS.upto cell first th picks picks.length).A.cells.length = 128 := (upto_ri (first := first) h0 th picks picks.length).cells
  generalize (RS.upto cell first th picks picks.length).all = cs at *
  generalize (RS.upto cell first th picks picks.length).A = A at *
  clear HR c0 c1 c2 c3 HT HP hbx2 b3 b12
  have c0 : w3.cell? ⟨w.heap.size, 0, none⟩ = some (.int .u64 cell) := hbx3.cell 0
  have c1 : w3.cell? ⟨w.heap.size, 1, none⟩ = some (.int .u64 first) := hbx3.cell 1
  obtain ⟨F, q, r, tv, rows, hx⟩ := hF.mem
  have HPK0 := peek_any hx cell h0 (by omega)
  rw [r1] at HPK0
  have HPK := Lib.hid HPK0
  rw [r1] at r2
  have HFN := Lib.hid hF
  have HB := Lib.hid b13
  have MAIN : ∀ f0 : Int, (if cell < 128 then first else 0) = f0 → 0 ≤ f0 ∧ f0 + (cs.countP CS.mv : Int) ≤ 18446744073709551615 := by
    rintro f0 rfl
    rw [r1] at r4
    refine ⟨?_, r4⟩
    split <;> omega
  clear HPK0 hx hF b13 r1 r3 r4 hbx3 hlen
  by_cases h1 : cell < 128
  · have t1 : decide ((128 : Int) ≤ cell) = false := by simp; omega
    rw [if_pos h1] at r2 HPK
    have M := MAIN first (if_pos h1)
    clear MAIN
    go_wp2_with fail
    go_loopw [7, 8, 9] (fun mv mx i wr => ∃ k : Nat, i = .int .i64 k ∧ k ≤ cs.length ∧ mv = .int .u64 ((cs.take k).countP CS.mv) ∧ mx = .int .u64 (mostOf first (cs.take k)) ∧ wr = w3) (fun _ _ i _ => cs.length - (intOf i).toNat)
    case atStart => exact ⟨0, rfl, Nat.zero_le _, by simp, by simp [mostOf], rfl⟩
    case round =>
      obtain ⟨k, rfl, hk2, rfl, rfl, rfl⟩ := hrel
      by_cases hlt : k < cs.length
      · obtain ⟨c, hc⟩ : ∃ c, cs[k]? = some c := ⟨_, List.getElem?_eq_getElem hlt⟩
        obtain ⟨g, cap', pb, np, tp2, hv, d1, hP, hN, hT⟩ := HFN.out.at hc
        injection hv with e1 e2 e3
        subst e1 e3
        have p0 : wr.cell? ⟨pb, 0, none⟩ = some (.bool c.isNow) := Blk.cell hP 0
        have p1 : wr.cell? ⟨pb, 1, none⟩ = some (.int .u64 c.most) := Blk.cell hP 1
        have p3 : wr.cell? ⟨pb, 3, none⟩ = some (.pointer (some ⟨tp2, 0, none⟩)) := Blk.cell hP 3
        have htk := take_snoc hc
        have hcp : ((cs.take (k + 1)).countP CS.mv : Int) = (cs.take k).countP CS.mv + (if c.mv = true then 1 else 0) := by
          rw [htk, List.countP_append]
          cases hm : c.mv <;> simp [hm]
        have hms : mostOf first (cs.take (k + 1)) = if c.isNow = false ∧ mostOf first (cs.take k) < c.most then c.most else mostOf first (cs.take k) := by
          rw [htk, mostOf_snoc]
        have hcb : (cs.take k).countP CS.mv ≤ 1048576 := by
          have h1 : (cs.take k).countP CS.mv ≤ (cs.take k).length := List.countP_le_length
          rw [List.length_take] at h1
          omega
        generalize (cs.take k).countP CS.mv = cm at *
        generalize mostOf first (cs.take k) = mx at *
        have ow : IntKind.u64.wrap ((cm : Int) + 1) = (cm : Int) + 1 := IntWalk.u64_in _ ⟨by omega, by omega⟩
        have HCP := Lib.hid hcp
        have HMS := Lib.hid hms
        have HT := Lib.hid hT
        clear hcp hms htk hT hP hN r2
        cases hb : c.isNow
        · rw [hb] at p0
          have HMT : Hid (∀ b, c.t.moved = b → c.mv = b) := fun b e => by simp [CS.mv, hb, e]
          by_cases hgt : mx < c.most
          · have t2 : decide (mx < c.most) = true := by simpa using hgt
            have HG : Hid (c.isNow = false ∧ mx < c.most) := ⟨hb, hgt⟩
            cases hmv : c.t.moved
            · go_wp2_with fail
              refine (Take_Moved_any HT.out).mono ?_
              rintro e w' ⟨rfl, rfl⟩
              simp only [hmv]
              go_wp2_with fail
              go_roundw
              case rel => exact ⟨k + 1, by go_num, by omega, by rw [HCP.out, HMT.out _ hmv]; simp, by rw [HMS.out, if_pos HG.out], by trivial⟩
              case measure => simp [intOf]; omega
            · go_wp2_with fail
              refine (Take_Moved_any HT.out).mono ?_
              rintro e w' ⟨rfl, rfl⟩
              simp only [hmv]
              go_wp2_with fail
              go_roundw
              case rel => exact ⟨k + 1, by go_num, by omega, by rw [HCP.out, HMT.out _ hmv]; simp, by rw [HMS.out, if_pos HG.out], by trivial⟩
              case measure => simp [intOf]; omega
          · have t2 : decide (mx < c.most) = false := by simpa using hgt
            have HG : Hid (¬ (c.isNow = false ∧ mx < c.most)) := fun e => hgt e.2
            cases hmv : c.t.moved
            · go_wp2_with fail
              refine (Take_Moved_any HT.out).mono ?_
              rintro e w' ⟨rfl, rfl⟩
              simp only [hmv]
              go_wp2_with fail
              go_roundw
              case rel => exact ⟨k + 1, by go_num, by omega, by rw [HCP.out, HMT.out _ hmv]; simp, by rw [HMS.out, if_neg HG.out], by trivial⟩
              case measure => simp [intOf]; omega
            · go_wp2_with fail
              refine (Take_Moved_any HT.out).mono ?_
              rintro e w' ⟨rfl, rfl⟩
              simp only [hmv]
              go_wp2_with fail
              go_roundw
              case rel => exact ⟨k + 1, by go_num, by omega, by rw [HCP.out, HMT.out _ hmv]; simp, by rw [HMS.out, if_neg HG.out], by trivial⟩
              case measure => simp [intOf]; omega
        · rw [hb] at p0
          have HMT : c.mv = false := by simp [CS.mv, hb]
          go_wp2_with fail
          go_roundw
          case rel => exact ⟨k + 1, by go_num, by omega, by rw [HCP.out, HMT]; simp, by rw [HMS.out, if_neg (fun e => by rw [hb] at e; cases e.1)], by trivial⟩
          case measure => simp [intOf]; omega
      · obtain rfl : k = cs.length := by omega
        rw [List.take_length] at *
        have ow : IntKind.u64.wrap (first + (cs.countP CS.mv : Int)) = first + (cs.countP CS.mv : Int) := IntWalk.u64_in _ ⟨by omega, by omega⟩
        have t2 : decide (first + (cs.countP CS.mv : Int) ≤ mostOf first cs) = true := by simpa using r2
        generalize mostOf first cs = mx at *
        generalize cs.countP CS.mv = cm at *
        go_wp2_with fail
        refine HPK.out.mono ?_
        rintro e w' ⟨rfl, rfl⟩
        go_wp2_with fail
        refine HPK.out.mono ?_
        rintro e w' ⟨rfl, rfl⟩
        go_wp2
        go_ret
        exact ⟨rfl, HB.out⟩
  · have t1 : decide ((128 : Int) ≤ cell) = true := by simp; omega
    rw [if_neg h1] at r2 HPK
    have M := MAIN 0 (if_neg h1)
    clear MAIN
    go_wp2_with fail
    go_loopw [7, 8, 9] (fun mv mx i wr => ∃ k : Nat, i = .int .i64 k ∧ k ≤ cs.length ∧ mv = .int .u64 ((cs.take k).countP CS.mv) ∧ mx = .int .u64 (mostOf 0 (cs.take k)) ∧ wr = w3) (fun _ _ i _ => cs.length - (intOf i).toNat)
    case atStart => exact ⟨0, rfl, Nat.zero_le _, by simp, by simp [mostOf], rfl⟩
    case round =>
      obtain ⟨k, rfl, hk2, rfl, rfl, rfl⟩ := hrel
      by_cases hlt : k < cs.length
      · obtain ⟨c, hc⟩ : ∃ c, cs[k]? = some c := ⟨_, List.getElem?_eq_getElem hlt⟩
        obtain ⟨g, cap', pb, np, tp2, hv, d1, hP, hN, hT⟩ := HFN.out.at hc
        injection hv with e1 e2 e3
        subst e1 e3
        have p0 : wr.cell? ⟨pb, 0, none⟩ = some (.bool c.isNow) := Blk.cell hP 0
        have p1 : wr.cell? ⟨pb, 1, none⟩ = some (.int .u64 c.most) := Blk.cell hP 1
        have p3 : wr.cell? ⟨pb, 3, none⟩ = some (.pointer (some ⟨tp2, 0, none⟩)) := Blk.cell hP 3
        have htk := take_snoc hc
        have hcp : ((cs.take (k + 1)).countP CS.mv : Int) = (cs.take k).countP CS.mv + (if c.mv = true then 1 else 0) := by
          rw [htk, List.countP_append]
          cases hm : c.mv <;> simp [hm]
        have hms : mostOf 0 (cs.take (k + 1)) = if c.isNow = false ∧ mostOf 0 (cs.take k) < c.most then c.most else mostOf 0 (cs.take k) := by
          rw [htk, mostOf_snoc]
        have hcb : (cs.take k).countP CS.mv ≤ 1048576 := by
          have h1 : (cs.take k).countP CS.mv ≤ (cs.take k).length := List.countP_le_length
          rw [List.length_take] at h1
          omega
        generalize (cs.take k).countP CS.mv = cm at *
        generalize mostOf 0 (cs.take k) = mx at *
        have ow : IntKind.u64.wrap ((cm : Int) + 1) = (cm : Int) + 1 := IntWalk.u64_in _ ⟨by omega, by omega⟩
        have HCP := Lib.hid hcp
        have HMS := Lib.hid hms
        have HT := Lib.hid hT
        clear hcp hms htk hT hP hN r2
        cases hb : c.isNow
        · rw [hb] at p0
          have HMT : Hid (∀ b, c.t.moved = b → c.mv = b) := fun b e => by simp [CS.mv, hb, e]
          by_cases hgt : mx < c.most
          · have t2 : decide (mx < c.most) = true := by simpa using hgt
            have HG : Hid (c.isNow = false ∧ mx < c.most) := ⟨hb, hgt⟩
            cases hmv : c.t.moved
            · go_wp2_with fail
              refine (Take_Moved_any HT.out).mono ?_
              rintro e w' ⟨rfl, rfl⟩
              simp only [hmv]
              go_wp2_with fail
              go_roundw
              case rel => exact ⟨k + 1, by go_num, by omega, by rw [HCP.out, HMT.out _ hmv]; simp, by rw [HMS.out, if_pos HG.out], by trivial⟩
              case measure => simp [intOf]; omega
            · go_wp2_with fail
              refine (Take_Moved_any HT.out).mono ?_
              rintro e w' ⟨rfl, rfl⟩
              simp only [hmv]
              go_wp2_with fail
              go_roundw
              case rel => exact ⟨k + 1, by go_num, by omega, by rw [HCP.out, HMT.out _ hmv]; simp, by rw [HMS.out, if_pos HG.out], by trivial⟩
              case measure => simp [intOf]; omega
          · have t2 : decide (mx < c.most) = false := by simpa using hgt
            have HG : Hid (¬ (c.isNow = false ∧ mx < c.most)) := fun e => hgt e.2
            cases hmv : c.t.moved
            · go_wp2_with fail
              refine (Take_Moved_any HT.out).mono ?_
              rintro e w' ⟨rfl, rfl⟩
              simp only [hmv]
              go_wp2_with fail
              go_roundw
              case rel => exact ⟨k + 1, by go_num, by omega, by rw [HCP.out, HMT.out _ hmv]; simp, by rw [HMS.out, if_neg HG.out], by trivial⟩
              case measure => simp [intOf]; omega
            · go_wp2_with fail
              refine (Take_Moved_any HT.out).mono ?_
              rintro e w' ⟨rfl, rfl⟩
              simp only [hmv]
              go_wp2_with fail
              go_roundw
              case rel => exact ⟨k + 1, by go_num, by omega, by rw [HCP.out, HMT.out _ hmv]; simp, by rw [HMS.out, if_neg HG.out], by trivial⟩
              case measure => simp [intOf]; omega
        · rw [hb] at p0
          have HMT : c.mv = false := by simp [CS.mv, hb]
          go_wp2_with fail
          go_roundw
          case rel => exact ⟨k + 1, by go_num, by omega, by rw [HCP.out, HMT]; simp, by rw [HMS.out, if_neg (fun e => by rw [hb] at e; cases e.1)], by trivial⟩
          case measure => simp [intOf]; omega
      · obtain rfl : k = cs.length := by omega
        rw [List.take_length] at *
        have ow : IntKind.u64.wrap (0 + (cs.countP CS.mv : Int)) = 0 + (cs.countP CS.mv : Int) := IntWalk.u64_in _ ⟨by omega, by omega⟩
        have t2 : decide (0 + (cs.countP CS.mv : Int) ≤ mostOf 0 cs) = true := by simpa using r2
        have t2' : decide ((cs.countP CS.mv : Int) ≤ mostOf 0 cs) = true := by simpa using r2
        generalize mostOf 0 cs = mx at *
        generalize cs.countP CS.mv = cm at *
        go_wp2_with fail
        refine HPK.out.mono ?_
        rintro e w' ⟨rfl, rfl⟩
        go_wp2_with fail
        refine HPK.out.mono ?_
        rintro e w' ⟨rfl, rfl⟩
        go_wp2
        go_ret
        exact ⟨rfl, HB.out⟩
end
end Go.Proofs.Ytfbdgodebeggbaa

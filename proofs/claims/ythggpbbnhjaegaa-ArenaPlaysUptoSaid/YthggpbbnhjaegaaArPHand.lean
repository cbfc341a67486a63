/-
  A copy of words with marked room; it is as it was. No condition.
-/
import Derived.Test.YthggpbbnhjaegaaArDo
import Derived.Deep.QuietTactic
import Derived.BigQuiet
import Derived.IntWalk
namespace Go.Proofs.Ythggpbbnhjaegaa
open Go Go.RowKit
set_option linter.unusedSimpArgs false
set_option linter.unusedVariables false
section
variable {w w' w1 : World} {F G S : Nat → Prop} {bm q r v g : Nat} {A : Mem} {th made : Int} {vs : List Int} {av tv u : Value} {rows : List (Acc × Value)}
/-- a copy and its marked room -/
def marksU : List Value := (List.range 9).map fun i : Nat => Value.int .u64 (2305843009213693952 + (i : Int))
def handed (vs : List Int) (k : Nat) : List Value := (us vs ++ marksU).take k ++ List.replicate (vs.length + 9 - k) (.int .u64 0)
theorem handed_len (vs : List Int) (k : Nat) (hk : k ≤ vs.length + 9) : (handed vs k).length = vs.length + 9 := by simp [handed, us, marksU]; omega
theorem handed_set (vs : List Int) (k : Nat) (hk : k < vs.length + 9) (x : Value) (hx : (us vs ++ marksU)[k]? = some x) : (handed vs k).set k x = handed vs (k + 1) := by
  have hl : (us vs ++ marksU).length = vs.length + 9 := by simp [us, marksU]
  have h1 : ((us vs ++ marksU).take k).length = k := by rw [List.length_take, hl]; omega
  unfold handed
  rw [List.set_append_right _ _ (by omega), h1, Nat.sub_self, List.take_add_one, hx]
  obtain ⟨m, hm⟩ : ∃ m, vs.length + 9 - k = m + 1 := ⟨vs.length + 9 - k - 1, by omega⟩
  rw [hm, List.replicate_succ, List.set_cons_zero, show vs.length + 9 - (k + 1) = m by omega]
  simp
theorem handed_at (vs : List Int) (k : Nat) (hk : k < vs.length + 9) : (handed vs k)[k]? = some (.int .u64 0) := by
  have hl : (us vs ++ marksU).length = vs.length + 9 := by simp [us, marksU]
  have h1 : ((us vs ++ marksU).take k).length = k := by rw [List.length_take, hl]; omega
  unfold handed
  rw [List.getElem?_append_right (by omega), h1, Nat.sub_self]
  obtain ⟨m, hm⟩ : ∃ m, vs.length + 9 - k = m + 1 := ⟨vs.length + 9 - k - 1, by omega⟩
  rw [hm]; rfl
theorem handed_zero (vs : List Int) : handed vs 0 = us (List.replicate (vs.length + 9) 0) := by simp [handed, us]
theorem handed_all (vs : List Int) : handed vs (vs.length + 9) = us vs ++ marksU := by
  have hl : (us vs ++ marksU).length = vs.length + 9 := by simp [us, marksU]
  unfold handed
  rw [List.take_of_length_le (by omega)]; simp
set_option maxRecDepth 100000 in
theorem HandU_any (p : Option Addr) (c : Nat) (hv : VA w (.slice p vs.length c) vs) (hl : vs.length ≤ 4000000) :
    Calls Try.prog 28 #[.slice p vs.length c] w fun e w' => e = .returned (.slice (some ⟨w.heap.size, 0, none⟩) vs.length (vs.length + 9)) ∧ Blk w' w.heap.size 33 (us vs ++ marksU).toArray ∧ Below w.heap.size w w' := by
  have hmk := run_zeros (vs.length + 9) (by omega)
  rw [← handed_zero] at hmk
  have hmk2 : ∀ u : World, (Instr.makeSlice 34 (.int .i64 ((vs.length : Int) + 9)) (.int .i64 ((vs.length : Int) + 9))).run Try.prog u =
      .ok (.slice (some ⟨u.heap.size, 0, none⟩) (vs.length + 9) (vs.length + 9)) (u.alloc (.cells (handed vs 0).toArray 33)) := by
    intro u; have := hmk u; simpa using this
  clear hmk
  have HV := Lib.hid hv
  have hb0 := Blk.made w 33 (handed vs 0).toArray
  have hbw : Below w.heap.size w (w.alloc (.cells (handed vs 0).toArray 33)) := (Below.refl _ w).alloc (Nat.le_refl _) _
  have HB0 := Lib.hid hb0
  have HBW := Lib.hid hbw
  clear hv hb0 hbw
  go_enter Try.func28, Try.ntmps28
  go_wp2_with fail
  go_loopw [4] (fun i wr => ∃ k : Nat, i = .int .i64 k ∧ k ≤ vs.length ∧ Blk wr w.heap.size 33 (handed vs k).toArray ∧ Below w.heap.size w wr) (fun i _ => vs.length - (intOf i).toNat)
  case atStart => exact ⟨0, rfl, Nat.zero_le _, HB0.out, HBW.out⟩
  case round =>
    obtain ⟨k, rfl, hk, hB, hb⟩ := hrel
    by_cases hlt : k < vs.length
    · obtain ⟨y, hy⟩ : ∃ y, vs[k]? = some y := ⟨_, List.getElem?_eq_getElem hlt⟩
      obtain ⟨p', c', e, h0⟩ := HV.out
      injection e with e1 _ e3
      subst e1 e3
      obtain ⟨ad, rfl, hbl, hc⟩ := h0.resolve_left (by rintro rfl; simp at hlt)
      have c1 := hc k (.int .u64 y) (by simp [us, hy])
      obtain ⟨ab, ao, spot⟩ := ad
      have hspot : spot = none := by
        obtain ⟨y0, hy0⟩ : ∃ y, vs[0]? = some y := ⟨_, List.getElem?_eq_getElem (by omega)⟩
        have hc0 := hc 0 (.int .u64 y0) (by simp [us, hy0])
        simpa [Addr.add] using World.cell?_spot hc0
      subst hspot
      have ea : (⟨ab, ao, none⟩ : Addr).add k = ⟨ab, ao + k, none⟩ := by unfold Addr.add; split <;> simp_all
      rw [ea] at c1
      have c2 : wr.cell? ⟨ab, ao + k, none⟩ = some (.int .u64 y) := (hb.cell (p := ⟨ab, ao + k, none⟩) hbl).trans c1
      have c3 : wr.cell? ⟨w.heap.size, k, none⟩ = some (.int .u64 0) := by rw [hB.cell]; simpa using handed_at vs k (by omega)
      have c4 := hB.cold k
      have HP := Lib.hid ((hB.put k (.int .u64 y)).eq (by rw [List.setIfInBounds_toArray, handed_set vs k (by omega) _ (by rw [List.getElem?_append_left (by simpa [us] using hlt)]; simp [us, hy])]) : Blk _ _ _ (handed vs (k + 1)).toArray)
      have HP2 := Lib.hid (hb.setCell (p := ⟨w.heap.size, k, none⟩) (Nat.le_refl _) (.int .u64 y))
      clear hB hb c1 hc h0 hy
      go_wp2_with fail
      go_roundw
      case rel => exact ⟨k + 1, by go_num, by omega, HP.out, HP2.out⟩
      case measure => simp [intOf]; omega
    · obtain rfl : k = vs.length := by omega
      have HB1 := Lib.hid hB
      have HB2 := Lib.hid hb
      clear hB hb
      obtain ⟨wo, rfl⟩ : ∃ wo : World, wo = wr := ⟨_, rfl⟩
      go_wp2_with fail
      go_loopw [5] (fun i wx => ∃ k : Nat, i = .int .i64 ((vs.length : Int) + k) ∧ k ≤ 9 ∧ Blk wx w.heap.size 33 (handed vs (vs.length + k)).toArray ∧ Below w.heap.size w wx) (fun i _ => vs.length + 9 - (intOf i).toNat)
      case atStart => exact ⟨0, by go_num, by omega, HB1.out, HB2.out⟩
      case round =>
        obtain ⟨k, rfl, hk, hB, hb⟩ := hrel
        by_cases hlt2 : k < 9
        · have hm : (us vs ++ marksU)[vs.length + k]? = some (.int .u64 (2305843009213693952 + (k : Int))) := by
            rw [List.getElem?_append_right (by simp [us])]
            simp [us, marksU, hlt2]
          have c3 : wr.cell? ⟨w.heap.size, vs.length + k, none⟩ = some (.int .u64 0) := by rw [hB.cell]; simpa using handed_at vs (vs.length + k) (by omega)
          have c4 := hB.cold (vs.length + k)
          have HP := Lib.hid ((hB.put (vs.length + k) (.int .u64 (2305843009213693952 + (k : Int)))).eq (by rw [List.setIfInBounds_toArray, handed_set vs (vs.length + k) (by omega) _ hm]) : Blk _ _ _ (handed vs (vs.length + k + 1)).toArray)
          have HP2 := Lib.hid (hb.setCell (p := ⟨w.heap.size, vs.length + k, none⟩) (Nat.le_refl _) (.int .u64 (2305843009213693952 + (k : Int))))
          clear hB hb hm
          have e9 : (2305843009213693952 : Int) + ((vs.length : Int) + (k : Int)) - (vs.length : Int) = 2305843009213693952 + (k : Int) := by omega
          have E9 := Lib.hid e9
          clear e9
          go_wp2_with fail
          rw [E9.out]
          go_roundw
          case rel => exact ⟨k + 1, by go_num, by omega, HP.out, HP2.out⟩
          case measure => simp [intOf]; omega
        · obtain rfl : k = 9 := by omega
          rw [handed_all] at hB
          have HB3 := Lib.hid hB
          have HB4 := Lib.hid hb
          clear hB hb
          go_wp2
          go_ret
          exact ⟨rfl, HB3.out, HB4.out⟩
/-- a row's cell, wherever it lies -/
theorem VA.at {n c : Nat} {p : Option Addr} (h : VA w (.slice p n c) vs) {j : Nat} {y : Int} (hj : vs[j]? = some y) : ∃ b o, p = some ⟨b, o, none⟩ ∧ b < w.heap.size ∧ w.cell? ⟨b, o + j, none⟩ = some (.int .u64 y) := by
  have hlt := (List.getElem?_eq_some_iff.1 hj).1
  obtain ⟨p', c', e, h0⟩ := h
  injection e with e1 _ e3
  subst e1 e3
  obtain ⟨ad, rfl, hbl, hc⟩ := h0.resolve_left (by rintro rfl; simp at hlt)
  obtain ⟨ab, ao, spot⟩ := ad
  have hspot : spot = none := by
    obtain ⟨y0, hy0⟩ : ∃ y, vs[0]? = some y := ⟨_, List.getElem?_eq_getElem (by omega)⟩
    have hc0 := hc 0 (.int .u64 y0) (by simp [us, hy0])
    simpa [Addr.add] using World.cell?_spot hc0
  subst hspot
  have ea : (⟨ab, ao, none⟩ : Addr).add j = ⟨ab, ao + j, none⟩ := by unfold Addr.add; split <;> simp_all
  have := hc j (.int .u64 y) (by simp [us, hj])
  rw [ea] at this
  exact ⟨ab, ao, rfl, hbl, this⟩
theorem VA.len {n c : Nat} {p : Option Addr} (h : VA w (.slice p n c) vs) : n = vs.length := by
  obtain ⟨p', c', e, _⟩ := h
  injection e
theorem VA.drawn (h : VA w av vs) (n : Nat) : VA (w.drewN n) av vs := by
  obtain ⟨p, c, rfl, h⟩ := h
  exact ⟨p, c, rfl, h.imp id fun ⟨ad, e, hb, hc⟩ => ⟨ad, e, hb, hc⟩⟩
set_option maxRecDepth 100000 in
theorem SameUV_yes {p q : Option Addr} {c d : Nat} (hu : VA w (.slice p vs.length c) vs) (hv : VA w (.slice q vs.length d) vs) (hn : vs.length ≤ 1000000000) : Calls Try.prog 44 #[.slice p vs.length c, .slice q vs.length d] w fun e w' => e = .returned (.bool true) ∧ ∃ n, w' = w.drewN n := by
  have HU := Lib.hid hu
  have HV := Lib.hid hv
  clear hu hv
  go_enter Try.func44, Try.ntmps44
  go_wp2_with fail
  go_loopw [5] (fun i wr => ∃ k : Nat, i = .int .i64 k ∧ k ≤ vs.length ∧ ∃ d, wr = w.drewN d) (fun i _ => vs.length - (intOf i).toNat)
  case atStart => exact ⟨0, rfl, Nat.zero_le _, 0, rfl⟩
  case round =>
    obtain ⟨k, rfl, hk, d, rfl⟩ := hrel
    by_cases hlt : k < vs.length
    · obtain ⟨y, hy⟩ : ∃ y, vs[k]? = some y := ⟨_, List.getElem?_eq_getElem hlt⟩
      obtain ⟨b1, o1, rfl, _, e1⟩ := (HU.out.drawn d).at hy
      obtain ⟨b2, o2, rfl, _, e2⟩ := (HV.out.drawn d).at hy
      clear hy
      generalize hwd : w.drewN d = wd at *
      have HW := Lib.hid hwd
      clear hwd
      go_wp2
      go_quiet (fail)
      all_goals
        go_wp2
        go_roundw
        case rel => exact ⟨k + 1, by go_num, by omega, d + nq, by rw [← HW.out]; simp [World.drewN, Nat.add_assoc]⟩
        case measure => simp [intOf]; omega
    · go_wp2
      go_ret
      exact ⟨rfl, d, rfl⟩
set_option maxRecDepth 100000 in
theorem KeptU_any {p : Option Addr} {g c : Nat} (hB : Blk w g 33 (us vs ++ marksU).toArray) (hv : VA w (.slice p vs.length c) vs) (hn : vs.length ≤ 4000000) :
    Calls Try.prog 30 #[.slice (some ⟨g, 0, none⟩) vs.length (vs.length + 9), .slice p vs.length c] w fun e w' => e = .returned (.bool true) ∧ ∃ n, w' = w.drewN n := by
  have hu : VA w (.slice (some ⟨g, 0, none⟩) vs.length (vs.length + 9)) vs := by
    refine ⟨_, _, rfl, .inr ⟨_, rfl, hB.lt, fun j u hu => ?_⟩⟩
    have e : ((⟨g, 0, none⟩ : Addr).add j) = ⟨g, j, none⟩ := by unfold Addr.add; split <;> simp_all
    rw [e, hB.cell]
    rw [List.getElem?_toArray, List.getElem?_append_left (List.getElem?_eq_some_iff.1 hu).1]
    exact hu
  have HS := Lib.hid (SameUV_yes hu hv (by omega))
  have HB := Lib.hid hB
  clear hu hB hv
  go_enter Try.func30, Try.ntmps30
  go_wp2_with fail
  refine HS.out.mono ?_
  rintro e w1 ⟨rfl, n, rfl⟩
  go_wp2_with fail
  go_loopw [6] (fun i wx => ∃ k : Nat, i = .int .i64 ((vs.length : Int) + k) ∧ k ≤ 9 ∧ ∃ n, wx = w.drewN n) (fun i _ => vs.length + 9 - (intOf i).toNat)
  case atStart => exact ⟨0, by go_num, by omega, n, rfl⟩
  case round =>
    obtain ⟨k, rfl, hk, n, rfl⟩ := hrel
    by_cases hlt2 : k < 9
    · have hm : (us vs ++ marksU)[vs.length + k]? = some (.int .u64 (2305843009213693952 + (k : Int))) := by
        rw [List.getElem?_append_right (by simp [us])]
        simp [us, marksU, hlt2]
      have c3 : (w.drewN n).cell? ⟨g, vs.length + k, none⟩ = some (.int .u64 (2305843009213693952 + (k : Int))) := ((HB.out.drawn n).cell (vs.length + k)).trans (by rw [List.getElem?_toArray]; exact hm)
      have e9 : (2305843009213693952 : Int) + ((vs.length : Int) + (k : Int)) - (vs.length : Int) = 2305843009213693952 + (k : Int) := by omega
      have E9 := Lib.hid e9
      clear e9 hm
      generalize hwd : w.drewN n = wd at *
      have HW := Lib.hid hwd
      clear hwd
      go_wp2_with fail
      try rw [E9.out]
      go_wp2_with fail
      go_roundw
      case rel => exact ⟨k + 1, by go_num, by omega, n, HW.out.symm⟩
      case measure => simp [intOf]; omega
    · obtain rfl : k = 9 := by omega
      go_wp2
      go_ret
      exact ⟨rfl, n, rfl⟩
end
end Go.Proofs.Ythggpbbnhjaegaa

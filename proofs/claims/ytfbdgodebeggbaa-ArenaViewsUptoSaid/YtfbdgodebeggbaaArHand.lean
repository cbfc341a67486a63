/-
  A trace of one access, that is told with values of its own; a copy with marked room; two rows that are the same. No condition.
-/
import Derived.Test.YtfbdgodebeggbaaArDoes
import Derived.Test.YtfbdgodebeggbaaBookP
import Derived.Deep.QuietTactic
import Derived.BigQuiet
import Derived.IntWalk
namespace Go.Proofs.Ytfbdgodebeggbaa
open Go Go.RowKit
set_option linter.unusedSimpArgs false
set_option linter.unusedVariables false
section
variable {w w' w1 : World} {F G S : Nat → Prop} {bm q r v g : Nat} {A : Mem} {th made : Int} {vs : List Int} {av tv u : Value} {rows : List (Acc × Value)}
theorem CloneU_own (h : VR w tv vs) (hn : vs.length ≤ 1000000000) : Calls Try.prog 59 #[tv] w fun e w' => ∃ v', e = .returned v' ∧ w'.ownsRow w.heap.size 22 1 v' vs.length (us vs) ∧ Below w.heap.size w w' := by
  rcases h with ⟨p, c, rfl, rfl⟩ | ⟨g, c, rfl, hl, hc⟩
  · cases p with
    | none =>
      have heq := fun (w : World) (a : Option Addr) (n c n' c' : Nat) => Lib.run_eql_slice_nil (P := Try.prog) w 57 22 a n c n' c' Try.underlying57
      go_enter Try.func59, Try.ntmps59
      go_wp2
      go_ret
      exact ⟨_, rfl, World.ownsRow_nil _ _ _ _, Below.refl _ _⟩
    | some ad => exact CloneU_some w ad 0 c [] rfl (by decide) (by intro o j u hu; simp [us] at hu)
  · refine CloneU_some w ⟨g, 0, none⟩ vs.length c vs (by simp [us]) hn fun o j u hu => ?_
    have e : ((⟨g, 0, none⟩ : Addr).add j) = ⟨g, j, none⟩ := by unfold Addr.add; split <;> simp_all
    rw [e, World.cell?_alloc_lt w o _ hl]
    exact hc j u hu
/-- a told trace of one access, with values of its own -/
def Told1 (w w' : World) (B : Nat) (y : Acc) (g : Nat) (v : Value) : Prop := (∀ j u, (accC (y, v))[j]? = some u → w'.cell? ⟨g, j, none⟩ = some u) ∧ w'.ownsRow B 22 1 v y.vals.length (us y.vals) ∧ g < w'.heap.size ∧ B ≤ g ∧ Below w.heap.size w w'
set_option maxRecDepth 100000 in
theorem Trace_one (h : PMx w F bm q r tv rows A) {y : Acc} (hA : A.trace = [y]) (hyv : y.vals.length ≤ 1000000000) :
    Calls Try.prog 30 #[.pointer (some ⟨bm, 0, none⟩)] w fun e w' => ∃ g cap v, e = .returned (.slice (some ⟨g, 0, none⟩) 1 cap) ∧ Told1 w w' w.heap.size y g v := by
  have c1 : w.cell? ⟨bm, 2, none⟩ = some tv := h.bM.cell 2
  have ht : A.trace.length = 1 := by rw [hA]; rfl
  have HA' := Trace_clone h (by omega)
  rw [ht, hA] at HA'
  have HA := Lib.hid HA'
  clear h HA' hA ht
  go_enter Try.func30, Try.ntmps30
  go_wp2_with fail
  refine HA.out.mono ?_
  rintro e w1 ⟨p, cap, rfl, rows1, hf1, ho1, hv1, hd1, hb1⟩
  obtain ⟨x, rfl⟩ : ∃ x, rows1 = [x] := by
    match rows1, hf1 with
    | [x], _ => exact ⟨x, rfl⟩
  obtain rfl : x.1 = y := by simpa using hf1
  obtain ⟨g, cap', hv, hbase, hgl⟩ := ho1.form (by omega)
  obtain ⟨rfl, rfl⟩ : p = some ⟨g, 0, none⟩ ∧ cap = cap' := by injection hv with a b c; exact ⟨a, c⟩
  have hsz := hb1.size
  have hcell : ∀ j u, (accC x)[j]? = some u → w1.cell? ⟨g, j, none⟩ = some u := fun j u hu => own_cell ho1 (by simpa using hu)
  have d1 : w1.cell? ⟨g, 5, none⟩ = some x.2 := hcell 5 _ rfl
  have f1 := own_cold ho1 5
  have HC := Lib.hid (CloneU_own (hv1 x (by simp)) hyv)
  have HCell := Lib.hid hcell
  have HB1 := Lib.hid hb1
  clear hf1 ho1 hv1 hd1 hv hcell hb1 HA hyv
  generalize hu : x.2 = u at *
  have HU := Lib.hid hu
  clear hu
  go_wp2_with fail
  go_loopw [14] (fun i wr => ∃ k : Nat, i = .int .i64 k ∧ k ≤ 1 ∧ (k = 0 → wr = w1) ∧ (k = 1 → ∃ v, Told1 w wr w.heap.size x.1 g v)) (fun i _ => 1 - (intOf i).toNat)
  case atStart => exact ⟨0, rfl, Nat.zero_le _, fun _ => rfl, fun e => by cases e⟩
  case round =>
    obtain ⟨k, rfl, hk, h0, h1⟩ := hrel
    by_cases hlt : k = 0
    · subst hlt
      obtain rfl := h0 rfl
      clear h0 h1
      go_wp2_with fail
      refine HC.out.mono ?_
      rintro e w2 ⟨v', rfl, hv', hbb⟩
      obtain ⟨p', c', rfl⟩ := bk_form hv'
      have d2 : w2.cell? ⟨g, 5, none⟩ = some u := (hbb.cell (p := ⟨g, 5, none⟩) hgl).trans d1
      have f2 : w2.frozen? ⟨g, 5, none⟩ = false := (hbb.frozen (p := ⟨g, 5, none⟩) hgl).trans f1
      have hT : Told1 w (w2.setCell ⟨g, 5, none⟩ (.slice p' x.1.vals.length c')) w.heap.size x.1 g (.slice p' x.1.vals.length c') := by
        have hb2 := HB1.out.trans (hbb.mono HB1.out.size)
        refine ⟨fun j u' hj => ?_, own_base (own_fr hv' ((Fr.refl (fun b => b = g) w2).put (p := ⟨g, 5, none⟩) (.inl rfl) _) fun g' e e2 => ?_) hsz, Nat.lt_of_lt_of_le hgl (by simpa [World.setCell] using hbb.size), hbase, hb2.setCell (p := ⟨g, 5, none⟩) hbase _⟩
        · by_cases e : j = 5
          · subst e
            obtain rfl : Value.slice p' x.1.vals.length c' = u' := by simpa [accC] using hj
            exact World.cell?_setCell_same _ _ _ d2
          · rw [World.cell?_setCell_other _ _ _ _ (by intro e2; injection e2 with _ e2; exact e e2.symm)]
            refine (hbb.cell (p := ⟨g, j, none⟩) hgl).trans (HCell.out j u' ?_)
            have hj8 : j < 8 := by have := (List.getElem?_eq_some_iff.1 hj).1; simpa [accC] using this
            rw [← hj]
            have h5 : j = 0 ∨ j = 1 ∨ j = 2 ∨ j = 3 ∨ j = 4 ∨ j = 6 ∨ j = 7 := by omega
            rcases h5 with rfl | rfl | rfl | rfl | rfl | rfl | rfl <;> rfl
        · have := (hv'.lt g' e).1
          omega
      have HT := Lib.hid hT
      clear hv' hbb hT
      go_wp2_with fail
      go_roundw
      case rel => exact ⟨1, by go_num, by omega, fun e => (by cases e), fun _ => ⟨_, HT.out⟩⟩
      case measure => simp [intOf]; try omega
    · obtain rfl : k = 1 := by omega
      have HT := Lib.hid (h1 rfl)
      clear h0 h1
      go_wp2
      go_ret
      obtain ⟨v, hT⟩ := HT.out
      exact ⟨g, cap, v, rfl, hT⟩
/-- a copy and its marked room -/
def marksU : List Value := (List.range 9).map fun i : Nat => Value.int .u64 (2305843009213693952 + (i : Int))
def handed (vs : List Int) (k : Nat) : List Value := (us vs ++ marksU).take k ++ List.replicate (vs.length + 9 - k) (.int .u64 0)
theorem handed_len (vs : List Int) (k : Nat) (hk : k ≤ vs.length + 9) : (handed vs k).length = vs.length + 9 := by simp [handed, us, marksU]; omega
theorem handed_set (vs : List Int) (k : Nat) (hk : k < vs.length + 9) (x : Value) (hx : (us vs ++ marksU)[k]? = some x) : (handed vs k).set k x = handed vs (k + 1) := by
  have hl : (us vs ++ marksU).length = vs.length + 9 := by simp [us, marksU]
  have h1 : ((us vs ++ marksU).take k).length = k := by rw [List.length_take, hl]; omega
  unfold handed
  rw [List.set_append_right _ _ (by omega), h1, Nat.sub_self, List.take_add_one, hx]
  obtain ⟨m, hm⟩ : ∃ m, vs.length + 9 - k = m + 1 := ⟨vs.length + 9 - k - 1, by omega⟩
  rw [hm, List.replicate_succ, List.set_cons_zero, show vs.length + 9 - (k + 1) = m by omega]
  simp
theorem handed_at (vs : List Int) (k : Nat) (hk : k < vs.length + 9) : (handed vs k)[k]? = some (.int .u64 0) := by
  have hl : (us vs ++ marksU).length = vs.length + 9 := by simp [us, marksU]
  have h1 : ((us vs ++ marksU).take k).length = k := by rw [List.length_take, hl]; omega
  unfold handed
  rw [List.getElem?_append_right (by omega), h1, Nat.sub_self]
  obtain ⟨m, hm⟩ : ∃ m, vs.length + 9 - k = m + 1 := ⟨vs.length + 9 - k - 1, by omega⟩
  rw [hm]; rfl
theorem handed_zero (vs : List Int) : handed vs 0 = us (List.replicate (vs.length + 9) 0) := by simp [handed, us]
theorem handed_all (vs : List Int) : handed vs (vs.length + 9) = us vs ++ marksU := by
  have hl : (us vs ++ marksU).length = vs.length + 9 := by simp [us, marksU]
  unfold handed
  rw [List.take_of_length_le (by omega)]; simp
set_option maxRecDepth 100000 in
theorem HandU_any (p : Option Addr) (c : Nat) (hv : VA w (.slice p vs.length c) vs) (hl : vs.length ≤ 4000000) :
    Calls Try.prog 28 #[.slice p vs.length c] w fun e w' => e = .returned (.slice (some ⟨w.heap.size, 0, none⟩) vs.length (vs.length + 9)) ∧ Blk w' w.heap.size 22 (us vs ++ marksU).toArray ∧ Below w.heap.size w w' := by
  have hmk := run_zeros (vs.length + 9) (by omega)
  rw [← handed_zero] at hmk
  have hmk2 : ∀ u : World, (Instr.makeSlice 57 (.int .i64 ((vs.length : Int) + 9)) (.int .i64 ((vs.length : Int) + 9))).run Try.prog u =
      .ok (.slice (some ⟨u.heap.size, 0, none⟩) (vs.length + 9) (vs.length + 9)) (u.alloc (.cells (handed vs 0).toArray 22)) := by
    intro u; have := hmk u; simpa using this
  clear hmk
  have HV := Lib.hid hv
  have hb0 := Blk.made w 22 (handed vs 0).toArray
  have hbw : Below w.heap.size w (w.alloc (.cells (handed vs 0).toArray 22)) := (Below.refl _ w).alloc (Nat.le_refl _) _
  have HB0 := Lib.hid hb0
  have HBW := Lib.hid hbw
  clear hv hb0 hbw
  go_enter Try.func28, Try.ntmps28
  go_wp2_with fail
  go_loopw [4] (fun i wr => ∃ k : Nat, i = .int .i64 k ∧ k ≤ vs.length ∧ Blk wr w.heap.size 22 (handed vs k).toArray ∧ Below w.heap.size w wr) (fun i _ => vs.length - (intOf i).toNat)
  case atStart => exact ⟨0, rfl, Nat.zero_le _, HB0.out, HBW.out⟩
  case round =>
    obtain ⟨k, rfl, hk, hB, hb⟩ := hrel
    by_cases hlt : k < vs.length
    · obtain ⟨y, hy⟩ : ∃ y, vs[k]? = some y := ⟨_, List.getElem?_eq_getElem hlt⟩
      obtain ⟨p', c', e, h0⟩ := HV.out
      injection e with e1 _ e3
      subst e1 e3
      obtain ⟨ad, rfl, hbl, hc⟩ := h0.resolve_left (by rintro rfl; simp at hlt)
      have c1 := hc k (.int .u64 y) (by simp [us, hy])
      obtain ⟨ab, ao, spot⟩ := ad
      have hspot : spot = none := by
        obtain ⟨y0, hy0⟩ : ∃ y, vs[0]? = some y := ⟨_, List.getElem?_eq_getElem (by omega)⟩
        have hc0 := hc 0 (.int .u64 y0) (by simp [us, hy0])
        simpa [Addr.add] using World.cell?_spot hc0
      subst hspot
      have ea : (⟨ab, ao, none⟩ : Addr).add k = ⟨ab, ao + k, none⟩ := by unfold Addr.add; split <;> simp_all
      rw [ea] at c1
      have c2 : wr.cell? ⟨ab, ao + k, none⟩ = some (.int .u64 y) := (hb.cell (p := ⟨ab, ao + k, none⟩) hbl).trans c1
      have c3 : wr.cell? ⟨w.heap.size, k, none⟩ = some (.int .u64 0) := by rw [hB.cell]; simpa using handed_at vs k (by omega)
      have c4 := hB.cold k
      have HP := Lib.hid ((hB.put k (.int .u64 y)).eq (by rw [List.setIfInBounds_toArray, handed_set vs k (by omega) _ (by rw [List.getElem?_append_left (by simpa [us] using hlt)]; simp [us, hy])]) : Blk _ _ _ (handed vs (k + 1)).toArray)
      have HP2 := Lib.hid (hb.setCell (p := ⟨w.heap.size, k, none⟩) (Nat.le_refl _) (.int .u64 y))
      clear hB hb c1 hc h0 hy
      go_wp2_with fail
      go_roundw
      case rel => exact ⟨k + 1, by go_num, by omega, HP.out, HP2.out⟩
      case measure => simp [intOf]; omega
    · obtain rfl : k = vs.length := by omega
      have HB1 := Lib.hid hB
      have HB2 := Lib.hid hb
      clear hB hb
      obtain ⟨wo, rfl⟩ : ∃ wo : World, wo = wr := ⟨_, rfl⟩
      go_wp2_with fail
      go_loopw [5] (fun i wx => ∃ k : Nat, i = .int .i64 ((vs.length : Int) + k) ∧ k ≤ 9 ∧ Blk wx w.heap.size 22 (handed vs (vs.length + k)).toArray ∧ Below w.heap.size w wx) (fun i _ => vs.length + 9 - (intOf i).toNat)
      case atStart => exact ⟨0, by go_num, by omega, HB1.out, HB2.out⟩
      case round =>
        obtain ⟨k, rfl, hk, hB, hb⟩ := hrel
        by_cases hlt2 : k < 9
        · have hm : (us vs ++ marksU)[vs.length + k]? = some (.int .u64 (2305843009213693952 + (k : Int))) := by
            rw [List.getElem?_append_right (by simp [us])]
            simp [us, marksU, hlt2]
          have c3 : wr.cell? ⟨w.heap.size, vs.length + k, none⟩ = some (.int .u64 0) := by rw [hB.cell]; simpa using handed_at vs (vs.length + k) (by omega)
          have c4 := hB.cold (vs.length + k)
          have HP := Lib.hid ((hB.put (vs.length + k) (.int .u64 (2305843009213693952 + (k : Int)))).eq (by rw [List.setIfInBounds_toArray, handed_set vs (vs.length + k) (by omega) _ hm]) : Blk _ _ _ (handed vs (vs.length + k + 1)).toArray)
          have HP2 := Lib.hid (hb.setCell (p := ⟨w.heap.size, vs.length + k, none⟩) (Nat.le_refl _) (.int .u64 (2305843009213693952 + (k : Int))))
          clear hB hb hm
          have e9 : (2305843009213693952 : Int) + ((vs.length : Int) + (k : Int)) - (vs.length : Int) = 2305843009213693952 + (k : Int) := by omega
          have E9 := Lib.hid e9
          clear e9
          go_wp2_with fail
          rw [E9.out]
          go_roundw
          case rel => exact ⟨k + 1, by go_num, by omega, HP.out, HP2.out⟩
          case measure => simp [intOf]; omega
        · obtain rfl : k = 9 := by omega
          rw [handed_all] at hB
          have HB3 := Lib.hid hB
          have HB4 := Lib.hid hb
          clear hB hb
          go_wp2
          go_ret
          exact ⟨rfl, HB3.out, HB4.out⟩
/-- a row's cell, wherever it lies -/
theorem VA.at {n c : Nat} {p : Option Addr} (h : VA w (.slice p n c) vs) {j : Nat} {y : Int} (hj : vs[j]? = some y) : ∃ b o, p = some ⟨b, o, none⟩ ∧ b < w.heap.size ∧ w.cell? ⟨b, o + j, none⟩ = some (.int .u64 y) := by
  have hlt := (List.getElem?_eq_some_iff.1 hj).1
  obtain ⟨p', c', e, h0⟩ := h
  injection e with e1 _ e3
  subst e1 e3
  obtain ⟨ad, rfl, hbl, hc⟩ := h0.resolve_left (by rintro rfl; simp at hlt)
  obtain ⟨ab, ao, spot⟩ := ad
  have hspot : spot = none := by
    obtain ⟨y0, hy0⟩ : ∃ y, vs[0]? = some y := ⟨_, List.getElem?_eq_getElem (by omega)⟩
    have hc0 := hc 0 (.int .u64 y0) (by simp [us, hy0])
    simpa [Addr.add] using World.cell?_spot hc0
  subst hspot
  have ea : (⟨ab, ao, none⟩ : Addr).add j = ⟨ab, ao + j, none⟩ := by unfold Addr.add; split <;> simp_all
  have := hc j (.int .u64 y) (by simp [us, hj])
  rw [ea] at this
  exact ⟨ab, ao, rfl, hbl, this⟩
theorem VA.len {n c : Nat} {p : Option Addr} (h : VA w (.slice p n c) vs) : n = vs.length := by
  obtain ⟨p', c', e, _⟩ := h
  injection e
theorem VA.drawn (h : VA w av vs) (n : Nat) : VA (w.drewN n) av vs := by
  obtain ⟨p, c, rfl, h⟩ := h
  exact ⟨p, c, rfl, h.imp id fun ⟨ad, e, hb, hc⟩ => ⟨ad, e, hb, hc⟩⟩
set_option maxRecDepth 100000 in
theorem SameUV_yes {p q : Option Addr} {c d : Nat} (hu : VA w (.slice p vs.length c) vs) (hv : VA w (.slice q vs.length d) vs) (hn : vs.length ≤ 1000000000) : Calls Try.prog 32 #[.slice p vs.length c, .slice q vs.length d] w fun e w' => e = .returned (.bool true) ∧ ∃ n, w' = w.drewN n := by
  have HU := Lib.hid hu
  have HV := Lib.hid hv
  clear hu hv
  go_enter Try.func32, Try.ntmps32
  go_wp2_with fail
  go_loopw [5] (fun i wr => ∃ k : Nat, i = .int .i64 k ∧ k ≤ vs.length ∧ ∃ d, wr = w.drewN d) (fun i _ => vs.length - (intOf i).toNat)
  case atStart => exact ⟨0, rfl, Nat.zero_le _, 0, rfl⟩
  case round =>
    obtain ⟨k, rfl, hk, d, rfl⟩ := hrel
    by_cases hlt : k < vs.length
    · obtain ⟨y, hy⟩ : ∃ y, vs[k]? = some y := ⟨_, List.getElem?_eq_getElem hlt⟩
      obtain ⟨b1, o1, rfl, _, e1⟩ := (HU.out.drawn d).at hy
      obtain ⟨b2, o2, rfl, _, e2⟩ := (HV.out.drawn d).at hy
      clear hy
      generalize hwd : w.drewN d = wd at *
      have HW := Lib.hid hwd
      clear hwd
      go_wp2
      go_quiet (fail)
      all_goals
        go_wp2
        go_roundw
        case rel => exact ⟨k + 1, by go_num, by omega, d + nq, by rw [← HW.out]; simp [World.drewN, Nat.add_assoc]⟩
        case measure => simp [intOf]; omega
    · go_wp2
      go_ret
      exact ⟨rfl, d, rfl⟩
end
end Go.Proofs.Ytfbdgodebeggbaa

/-
  StPicks, StHand, StPF: the texts of the proof, merged. No condition.
-/
import Derived.Test.YtkaplifhaafpdaaM35
section
/-
  StepPicks: any threads of procs, any picks. No condition.
-/
namespace Go.Proofs.Ytkaplifhaafpdaa
open Go Go.RowKit
set_option linter.unusedSimpArgs false
set_option linter.unusedVariables false
theorem reads_at {w : World} {p : Option Addr} {c : Nat} {vs : List Int} (h : Reads w (.slice p vs.length c) (is64 vs)) {k : Nat} {x : Int} (hx : vs[k]? = some x) : ∃ b o, p = some ⟨b, o, none⟩ ∧ b < w.heap.size ∧ w.cell? ⟨b, o + k, none⟩ = some (.int .i64 x) := by
  obtain ⟨p', c', e, -, hc⟩ := h
  injection e with e1 _ _
  subst e1
  obtain ⟨b, o, e, hl, hx⟩ := hc k (.int .i64 x) (by simp [is64, hx])
  exact ⟨b, o, e, hl, hx⟩
section
variable {W w w' w1 : World} {ll : List (List Plan)} {wd q : Nat} {L : Lay} {s s1 s2 : St}
set_option maxHeartbeats 4000000 in
set_option maxRecDepth 100000 in
theorem StepPicks_any {tv : Value} {p : Option Addr} {c : Nat} {vs : List Int} (hp : PlansAt W tv ll) (hw : plansWt ll ≤ 1048576) (hf : ∀ l ∈ ll, ∀ y ∈ l, ∀ d ∈ y.l, d.fits) (h : Reads W (.slice p vs.length c) (is64 vs)) (hn : vs.length ≤ 1048576) :
    Calls Try.prog 5 #[tv, .slice p vs.length c] W fun e w' => e = .returned (.bool true) ∧ Below W.heap.size W w' := by
  have hl1 : ll.length ≤ 1048576 ∧ ∀ l ∈ ll, l.length ≤ 1048576 := plans_len hw
  have HL := Lib.hid hl1
  have HP := Lib.hid hp
  have HR := Lib.hid (fun (k : Nat) (x : Int) (hx : vs[k]? = some x) => reads_at h hx)
  have HF : Hid (tooMany ll = false → Fits ll) := fun e => fits_of e hw hf
  clear hp h hw hf hl1
  go_enter Try.func5, Try.ntmps5
  go_wp2_with fail
  refine (live_any _).mono ?_
  rintro e wl ⟨rfl, hbl⟩
  have HBL := Lib.hid hbl
  have HC := Lib.hid (both_any HP.out hbl HL.out.1 HL.out.2)
  clear hbl HP HL
  go_wp2_with fail
  refine HC.out.mono ?_
  clear HC
  rintro e wb (⟨-, ⟨wd, rfl⟩, hb⟩ | ⟨htm, wd, q, rfl, hb⟩)
  · have HB : Hid (Below W.heap.size W wb) := HBL.out.trans (hb.mono HBL.out.size)
    clear hb
    go_wp2
    go_ret
    exact ⟨rfl, HB.out⟩
  · have hn' := HF.out htm
    obtain ⟨L, ht, hb⟩ := hb.out.twin HBL.out.size
    have HT : Hid (Twin W ll wd q L (St.start ll mem0) (St.start ll mem0) wb ∧ (St.start ll mem0).Good ll ∧ (St.start ll mem0).steps = 0) := ⟨ht, start_good ll, rfl⟩
    clear ht hb htm HF HBL
    go_wp2_with fail
    go_loopw [8] (fun i8 wr => ∃ (i : Nat) (s : St), i8 = .int .i64 i ∧ i ≤ vs.length ∧ Hid (Twin W ll wd q L s s wr ∧ s.Good ll ∧ s.steps = i)) (fun i8 _ => vs.length - (intOf i8).toNat)
    case atStart => exact ⟨0, _, rfl, Nat.zero_le _, HT⟩
    case round =>
      clear HT
      obtain ⟨i, s, rfl, hi, HT⟩ := hrel
      have hst : s.steps = i := HT.out.2.2
      by_cases hlt : i < vs.length
      · obtain ⟨x, hx⟩ : ∃ x, vs[i]? = some x := ⟨_, List.getElem?_eq_getElem hlt⟩
        obtain ⟨b, o, rfl, hbl, hbc⟩ := HR.out i x hx
        have HS : Hid (∀ wx s1 s2, Twin W ll wd q L s1 s2 wx → (wx.cell? ⟨wd, 1, none⟩ = some (.pointer (some ⟨L.rp, 0, none⟩)) ∧ wx.cell? ⟨b, o + i, none⟩ = some (.int .i64 x))) := fun wx s1 s2 hx => ⟨hx.cell1.2, (hx.bel.cell (p := ⟨b, o + i, none⟩) hbl).trans hbc⟩
        have hg1 : (s.one ll x).Good ll := HT.out.2.1.one hn' HT.out.1.oks.1 x
        have hs1 := one_steps (ll := ll) (s := s) x
        have ht0 : Twin W ll wd q L s s wr.drew := HT.out.1.drew
        have HTW := Lib.hid HT.out.1
        clear hbc HT hx
        cases hid : s.idle ll x
        all_goals
          go_wp2_with fail
          go_cut [51] (fun s51 wx => s51 = .bool false ∧ Hid (Twin W ll wd q L (s.one ll x) (s.one ll x) wx))
          case first =>
            go_region_held3 (fun wx => wx.cell? ⟨wd, 1, none⟩ = some (.pointer (some ⟨L.rp, 0, none⟩)) ∧ wx.cell? ⟨b, o + i, none⟩ = some (.int .i64 x))
              (exact HS.out _ _ _ (by assumption))
              (first
                | ((with_reducible refine (Twin.pickP ht0 hn' (by omega) x).mono ?_); rintro e w1 ⟨rfl, ht1⟩; rw [hid])
                | ((with_reducible refine (Twin.pickZ ht1 hn' (by omega) x).mono ?_); rintro e w2 ⟨rfl, ht2⟩; rw [hid])
                | ((with_reducible refine (Twin.alike ht2 hn' (by omega) hg1).mono ?_); rintro e w3 ⟨rfl, ht3⟩))
            all_goals
              go_wp2_with fail
              go_meet
              exact ⟨rfl, Lib.hid ht3⟩
          case rest =>
            obtain ⟨rfl, hw3⟩ := hcut
            go_wp2_with fail
            go_roundw
            case rel => exact ⟨i + 1, s.one ll x, by go_num, by omega, hw3.out, hg1, by omega⟩
            case measure => simp [intOf]; omega
      · have hie : i = vs.length := by omega
        go_wp2_with fail
        refine (Twin.alike HT.out.1 hn' (by omega) HT.out.2.1).mono ?_
        rintro e w3 ⟨rfl, ht3⟩
        have HB := Lib.hid ht3.bel
        clear ht3 HT
        go_wp2
        go_ret
        exact ⟨rfl, HB.out⟩
end
end Go.Proofs.Ytkaplifhaafpdaa
end
section
/-
  A copy of numbers with marked room; it is as it was; any picks at once. No condition.
-/
namespace Go.Proofs.Ytkaplifhaafpdaa
open Go Go.RowKit
set_option linter.unusedSimpArgs false
set_option linter.unusedVariables false
theorem run_mk4 {ty e : TypeId} {z : Value} {bts : Nat} (hu : Try.prog.underlying ty = some (.slice e)) (hi : (Try.prog.info? e).map (fun i => (i.zero, i.size, i.bytes)) = some (some z, 1, bts)) (hz : z.cells = #[z]) (hb : bts ≤ 24) (n : Nat) (h : n ≤ 4000000) (u : World) :
    (Instr.makeSlice ty (.int .i64 (n : Int)) (.int .i64 (n : Int))).run Try.prog u = .ok (.slice (some ⟨u.heap.size, 0, none⟩) n n) (u.alloc (.cells (Array.replicate n z) e)) := by
  obtain ⟨i0, hi, hz0, hz1, hz2⟩ := info_parts hi
  have h := run_make (P := Try.prog) u ty e i0 z hu hi hz0 .i64 .i64 (n : Int) (n : Int) (by omega) (Int.le_refl _) (by rw [hz2]; have : n * bts ≤ n * 24 := Nat.mul_le_mul_left n hb; have := Nat.mul_comm n bts; simp; omega) (by omega)
  have e : madeCells #[z] n = Array.replicate n z := by
    apply Array.toList_inj.1
    rw [toList_madeCells_one]
    simp
  rw [← e]
  simpa [hz1, hz] using h
def marksI : List Int := (List.range 9).map fun i : Nat => -700 - (i : Int)
/-- a copy under way -/
def handI (vs : List Int) (k : Nat) : List Int := (vs ++ marksI).take k ++ List.replicate (vs.length + 9 - k) 0
theorem handI_set (vs : List Int) (k : Nat) (hk : k < vs.length + 9) (x : Int) (hx : (vs ++ marksI)[k]? = some x) : (handI vs k).set k x = handI vs (k + 1) := by
  have hl : (vs ++ marksI).length = vs.length + 9 := by simp [marksI]
  have h1 : ((vs ++ marksI).take k).length = k := by rw [List.length_take, hl]; omega
  unfold handI
  rw [List.set_append_right _ _ (by omega), h1, Nat.sub_self, List.take_add_one, hx]
  obtain ⟨m, hm⟩ : ∃ m, vs.length + 9 - k = m + 1 := ⟨vs.length + 9 - k - 1, by omega⟩
  rw [hm, List.replicate_succ, List.set_cons_zero, show vs.length + 9 - (k + 1) = m by omega]
  simp
theorem handI_at (vs : List Int) (k : Nat) (hk : k < vs.length + 9) : (handI vs k)[k]? = some 0 := by
  have hl : (vs ++ marksI).length = vs.length + 9 := by simp [marksI]
  have h1 : ((vs ++ marksI).take k).length = k := by rw [List.length_take, hl]; omega
  unfold handI
  rw [List.getElem?_append_right (by omega), h1, Nat.sub_self]
  obtain ⟨m, hm⟩ : ∃ m, vs.length + 9 - k = m + 1 := ⟨vs.length + 9 - k - 1, by omega⟩
  rw [hm]; rfl
theorem handI_all (vs : List Int) : handI vs (vs.length + 9) = vs ++ marksI := by
  have hl : (vs ++ marksI).length = vs.length + 9 := by simp [marksI]
  unfold handI
  rw [List.take_of_length_le (by omega)]; simp
theorem is_set (l : List Int) (i : Nat) (v : Int) : (is64 l).toArray.setIfInBounds i (.int .i64 v) = (is64 (l.set i v)).toArray := by simp [is64, List.map_set]
section
variable {W w w' w1 : World} {ll : List (List Plan)} {wd q : Nat} {L : Lay} {s s1 s2 : St} {vs : List Int} {p : Option Addr} {c : Nat}
set_option maxRecDepth 100000 in
theorem HandI_any (h : Reads w (.slice p vs.length c) (is64 vs)) (hl : vs.length ≤ 1048576) :
    Calls Try.prog 39 #[.slice p vs.length c] w fun e w' => e = .returned (.slice (some ⟨w.heap.size, 0, none⟩) vs.length (vs.length + 9)) ∧ Blk w' w.heap.size 3 (is64 (vs ++ marksI)).toArray ∧ Below w.heap.size w w' := by
  have hmk := fun u : World => run_mk4 Try.underlying46 infoI rfl (by decide) (vs.length + 9) (by omega) u
  have hz : (Array.replicate (vs.length + 9) (Value.int .i64 0)) = (is64 (handI vs 0)).toArray := by simp [handI, is64]
  rw [hz] at hmk
  have hmk2 : ∀ u : World, (Instr.makeSlice 46 (.int .i64 ((vs.length : Int) + 9)) (.int .i64 ((vs.length : Int) + 9))).run Try.prog u =
      .ok (.slice (some ⟨u.heap.size, 0, none⟩) (vs.length + 9) (vs.length + 9)) (u.alloc (.cells (is64 (handI vs 0)).toArray 3)) := by
    intro u; have := hmk u; simpa using this
  clear hmk hz
  have HV := Lib.hid h
  have hb0 := Blk.made w 3 (is64 (handI vs 0)).toArray
  have hbw : Below w.heap.size w (w.alloc (.cells (is64 (handI vs 0)).toArray 3)) := (Below.refl _ w).alloc (Nat.le_refl _) _
  have HB0 := Lib.hid hb0
  have HBW := Lib.hid hbw
  clear h hb0 hbw
  go_enter Try.func39, Try.ntmps39
  go_wp2_with fail
  go_loopw [4] (fun i wr => ∃ k : Nat, i = .int .i64 k ∧ k ≤ vs.length ∧ Blk wr w.heap.size 3 (is64 (handI vs k)).toArray ∧ Below w.heap.size w wr) (fun i _ => vs.length - (intOf i).toNat)
  case atStart => exact ⟨0, rfl, Nat.zero_le _, HB0.out, HBW.out⟩
  case round =>
    obtain ⟨k, rfl, hk, hB, hb⟩ := hrel
    by_cases hlt : k < vs.length
    · obtain ⟨y, hy⟩ : ∃ y, vs[k]? = some y := ⟨_, List.getElem?_eq_getElem hlt⟩
      obtain ⟨ab, ao, rfl, hbl, c1⟩ := reads_at HV.out hy
      have c2 : wr.cell? ⟨ab, ao + k, none⟩ = some (.int .i64 y) := (hb.cell (p := ⟨ab, ao + k, none⟩) hbl).trans c1
      have c3 : wr.cell? ⟨w.heap.size, k, none⟩ = some (.int .i64 0) := by rw [hB.cell]; simp [is64, handI_at vs k (by omega)]
      have c4 := hB.cold k
      have HP := Lib.hid ((hB.put k (.int .i64 y)).eq (by rw [is_set, handI_set vs k (by omega) _ (by rw [List.getElem?_append_left hlt]; exact hy)]) : Blk _ _ _ (is64 (handI vs (k + 1))).toArray)
      have HP2 := Lib.hid (hb.setCell (p := ⟨w.heap.size, k, none⟩) (Nat.le_refl _) (.int .i64 y))
      clear hB hb c1 hy
      go_wp2_with fail
      go_roundw
      case rel => exact ⟨k + 1, by go_num, by omega, HP.out, HP2.out⟩
      case measure => simp [intOf]; omega
    · obtain rfl : k = vs.length := by omega
      have HB1 := Lib.hid hB
      have HB2 := Lib.hid hb
      clear hB hb
      obtain ⟨wo, rfl⟩ : ∃ wo : World, wo = wr := ⟨_, rfl⟩
      go_wp2_with fail
      go_loopw [5] (fun i wx => ∃ k : Nat, i = .int .i64 ((vs.length : Int) + k) ∧ k ≤ 9 ∧ Blk wx w.heap.size 3 (is64 (handI vs (vs.length + k))).toArray ∧ Below w.heap.size w wx) (fun i _ => vs.length + 9 - (intOf i).toNat)
      case atStart => exact ⟨0, by go_num, by omega, HB1.out, HB2.out⟩
      case round =>
        obtain ⟨k, rfl, hk, hB, hb⟩ := hrel
        by_cases hlt2 : k < 9
        · have hm : (vs ++ marksI)[vs.length + k]? = some (-700 - (k : Int)) := by
            rw [List.getElem?_append_right (by omega)]
            simp [marksI, hlt2]
          have c3 : wr.cell? ⟨w.heap.size, vs.length + k, none⟩ = some (.int .i64 0) := by rw [hB.cell]; simp [is64, handI_at vs (vs.length + k) (by omega)]
          have c4 := hB.cold (vs.length + k)
          have HP := Lib.hid ((hB.put (vs.length + k) (.int .i64 (-700 - (k : Int)))).eq (by rw [is_set, handI_set vs (vs.length + k) (by omega) _ hm]) : Blk _ _ _ (is64 (handI vs (vs.length + k + 1))).toArray)
          have HP2 := Lib.hid (hb.setCell (p := ⟨w.heap.size, vs.length + k, none⟩) (Nat.le_refl _) (.int .i64 (-700 - (k : Int))))
          clear hB hb hm
          have e9 : (-700 : Int) - ((vs.length : Int) + (k : Int)) + (vs.length : Int) = -700 - (k : Int) := by omega
          have E9 := Lib.hid e9
          clear e9
          go_wp2_with fail
          rw [E9.out]
          go_roundw
          case rel => exact ⟨k + 1, by go_num, by omega, HP.out, HP2.out⟩
          case measure => simp [intOf]; omega
        · obtain rfl : k = 9 := by omega
          rw [handI_all] at hB
          have HB3 := Lib.hid hB
          have HB4 := Lib.hid hb
          clear hB hb
          go_wp2
          go_ret
          exact ⟨rfl, HB3.out, HB4.out⟩
/-- a value reads as these numbers, wherever they lie -/
def RdI (w : World) (v : Value) (l : List Int) : Prop := ∃ p c, v = .slice p l.length c ∧ ∀ (i : Nat) x, l[i]? = some x → ∃ b o, p = some ⟨b, o, none⟩ ∧ b < w.heap.size ∧ w.cell? ⟨b, o + i, none⟩ = some (.int .i64 x)
theorem RdI.of (h : Reads w (.slice p vs.length c) (is64 vs)) : RdI w (.slice p vs.length c) vs := ⟨p, c, rfl, fun i x hx => reads_at h hx⟩
theorem RdI.blk {g : Nat} {ms : List Int} (h : Blk w g 3 (is64 (vs ++ ms)).toArray) (c : Nat) : RdI w (.slice (some ⟨g, 0, none⟩) vs.length c) vs := by
  refine ⟨_, _, rfl, fun i x hx => ⟨g, 0, rfl, h.lt, ?_⟩⟩
  rw [Nat.zero_add, h.cell]
  have h2 : (vs ++ ms)[i]? = some x := by rw [List.getElem?_append_left (List.getElem?_eq_some_iff.1 hx).1]; exact hx
  show (is64 (vs ++ ms)).toArray[i]? = _
  rw [List.getElem?_toArray]
  unfold is64
  rw [List.getElem?_map, h2]
  rfl
theorem RdI.below {v : Value} (h : RdI w v vs) (hb : Below w.heap.size w w') : RdI w' v vs := by
  obtain ⟨p, c, e, h⟩ := h
  refine ⟨p, c, e, fun i x hx => ?_⟩
  obtain ⟨b, o, e1, hl, hc⟩ := h i x hx
  exact ⟨b, o, e1, Nat.lt_of_lt_of_le hl hb.size, (hb.cell (p := ⟨b, o + i, none⟩) hl).trans hc⟩
set_option maxRecDepth 100000 in
theorem SameR_yes {u v : Value} (hu : RdI w u vs) (hv : RdI w v vs) (hn : vs.length ≤ 1000000000) : Calls Try.prog 62 #[u, v] w fun e w' => e = .returned (.bool true) ∧ ∃ n, w' = w.drewN n := by
  obtain ⟨p, c, rfl, hc⟩ := hu
  obtain ⟨p', c', rfl, hc'⟩ := hv
  have H1 := Lib.hid hc
  have H2 := Lib.hid hc'
  clear hc hc'
  go_enter Try.func62, Try.ntmps62
  go_wp2
  go_loopw [5] (fun i wr => ∃ k : Nat, i = .int .i64 k ∧ k ≤ vs.length ∧ ∃ d, wr = w.drewN d) (fun i _ => vs.length - (intOf i).toNat)
  case atStart => exact ⟨0, rfl, Nat.zero_le _, 0, rfl⟩
  case round =>
    obtain ⟨k, rfl, hk, d, rfl⟩ := hrel
    by_cases hlt : k < vs.length
    · obtain ⟨x, hx⟩ : ∃ x, vs[k]? = some x := ⟨_, List.getElem?_eq_getElem hlt⟩
      obtain ⟨g, o, rfl, -, c1⟩ := H1.out k x hx
      obtain ⟨g', o', rfl, -, c2⟩ := H2.out k x hx
      have e1 : (w.drewN d).cell? ⟨g, o + k, none⟩ = some (.int .i64 x) := c1
      have e2 : (w.drewN d).cell? ⟨g', o' + k, none⟩ = some (.int .i64 x) := c2
      clear c1 c2 hx
      generalize hwd : w.drewN d = wd at *
      have HW := Lib.hid hwd
      clear hwd
      go_wp2
      go_quiet (fail)
      go_wp2
      go_roundw
      case rel => exact ⟨k + 1, by go_num, by omega, _, by rw [← HW.out, World.drewN_drewN]⟩
      case measure => simp [intOf]; omega
    · go_wp2
      go_ret
      exact ⟨rfl, d, rfl⟩
set_option maxRecDepth 100000 in
theorem KeptI_any {g : Nat} {v : Value} (hb : Blk w g 3 (is64 (vs ++ marksI)).toArray) (hv : RdI w v vs) (hn : vs.length ≤ 1048576) :
    Calls Try.prog 40 #[.slice (some ⟨g, 0, none⟩) vs.length (vs.length + 9), v] w fun e w' => e = .returned (.bool true) ∧ ∃ n, w' = w.drewN n := by
  have HC := Lib.hid (SameR_yes (RdI.blk hb (vs.length + 9)) hv (by omega))
  have HB := Lib.hid hb
  obtain ⟨p, c, rfl, _⟩ := hv
  clear hb
  go_enter Try.func40, Try.ntmps40
  go_wp2_with fail
  refine HC.out.mono ?_
  rintro e w1 ⟨rfl, n, rfl⟩
  have HB1 : Hid (Blk (w.drewN n) g 3 (is64 (vs ++ marksI)).toArray) := HB.out
  clear HC HB
  generalize hwd : w.drewN n = wd at *
  have HW := Lib.hid hwd
  clear hwd
  go_wp2_with fail
  go_loopw [6] (fun i wx => ∃ k : Nat, i = .int .i64 ((vs.length : Int) + k) ∧ k ≤ 9 ∧ wx = wd) (fun i _ => vs.length + 9 - (intOf i).toNat)
  case atStart => exact ⟨0, by go_num, by omega, rfl⟩
  case round =>
    obtain ⟨k, rfl, hk, rfl⟩ := hrel
    by_cases hlt2 : k < 9
    · have c3 : wr.cell? ⟨g, vs.length + k, none⟩ = some (.int .i64 (-700 - (k : Int))) := by
        rw [HB1.out.cell]
        have hm : (vs ++ marksI)[vs.length + k]? = some (-700 - (k : Int)) := by
          rw [List.getElem?_append_right (by omega)]
          simp [marksI, hlt2]
        show (is64 (vs ++ marksI)).toArray[vs.length + k]? = _
        rw [List.getElem?_toArray]
        unfold is64
        rw [List.getElem?_map, hm]
        rfl
      have e9 : (-700 : Int) - ((vs.length : Int) + (k : Int)) + (vs.length : Int) = -700 - (k : Int) := by omega
      have E9 := Lib.hid e9
      clear e9
      go_wp2_with fail
      go_roundw
      case rel => exact ⟨k + 1, by go_num, by omega, trivial⟩
      case measure => simp [intOf]; omega
    · obtain rfl : k = 9 := by omega
      go_wp2
      go_ret
      exact ⟨rfl, n, HW.out.symm⟩
/-- picks, one behind the other -/
def St.many (ll : List (List Plan)) (s : St) (vs : List Int) : St := vs.foldl (fun s t => s.one ll t) s
theorem many_snoc (ts : List Int) (t : Int) : s.many ll (ts ++ [t]) = (s.many ll ts).one ll t := by simp [St.many]
theorem many_take {k : Nat} {x : Int} (hx : vs[k]? = some x) : s.many ll (vs.take (k + 1)) = (s.many ll (vs.take k)).one ll x := by
  rw [List.take_add_one, hx]
  exact many_snoc _ _
theorem many_steps : ∀ (vs : List Int) (s : St), (s.many ll vs).steps = s.steps + vs.length
  | [], s => rfl
  | t :: vs, s => by
    show ((s.one ll t).many ll vs).steps = _
    rw [many_steps vs, one_steps]
    simp; omega
theorem many_append (a b : List Int) : s.many ll (a ++ b) = (s.many ll a).many ll b := List.foldl_append
theorem many_good : ∀ (vs : List Int) (s : St), Fits ll → s.Ok ll → s.Good ll → s.steps + vs.length ≤ 40000000 → (s.many ll vs).Ok ll ∧ (s.many ll vs).Good ll
  | [], s, _, ok, hg, _ => ⟨ok, hg⟩
  | t :: vs, s, hn, ok, hg, h => by
    have h1 : s.steps + (vs.length + 1) ≤ 40000000 := h
    exact many_good vs (s.one ll t) hn (ok.one t (by omega)) (hg.one hn ok t) (by rw [one_steps]; omega)
set_option maxRecDepth 100000 in
/-- any picks at once, whatever is kept beside them -/
theorem Run_any {v : Value} (I : St → World → Prop) (rp : Nat) (hv : RdI w v vs) (hI : I s w) (hlen : vs.length ≤ 1000000000) (hcell : ∀ wx s1, I s1 wx → ∀ b o c, v = .slice (some ⟨b, o, none⟩) vs.length c → wx.heap[b]? = w.heap[b]?)
    (hpick : ∀ wx (k : Nat) x, vs[k]? = some x → I (s.many ll (vs.take k)) wx → Calls Try.prog 25 #[.pointer (some ⟨rp, 0, none⟩), .int .i64 x] wx fun e w' => (∃ b, e = .returned (.bool b)) ∧ I (s.many ll (vs.take (k + 1))) w') :
    Calls Try.prog 28 #[.pointer (some ⟨rp, 0, none⟩), v] w fun e w' => e = .returned (.tuple #[]) ∧ I (s.many ll vs) w' := by
  obtain ⟨p, c, rfl, hc⟩ := hv
  have HC : Hid (∀ wx s1 (k : Nat) x, I s1 wx → vs[k]? = some x → ∃ b o, p = some ⟨b, o, none⟩ ∧ wx.cell? ⟨b, o + k, none⟩ = some (.int .i64 x)) := by
    intro wx s1 k x hi hx
    obtain ⟨b, o, e, hl, hc1⟩ := hc k x hx
    refine ⟨b, o, e, ?_⟩
    subst e
    rw [World.cell?_of_block (w := w) (a := ⟨b, o + k, none⟩) (hcell wx s1 hi b o c rfl)]
    exact hc1
  have HP := Lib.hid hpick
  have HI : Hid (I (s.many ll (vs.take 0)) w) := hI
  clear hI hpick hc hcell
  go_enter Try.func28, Try.ntmps28
  go_wp2_with fail
  go_loopw [8] (fun i wr => ∃ k : Nat, i = .int .i64 k ∧ k ≤ vs.length ∧ Hid (I (s.many ll (vs.take k)) wr)) (fun i _ => vs.length - (intOf i).toNat)
  case atStart => exact ⟨0, rfl, Nat.zero_le _, HI⟩
  case round =>
    clear HI
    obtain ⟨k, rfl, hk, HI⟩ := hrel
    by_cases hlt : k < vs.length
    · obtain ⟨x, hx⟩ : ∃ x, vs[k]? = some x := ⟨_, List.getElem?_eq_getElem hlt⟩
      obtain ⟨b, o, rfl, c1⟩ := HC.out _ _ k x HI.out hx
      have HP1 := Lib.hid (HP.out wr k x hx HI.out)
      clear hx HI
      go_wp2_with fail
      refine HP1.out.mono ?_
      rintro e w2 ⟨⟨b1, rfl⟩, h2⟩
      have HI2 := Lib.hid h2
      clear h2 HP1
      go_wp2_with fail
      go_roundw
      case rel => exact ⟨k + 1, by go_num, by omega, HI2⟩
      case measure => simp [intOf]; omega
    · obtain rfl : k = vs.length := by omega
      rw [List.take_length] at HI
      go_wp2
      go_end0
      exact ⟨rfl, HI.out⟩
end
end Go.Proofs.Ytkaplifhaafpdaa
end
section
/-
  Finish: the program's and the document's come to one state. No condition.
-/
namespace Go.Proofs.Ytkaplifhaafpdaa
open Go Go.RowKit
set_option linter.unusedSimpArgs false
set_option linter.unusedVariables false
section
variable {σ : Type} {idl : σ → Nat → Bool} {nxt : σ → Nat → σ} {done : σ → Bool} {len : Nat} {most : Int} {P : σ → Prop}
theorem sweep_keep (h2 : ∀ s t, P s → idl s t = false → P (nxt s t)) : ∀ (m t n : Nat) (s : σ), P s → P (sweep idl nxt most m t n s).2.2
  | 0, t, n, s, hs => hs
  | m + 1, t, n, s, hs => by
    simp only [sweep]
    cases hi : idl s t
    · simp only [Bool.false_eq_true, if_false]
      split
      · exact hs
      · exact sweep_keep h2 m (t + 1) (n + 1) _ (h2 s t hs hi)
    · simp only [if_true]
      exact sweep_keep h2 m (t + 1) n s hs
theorem fin_keep (h2 : ∀ s t, P s → idl s t = false → P (nxt s t)) : ∀ (f n : Nat) (s : σ) (r : Bool × σ), P s → fin idl nxt done len most f n s = some r → P r.2
  | 0, n, s, r, _, h => by cases h
  | f + 1, n, s, r, hs, h => by
    simp only [fin] at h
    have h3 := sweep_keep (most := most) h2 len 0 n s hs
    split at h
    · injection h with h; subst h; exact hs
    · generalize sweep idl nxt most len 0 n s = q at h h3
      obtain ⟨b, n', s'⟩ := q
      cases b
      · injection h with h; subst h; exact h3
      · exact fin_keep h2 f n' s' r h3 h
end
section
variable {W w w' w1 : World} {ll : List (List Plan)} {wd q : Nat} {L : Lay} {s s1 s2 : St} {G : Nat → Prop}
theorem one_len (t : Int) : (s.one ll t).th.length = s.th.length := by
  unfold St.one
  split
  · split
    · simp [St.go]
    · rfl
  · rfl
/-- the program's runner, as a machine -/
def machP (W w0 : World) (G : Nat → Prop) (L : Lay) (ll : List (List Plan)) (hn : Fits ll) : Mach St L.rp L.bm where
  I := fun s w => (∃ G', PG W w G' L ll s ∧ Gk w0 w G G') ∧ s.steps + s.left ll ≤ 40000000
  thr := fun s => thrs L.PV s.th
  nxt := fun s t => s.one ll (t : Int)
  left := fun s => s.left ll
  rx := fun s w ⟨⟨G', h, _⟩, _⟩ => by
    obtain ⟨⟨R, E, ats, j, ha, _⟩, _, _⟩ := h
    obtain ⟨cs, tv, ev, av, hx⟩ := j.ro.ex
    exact ⟨R, _, _, _, ats, cs, tv, ev, av, hx⟩
  len := fun s w ⟨⟨G', h, _⟩, _⟩ => ⟨by rw [thrs_len h.lay h.ok]; exact hn.n, thrs_procs h.lay h.ok hn⟩
  drawn := fun s w n ⟨⟨G', h, k⟩, hb⟩ => ⟨⟨G', h.drawn n, k.drawn n⟩, hb⟩
  pick := fun s w t ⟨⟨G', h, k⟩, hb⟩ ht hi => by
    rw [idle_thrs h.lay h.ok] at hi
    have hl := left_one h.ok hi
    refine (PPick_any h hn (by omega) (t : Int)).mono ?_
    rintro e w' ⟨rfl, G2, h2, k2⟩
    refine ⟨by rw [hi]; rfl, ⟨G2, h2, k.trans k2⟩, ?_⟩
    rw [one_steps]
    omega
  keep := fun s t => by
    unfold thrs
    rw [List.length_zipWith, List.length_zipWith, one_len]
  less := fun s w t ⟨⟨G', h, k⟩, hb⟩ ht hi => by
    rw [idle_thrs h.lay h.ok] at hi
    have hl := left_one h.ok hi
    omega
theorem PFinish_any (h : PG W w G L ll s) (hn : Fits ll) (most : Int) (hL : s.steps + s.left ll ≤ 40000000) :
    Calls Try.prog 20 #[.pointer (some ⟨L.rp, 0, none⟩), .int .i64 most] w fun e w' => ∃ b s', e = .returned (.bool b) ∧ (∃ G', PG W w' G' L ll s' ∧ Gk w w' G G') ∧ ∃ f, rfin ll most f 0 s = some (b, s') := by
  have hlen := thrs_len h.lay h.ok
  have hok := h.ok
  have hlay := h.lay
  refine (Finish_any (machP W w G L ll hn) (s0 := s) ⟨⟨G, h, Gk.refl w G⟩, hL⟩ most (by show s.left ll ≤ _; omega)).mono ?_
  rintro e w' ⟨b, s', rfl, ⟨hI, _⟩, f, hf⟩
  refine ⟨b, s', rfl, hI, f, ?_⟩
  have hl2 : ((machP W w G L ll hn).thr s).length = ll.length := hlen
  rw [hl2] at hf
  unfold Mach.fin at hf
  rw [← hf]
  refine (fin_congr (P := fun s => s.Ok ll ∧ s.steps + s.left ll ≤ 40000000) (fun s t ⟨hs, _⟩ ht => ?_) (fun s t ⟨hs, hb⟩ ht hi => ?_) (fun s ⟨hs, _⟩ => ?_) f 0 s ⟨hok, hL⟩).symm
  · exact idle_thrs hlay hs _
  · have hi2 : s.idle ll (t : Int) = false := by rw [← idle_thrs hlay hs]; exact hi
    have hl := left_one hs hi2
    refine ⟨hs.one _ (by omega), ?_⟩
    show (s.one ll (t : Int)).steps + (s.one ll (t : Int)).left ll ≤ _
    rw [one_steps]
    omega
  · exact done_thrs hlay hs
/-- what stays on the way to the ends -/
def St.Fine (ll : List (List Plan)) (s : St) : Prop := s.Ok ll ∧ s.Good ll ∧ s.steps + s.left ll ≤ 40000000
theorem rfin_fine {most : Int} {f : Nat} {b : Bool} {s' : St} (hn : Fits ll) (h : s.Fine ll) (hf : rfin ll most f 0 s = some (b, s')) : s'.Fine ll := by
  refine fin_keep (P := fun s => s.Fine ll) (fun s t ⟨hs, hg, hb⟩ hi => ?_) f 0 s (b, s') h hf
  have hl := left_one hs hi
  refine ⟨hs.one _ (by omega), hg.one hn hs _, ?_⟩
  rw [one_steps]
  omega
theorem Twin.finP (h : Twin W ll wd q L s1 s2 w) (hn : Fits ll) (most : Int) (hf : s1.Fine ll) : Calls Try.prog 20 #[.pointer (some ⟨L.rp, 0, none⟩), .int .i64 most] w fun e w' => ∃ b s1', e = .returned (.bool b) ∧ Twin W ll wd q L s1' s2 w' ∧ ∃ f, rfin ll most f 0 s1 = some (b, s1') := by
  obtain ⟨U, h⟩ := h
  obtain ⟨G, hp, k⟩ := h.openP
  refine (PFinish_any hp hn most hf.2.2).mono ?_
  rintro e w' ⟨b, s', rfl, ⟨G', h1, h2⟩, hr⟩
  obtain ⟨U', h', _⟩ := k _ _ _ h1 h2
  exact ⟨b, s', rfl, ⟨U', h'⟩, hr⟩
theorem Twin.finZ (h : Twin W ll wd q L s1 s2 w) (hn : Fits ll) (most : Int) (hf : s2.Fine ll) : Calls Try.prog 41 #[.pointer (some ⟨q, 0, none⟩), .int .i64 most] w fun e w' => ∃ b s2', e = .returned (.bool b) ∧ Twin W ll wd q L s1 s2' w' ∧ ∃ f, rfin ll most f 0 s2 = some (b, s2') := by
  obtain ⟨U, h⟩ := h
  obtain ⟨lab, rm, hz, k⟩ := h.openZ
  refine (RFinish_any (w := w) ⟨lab, hz, Zk.refl w lab⟩ hf.1 hn most hf.2.2).mono ?_
  rintro e w' ⟨b, s', rfl, ⟨lab', h1, h2⟩, hr⟩
  obtain ⟨U', h', _⟩ := k _ _ _ h1 h2
  exact ⟨b, s', rfl, ⟨U', h'⟩, hr⟩
theorem many_left : ∀ (vs : List Int) (s : St), s.Ok ll → s.steps + vs.length ≤ 40000000 → (s.many ll vs).left ll ≤ s.left ll
  | [], s, _, _ => Nat.le_refl _
  | t :: vs, s, ok, h => by
    have h1 : s.steps + (vs.length + 1) ≤ 40000000 := h
    exact Nat.le_trans (many_left vs (s.one ll t) (ok.one t (by omega)) (by rw [one_steps]; omega)) (one_left_le ok t)
theorem start_left (ll : List (List Plan)) (A : Mem) : (St.start ll A).left ll ≤ plansWt ll := by
  have h1 : ∀ (l : List Plan), (⟨0, 0, List.replicate l.length []⟩ : TS).rem l ≤ planWt l := by
    intro l
    have h2 : ∀ l : List Plan, (l.map Plan.cost).sum ≤ (l.map Plan.wt).sum := by
      intro l
      induction l with
      | nil => exact Nat.le_refl _
      | cons p l ih =>
        have h3 : p.cost ≤ p.wt := by
          have h4 := wt_len (fun d : Do => 1 + d.vals.length) (fun _ => by omega) p.l
          have h5 : p.wt = 1 + (p.l.map fun d => 1 + d.vals.length).sum := rfl
          unfold Plan.cost
          split <;> omega
        simp only [List.map_cons, List.sum_cons]
        omega
    have := h2 l
    show ((l.drop 0).map Plan.cost).sum - 0 ≤ 1 + (l.map Plan.wt).sum
    rw [List.drop_zero]
    omega
  have h2 : ∀ ll : List (List Plan), (List.zipWith TS.rem (ll.map fun l => (⟨0, 0, List.replicate l.length []⟩ : TS)) ll).sum ≤ (ll.map planWt).sum := by
    intro ll
    induction ll with
    | nil => exact Nat.le_refl _
    | cons l ll ih =>
      have := h1 l
      simp only [List.map_cons, List.zipWith_cons_cons, List.sum_cons]
      omega
  have := h2 ll
  show (List.zipWith TS.rem (ll.map fun l => (⟨0, 0, List.replicate l.length []⟩ : TS)) ll).sum ≤ 1 + (ll.map planWt).sum
  omega
theorem start_fine {ll : List (List Plan)} (hw : plansWt ll ≤ 1048576) (vs : List Int) (hn : Fits ll) (hl : vs.length ≤ 20000000) (ok : (St.start ll mem0).Ok ll) : ((St.start ll mem0).many ll vs).Fine ll := by
  have h0 : (St.start ll mem0).steps = 0 := rfl
  obtain ⟨a, b⟩ := many_good vs _ hn ok (start_good ll) (by omega)
  have c := many_left vs _ ok (by omega)
  have d := start_left ll mem0
  refine ⟨a, b, ?_⟩
  rw [many_steps]
  omega
end
end Go.Proofs.Ytkaplifhaafpdaa
end

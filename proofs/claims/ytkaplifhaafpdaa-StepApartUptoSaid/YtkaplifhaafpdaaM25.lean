/-
  StepLong: too many threads, too many calls of one, no memory. No condition.
-/
import Derived.Test.YtkaplifhaafpdaaM24
namespace Go.Proofs.Ytkaplifhaafpdaa
open Go Go.RowKit
set_option linter.unusedSimpArgs false
set_option linter.unusedVariables false
theorem New_nilm (w : World) (l : Value) : Calls Try.prog 19 #[.pointer none, l] w fun e w' => e = .returned (.tuple #[.pointer none, .int .i64 1]) ∧ w = w' := by
  go_enter Try.func19, Try.ntmps19
  go_wp2
  go_ret2
  exact ⟨rfl, rfl⟩
theorem New_many (w : World) (bm n c : Nat) (p : Option Addr) (h : 64 < n) : Calls Try.prog 19 #[.pointer (some ⟨bm, 0, none⟩), .slice p n c] w fun e w' => e = .returned (.tuple #[.pointer none, .int .i64 6]) ∧ w = w' := by
  have h1 : decide ((64 : Int) < (n : Int)) = true := by simp; omega
  go_enter Try.func19, Try.ntmps19
  go_wp2
  go_ret2
  exact ⟨rfl, rfl⟩
theorem New_deep {w : World} {ps : List (List Value)} {p : Option Addr} {c : Nat} (bm : Nat) (h : Reads2 w (.slice p ps.length c) ps) (hn : ps.length ≤ 64) (hl : tooLong ps = true) : Calls Try.prog 19 #[.pointer (some ⟨bm, 0, none⟩), .slice p ps.length c] w fun e w' => e = .returned (.tuple #[.pointer none, .int .i64 6]) ∧ w = w' := by
  have HW := within_any h (by omega)
  rw [hl] at HW
  have HW := Lib.hid HW
  have h1 : decide ((64 : Int) < (ps.length : Int)) = false := by simp; omega
  clear h hl
  go_enter Try.func19, Try.ntmps19
  go_wp2_with fail
  refine HW.out.mono ?_
  rintro e w1 ⟨rfl, rfl⟩
  go_wp2
  go_ret2
  exact ⟨rfl, rfl⟩
theorem run_slots {ty e : TypeId} {z : Value} {bts : Nat} (hu : Try.prog.underlying ty = some (.slice e)) (hi : (Try.prog.info? e).map (fun i => (i.zero, i.size, i.bytes)) = some (some z, 1, bts)) (hz : z.cells = #[z]) (hb : bts ≤ 24) (n : Nat) (h : n ≤ 1000000) (u : World) :
    (Instr.makeSlice ty (.int .i64 (n : Int)) (.int .i64 (n : Int))).run Try.prog u = .ok (.slice (some ⟨u.heap.size, 0, none⟩) n n) (u.alloc (.cells (List.replicate n z).toArray e)) := by
  obtain ⟨i0, hi, hz0, hz1, hz2⟩ := info_parts hi
  have h := run_make (P := Try.prog) u ty e i0 z hu hi hz0 .i64 .i64 (n : Int) (n : Int) (by omega) (Int.le_refl _) (by rw [hz2]; have : n * bts ≤ n * 24 := Nat.mul_le_mul_left n hb; have := Nat.mul_comm n bts; simp; omega) (by omega)
  have e : madeCells #[z] n = (List.replicate n z).toArray := by
    apply Array.toList_inj.1
    rw [toList_madeCells_one]
  rw [← e]
  simpa [hz1, hz] using h
theorem infoPP : (Try.prog.info? 38).map (fun i => (i.zero, i.size, i.bytes)) = some (some (.slice none 0 0), 1, 24) := by kernel_rfl
-- [cases]
theorem min1_any (t : Int) (w : World) : Calls Try.prog 22 #[.int .i64 t] w fun e w' => e = .returned (.int .i64 (if 0 < t then 1 else 0)) ∧ w = w' := by
  by_cases h : 0 < t
  · rw [if_pos h]
    have h1 : decide ((0 : Int) < t) = true := by simpa using h
    go_enter Try.func22, Try.ntmps22
    go_wp2
    go_ret
    exact ⟨rfl, rfl⟩
  · rw [if_neg h]
    have h1 : decide ((0 : Int) < t) = false := by simpa using h
    go_enter Try.func22, Try.ntmps22
    go_wp2
    go_ret
    exact ⟨rfl, rfl⟩
theorem long_rows (wl : World) (n k : Nat) (h1 : 1 ≤ n) : ∃ ps : List (List Value), ps.length = n ∧ Reads2 ((wl.alloc (.cells ((Array.replicate n (Value.slice none 0 0)).setIfInBounds (n - 1) (.slice (some ⟨wl.heap.size + 1, 0, none⟩) k k)) 38)).alloc (.cells (Array.replicate k Value.nilIface) 80)) (.slice (some ⟨wl.heap.size, 0, none⟩) n n) ps ∧
    Below wl.heap.size wl ((wl.alloc (.cells ((Array.replicate n (Value.slice none 0 0)).setIfInBounds (n - 1) (.slice (some ⟨wl.heap.size + 1, 0, none⟩) k k)) 38)).alloc (.cells (Array.replicate k Value.nilIface) 80)) ∧
    (∀ l ∈ ps, (∀ p ∈ l, p = .nilIface) ∧ l.length ≤ k) ∧ (ps.map List.length).sum = k ∧ tooLong ps = decide (4096 < k) := by
  obtain ⟨m, rfl⟩ : ∃ m, n = m + 1 := ⟨n - 1, by omega⟩
  rw [Nat.add_sub_cancel]
  generalize hA : (Array.replicate (m + 1) (Value.slice none 0 0)).setIfInBounds m (.slice (some ⟨wl.heap.size + 1, 0, none⟩) k k) = ar
  have b2 := (Blk.made wl 38 ar).alloc (.cells (Array.replicate k Value.nilIface) 80)
  have b3 := Blk.made (wl.alloc (.cells ar 38)) 80 (Array.replicate k Value.nilIface)
  have f0 : Below wl.heap.size wl ((wl.alloc (.cells ar 38)).alloc (.cells (Array.replicate k Value.nilIface) 80)) := ((Below.refl _ wl).alloc (Nat.le_refl _) _).alloc (by simp) _
  have hsz : (wl.alloc (.cells ar 38)).heap.size = wl.heap.size + 1 := by simp
  rw [hsz] at b3
  generalize (wl.alloc (.cells ar 38)).alloc (.cells (Array.replicate k Value.nilIface) 80) = wa at *
  refine ⟨List.replicate m [] ++ [List.replicate k .nilIface], by simp, ⟨List.replicate m (.slice none 0 0) ++ [.slice (some ⟨wl.heap.size + 1, 0, none⟩) k k], ⟨some ⟨wl.heap.size, 0, none⟩, m + 1, by simp, (by intro e; cases e), ?_⟩, by simp, ?_⟩, f0, ?_, by simp, ?_⟩
  · intro j x hx
    refine ⟨_, 0, rfl, Blk.lt b2, ?_⟩
    have hj := (List.getElem?_eq_some_iff.1 hx).1
    simp at hj
    rw [Nat.zero_add, Blk.cell b2 j, ← hA, Array.getElem?_setIfInBounds]
    by_cases e : m = j
    · subst e
      rw [if_pos rfl, if_pos (by simp)]
      rw [List.getElem?_append_right (by simp)] at hx
      simpa using hx
    · rw [if_neg e]
      rw [List.getElem?_append_left (by simp; omega)] at hx
      rw [List.getElem?_replicate, if_pos (by omega)] at hx
      rw [Array.getElem?_replicate, if_pos (by omega)]
      exact hx
  · intro j u l hu hl
    by_cases hj : j < m
    · rw [List.getElem?_append_left (by simp; omega), List.getElem?_replicate, if_pos hj] at hu hl
      simp at hu hl
      subst hu hl
      exact ⟨none, 0, rfl, fun _ => rfl, fun j x hx => by simp at hx⟩
    · have h2 := (List.getElem?_eq_some_iff.1 hl).1
      simp at h2
      obtain rfl : j = m := by omega
      rw [List.getElem?_append_right (by simp)] at hu hl
      simp at hu hl
      subst hu hl
      have := reads_blk b3 (n := k) (by simp) k
      simpa using this
  · intro l hl
    rcases List.mem_append.1 hl with hl | hl
    · obtain ⟨_, rfl⟩ := List.mem_replicate.1 hl
      exact ⟨(by intro p hp; cases hp), by simp⟩
    · rw [List.mem_singleton] at hl
      subst hl
      exact ⟨fun p hp => (List.mem_replicate.1 hp).2, by simp⟩
  · unfold tooLong
    rw [List.any_append]
    have : ((List.replicate m ([] : List Value)).any fun l => decide (4096 < l.length)) = false := by
      rw [List.any_eq_false]
      intro l hl
      obtain ⟨_, rfl⟩ := List.mem_replicate.1 hl
      simp
    rw [this]
    simp
theorem none_rows (wl : World) : ∃ ps : List (List Value), ps = [] ∧ Reads2 (wl.alloc (.cells (Array.replicate 0 (Value.slice none 0 0)) 38)) (.slice (some ⟨wl.heap.size, 0, none⟩) ps.length 0) ps ∧ Below wl.heap.size wl (wl.alloc (.cells (Array.replicate 0 (Value.slice none 0 0)) 38)) ∧ (∀ l ∈ ps, (∀ p ∈ l, p = .nilIface) ∧ l.length ≤ 0) ∧ (ps.map List.length).sum = 0 ∧ tooLong ps = false :=
  ⟨[], rfl, ⟨[], ⟨_, _, rfl, (by intro e; cases e), (by intro j x hx; simp at hx)⟩, rfl, (by intro j u l hu; simp at hu)⟩, (Below.refl _ wl).alloc (Nat.le_refl _) _, (by intro l hl; cases hl), rfl, rfl⟩
set_option maxHeartbeats 2000000 in
set_option maxRecDepth 100000 in
theorem StepLong_1 (n k : Nat) (h1 : 1 ≤ n) (h2 : n ≤ 64) (h3 : k ≤ 4096) (w : World) : Calls Try.prog 4 #[.int .i64 (n : Int), .int .i64 (k : Int)] w fun e w' => e = .returned (.bool true) ∧ Below w.heap.size w w' := by
  have t1 : decide ((n : Int) < 0) = false := by simp
  have t2 : decide ((300 : Int) < (n : Int)) = false := by simp; omega
  have t3 : decide ((k : Int) < 0) = false := by simp
  have t4 : decide ((12288 : Int) < (k : Int)) = false := by simp; omega
  have t5 : decide ((0 : Int) < (n : Int)) = true := by simp; omega
  have t6 : decide ((64 : Int) < (n : Int)) = false := by simp; omega
  have t7 : decide ((4096 : Int) < (k : Int)) = false := by simp; omega
  have t8 : decide (4096 < k) = false := by simp; omega
  have t9 : (if (0 : Int) < (n : Int) then (1 : Int) else 0) = 1 := if_pos (by omega)
  have HMIN := fun w => min1_any (n : Int) w
  rw [t9] at HMIN
  have m1 := run_slots Try.underlying37 infoPP rfl (by decide) n (by omega)
  have m2 := run_slots Try.underlying38 infoP rfl (by decide) k (by omega)
  go_enter Try.func4, Try.ntmps4
  go_wp2_with fail
  refine (live_any w).mono ?_
  rintro e wl ⟨rfl, hbl⟩
  have HBL := Lib.hid hbl
  clear hbl
  have b5 := (Blk.made wl 38 (Array.replicate n (Value.slice none 0 0))).alloc (.cells (Array.replicate k Value.nilIface) 80)
  have c5 := (b5.cell (n - 1)).trans (show (Array.replicate n (Value.slice none 0 0))[n - 1]? = some (.slice none 0 0) by rw [Array.getElem?_replicate, if_pos (by omega)])
  have f5 := b5.cold (n - 1)
  obtain ⟨ps, hps, hr, hbw, hnil, hsum, htl⟩ := long_rows wl n k h1
  have HR := Lib.hid hr
  have HBW : Hid (Below w.heap.size w _) := HBL.out.trans (hbw.mono HBL.out.size)
  have HN := Lib.hid hnil
  have HS := Lib.hid hsum
  have HT := Lib.hid htl
  clear b5 hr hbw hnil hsum htl HBL
  go_upto_region 8 with fail
  generalize ((wl.alloc (.cells ((Array.replicate n (Value.slice none 0 0)).setIfInBounds (n - 1) (.slice (some ⟨wl.heap.size + 1, 0, none⟩) k k)) 38)).alloc (.cells (Array.replicate k Value.nilIface) 80)) = w1 at *
  clear c5 f5 m1 m2
  subst hps
  rw [t8] at HT
  go_wp2_with fail
  refine (New_128 _).mono ?_
  rintro e w2 ⟨bm, rfl, hm, hb⟩
  have HRW := Lib.hid (HR.out.below hb)
  have HB2 : Hid (Below w.heap.size w w2) := HBW.out.trans (hb.mono HBW.out.size)
  obtain ⟨F, O2, -⟩ := Own.new w HBW.out hm hb
  have HO2 := Lib.hid O2
  clear hm hb O2 HBW HR
  generalize wl.heap.size = bl at *
  go_wp2_with fail
  refine (New_ok HRW.out (by omega) HT.out (fun l hl x hx => by rw [(HN.out l hl).1 x hx]; rfl)).mono ?_
  rintro e w3 ⟨rp, rfl, hN⟩
  obtain ⟨vws, T, HI⟩ : ∃ (vws : List Nat) (T : List Thr), ∃ hv : vws.length = ps.length, Hid ((LMach w bm rp k ps.length vws (by omega) (by omega) hv).I (T, 0, []) w3) := by
    obtain ⟨T, vws, cs, tv, hN⟩ := hN.out
    exact ⟨vws, T, hN.lv, hN.long HO2.out.mine HB2.out (by omega) (fun l hl => ⟨(HN.out l hl).1, by have := (HN.out l hl).2; omega⟩) HS.out (by omega)⟩
  obtain ⟨hv2, HI⟩ := HI
  have HFI := Lib.hid (LFinish (by omega) (by omega) hv2 HI.out rfl (most := (k : Int)) (by omega))
  clear hN HI HO2 HB2 HRW HN HS HT
  go_wp2_with fail
  refine (New_nilm _ _).mono ?_
  rintro e w4 ⟨rfl, rfl⟩
  go_wp2_with fail
  refine HFI.out.mono ?_
  rintro e w5 ⟨rfl, hf⟩
  obtain ⟨R, T5, evs, ro, hT, hpl, hd, hsz, hb5⟩ := hf.out
  obtain ⟨⟨cs, tv, ev, av, hx⟩, _⟩ := ro
  have HST := Lib.hid (steps_any hx)
  have HDN := Lib.hid (Done_any hx (by omega) (fun x hx => by have := hpl x hx; omega))
  rw [hd] at HDN
  have HB5 := Lib.hid (And.intro hb5 hsz)
  clear hx hf HFI hT hpl hd hb5 hsz
  go_wp2_with fail
  refine HST.out.mono ?_
  rintro e w6 ⟨rfl, rfl⟩
  go_wp2_with fail
  refine (HMIN _).mono ?_
  rintro e w6 ⟨rfl, rfl⟩
  go_wp2_with fail
  refine HDN.out.mono ?_
  rintro e w7 ⟨rfl, d, rfl⟩
  go_wp2_with fail
  go_ret
  exact ⟨rfl, HB5.out.1.trans (((Fr.refl (fun _ => False) w5).drawn d).to_below HB5.out.2 (fun _ _ e => e))⟩
set_option maxHeartbeats 2000000 in
set_option maxRecDepth 100000 in
theorem StepLong_2 (n k : Nat) (h1 : 1 ≤ n) (h2 : n ≤ 64) (h3 : 4096 < k) (h4 : k ≤ 12288) (w : World) : Calls Try.prog 4 #[.int .i64 (n : Int), .int .i64 (k : Int)] w fun e w' => e = .returned (.bool true) ∧ Below w.heap.size w w' := by
  have t1 : decide ((n : Int) < 0) = false := by simp
  have t2 : decide ((300 : Int) < (n : Int)) = false := by simp; omega
  have t3 : decide ((k : Int) < 0) = false := by simp
  have t4 : decide ((12288 : Int) < (k : Int)) = false := by simp; omega
  have t5 : decide ((0 : Int) < (n : Int)) = true := by simp; omega
  have t6 : decide ((64 : Int) < (n : Int)) = false := by simp; omega
  have t7 : decide ((4096 : Int) < (k : Int)) = true := by simp; omega
  have t8 : decide (4096 < k) = true := by simp; omega
  have m1 := run_slots Try.underlying37 infoPP rfl (by decide) n (by omega)
  have m2 := run_slots Try.underlying38 infoP rfl (by decide) k (by omega)
  go_enter Try.func4, Try.ntmps4
  go_wp2_with fail
  refine (live_any w).mono ?_
  rintro e wl ⟨rfl, hbl⟩
  have HBL := Lib.hid hbl
  clear hbl
  have b5 := (Blk.made wl 38 (Array.replicate n (Value.slice none 0 0))).alloc (.cells (Array.replicate k Value.nilIface) 80)
  have c5 := (b5.cell (n - 1)).trans (show (Array.replicate n (Value.slice none 0 0))[n - 1]? = some (.slice none 0 0) by rw [Array.getElem?_replicate, if_pos (by omega)])
  have f5 := b5.cold (n - 1)
  obtain ⟨ps, hps, hr, hbw, hnil, hsum, htl⟩ := long_rows wl n k h1
  have HR := Lib.hid hr
  have HBW : Hid (Below w.heap.size w _) := HBL.out.trans (hbw.mono HBL.out.size)
  have HN := Lib.hid hnil
  have HS := Lib.hid hsum
  have HT := Lib.hid htl
  clear b5 hr hbw hnil hsum htl HBL
  go_upto_region 8 with fail
  generalize ((wl.alloc (.cells ((Array.replicate n (Value.slice none 0 0)).setIfInBounds (n - 1) (.slice (some ⟨wl.heap.size + 1, 0, none⟩) k k)) 38)).alloc (.cells (Array.replicate k Value.nilIface) 80)) = w1 at *
  clear c5 f5 m1 m2
  subst hps
  rw [t8] at HT
  go_wp2_with fail
  refine (New_128 _).mono ?_
  rintro e w2 ⟨bm, rfl, hm, hb⟩
  have HRW := Lib.hid (HR.out.below hb)
  have HB2 : Hid (Below w.heap.size w w2) := HBW.out.trans (hb.mono HBW.out.size)
  obtain ⟨F, O2, -⟩ := Own.new w HBW.out hm hb
  have HO2 := Lib.hid O2
  clear hm hb O2 HBW HR
  generalize wl.heap.size = bl at *
  go_wp2_with fail
  refine (New_deep bm HRW.out (by omega) HT.out).mono ?_
  rintro e w3 ⟨rfl, rfl⟩
  clear HRW HN HS HT HO2
  go_wp2_with fail
  refine (New_nilm _ _).mono ?_
  rintro e w4 ⟨rfl, rfl⟩
  go_wp2_with fail
  go_ret
  exact ⟨rfl, HB2.out⟩
set_option maxHeartbeats 2000000 in
set_option maxRecDepth 100000 in
theorem StepLong_3 (n k : Nat) (h1 : 1 ≤ n) (h2 : 64 < n) (h3 : n ≤ 300) (h4 : k ≤ 12288) (w : World) : Calls Try.prog 4 #[.int .i64 (n : Int), .int .i64 (k : Int)] w fun e w' => e = .returned (.bool true) ∧ Below w.heap.size w w' := by
  have t1 : decide ((n : Int) < 0) = false := by simp
  have t2 : decide ((300 : Int) < (n : Int)) = false := by simp; omega
  have t3 : decide ((k : Int) < 0) = false := by simp
  have t4 : decide ((12288 : Int) < (k : Int)) = false := by simp; omega
  have t5 : decide ((0 : Int) < (n : Int)) = true := by simp; omega
  have t6 : decide ((64 : Int) < (n : Int)) = true := by simp; omega
  have m1 := run_slots Try.underlying37 infoPP rfl (by decide) n (by omega)
  have m2 := run_slots Try.underlying38 infoP rfl (by decide) k (by omega)
  go_enter Try.func4, Try.ntmps4
  go_wp2_with fail
  refine (live_any w).mono ?_
  rintro e wl ⟨rfl, hbl⟩
  have HBL := Lib.hid hbl
  clear hbl
  have b5 := (Blk.made wl 38 (Array.replicate n (Value.slice none 0 0))).alloc (.cells (Array.replicate k Value.nilIface) 80)
  have c5 := (b5.cell (n - 1)).trans (show (Array.replicate n (Value.slice none 0 0))[n - 1]? = some (.slice none 0 0) by rw [Array.getElem?_replicate, if_pos (by omega)])
  have f5 := b5.cold (n - 1)
  obtain ⟨ps, hps, hr, hbw, hnil, hsum, htl⟩ := long_rows wl n k h1
  have HR := Lib.hid hr
  have HBW : Hid (Below w.heap.size w _) := HBL.out.trans (hbw.mono HBL.out.size)
  have HN := Lib.hid hnil
  have HS := Lib.hid hsum
  have HT := Lib.hid htl
  clear b5 hr hbw hnil hsum htl HBL
  go_upto_region 8 with fail
  generalize ((wl.alloc (.cells ((Array.replicate n (Value.slice none 0 0)).setIfInBounds (n - 1) (.slice (some ⟨wl.heap.size + 1, 0, none⟩) k k)) 38)).alloc (.cells (Array.replicate k Value.nilIface) 80)) = w1 at *
  clear c5 f5 m1 m2
  subst hps
  go_wp2_with fail
  refine (New_128 _).mono ?_
  rintro e w2 ⟨bm, rfl, hm, hb⟩
  have HRW := Lib.hid (HR.out.below hb)
  have HB2 : Hid (Below w.heap.size w w2) := HBW.out.trans (hb.mono HBW.out.size)
  obtain ⟨F, O2, -⟩ := Own.new w HBW.out hm hb
  have HO2 := Lib.hid O2
  clear hm hb O2 HBW HR
  generalize wl.heap.size = bl at *
  go_wp2_with fail
  refine (New_many _ bm ps.length _ _ h2).mono ?_
  rintro e w3 ⟨rfl, rfl⟩
  clear HRW HN HS HT HO2
  go_wp2_with fail
  refine (New_nilm _ _).mono ?_
  rintro e w4 ⟨rfl, rfl⟩
  go_wp2_with fail
  go_ret
  exact ⟨rfl, HB2.out⟩
set_option maxHeartbeats 2000000 in
set_option maxRecDepth 100000 in
theorem StepLong_0 (k : Nat) (h4 : k ≤ 12288) (w : World) : Calls Try.prog 4 #[.int .i64 0, .int .i64 (k : Int)] w fun e w' => e = .returned (.bool true) ∧ Below w.heap.size w w' := by
  have t3 : decide ((k : Int) < 0) = false := by simp
  have t4 : decide ((12288 : Int) < (k : Int)) = false := by simp; omega
  have m1 := run_slots Try.underlying37 infoPP rfl (by decide) 0 (by omega)
  simp only [Int.natCast_zero] at m1
  have HMIN := fun w => min1_any 0 w
  go_enter Try.func4, Try.ntmps4
  go_wp2_with fail
  refine (live_any w).mono ?_
  rintro e wl ⟨rfl, hbl⟩
  have HBL := Lib.hid hbl
  clear hbl
  obtain ⟨ps, hps, hr, hbw, hnil, hsum, htl⟩ := none_rows wl
  have HR := Lib.hid hr
  have HBW : Hid (Below w.heap.size w _) := HBL.out.trans (hbw.mono HBL.out.size)
  have HN := Lib.hid hnil
  have HS := Lib.hid hsum
  have HT := Lib.hid htl
  clear hr hbw hnil hsum htl HBL
  go_upto_region 8 with fail
  clear m1
  subst hps
  go_wp2_with fail
  refine (New_128 _).mono ?_
  rintro e w2 ⟨bm, rfl, hm, hb⟩
  have HRW := Lib.hid (HR.out.below hb)
  have HB2 : Hid (Below w.heap.size w w2) := HBW.out.trans (hb.mono HBW.out.size)
  obtain ⟨F, O2, -⟩ := Own.new w HBW.out hm hb
  have HO2 := Lib.hid O2
  clear hm hb O2 HBW HR
  generalize wl.heap.size = bl at *
  go_wp2_with fail
  have HNEW : Hid (Calls Try.prog 19 #[.pointer (some ⟨bm, 0, none⟩), .slice (some ⟨bl, 0, none⟩) 0 0] w2 fun e w' => ∃ rp, e = .returned (.tuple #[.pointer (some ⟨rp, 0, none⟩), .int .i64 0]) ∧ Hid (∃ T vws cs tv, NewAt w2 w' rp bm [] 0 T vws cs tv)) := New_ok (ps := []) HRW.out (by decide) rfl (fun l hl => by cases hl)
  refine HNEW.out.mono ?_
  rintro e w3 ⟨rp, rfl, hN⟩
  obtain ⟨vws, T, HI⟩ : ∃ (vws : List Nat) (T : List Thr), ∃ hv : vws.length = 0, Hid ((LMach w bm rp 0 0 vws (by omega) (by omega) hv).I (T, 0, []) w3) := by
    obtain ⟨T, vws, cs, tv, hN⟩ := hN.out
    exact ⟨vws, T, hN.lv, NewAt.long (ps := []) (K := 0) hN HO2.out.mine HB2.out (by decide) (fun l hl => by cases hl) rfl (by omega)⟩
  obtain ⟨hv2, HI⟩ := HI
  have HFI := Lib.hid (LFinish (by omega) (by omega) hv2 HI.out rfl (most := (k : Int)) (by omega))
  clear hN HI HO2 HB2 HRW HN HS HT
  go_wp2_with fail
  refine (New_nilm _ _).mono ?_
  rintro e w4 ⟨rfl, rfl⟩
  go_wp2_with fail
  refine HFI.out.mono ?_
  rintro e w5 ⟨rfl, hf⟩
  obtain ⟨R, T5, evs, ro, hT, hpl, hd, hsz, hb5⟩ := hf.out
  obtain ⟨⟨cs, tv, ev, av, hx⟩, _⟩ := ro
  have HST := Lib.hid (steps_any hx)
  have HDN := Lib.hid (Done_any hx (by omega) (fun x hx => by have := hpl x hx; omega))
  rw [hd] at HDN
  have HB5 := Lib.hid (And.intro hb5 hsz)
  clear hx hf HFI hT hpl hd hb5 hsz
  go_wp2_with fail
  refine HST.out.mono ?_
  rintro e w6 ⟨rfl, rfl⟩
  go_wp2_with fail
  refine (HMIN _).mono ?_
  rintro e w6 ⟨rfl, rfl⟩
  go_wp2_with fail
  refine HDN.out.mono ?_
  rintro e w7 ⟨rfl, d, rfl⟩
  go_wp2_with fail
  go_ret
  exact ⟨rfl, HB5.out.1.trans (((Fr.refl (fun _ => False) w5).drawn d).to_below HB5.out.2 (fun _ _ e => e))⟩
set_option maxRecDepth 100000 in
theorem StepLong_e0 (t k : Int) (w : World) (h : t < 0) : Calls Try.prog 4 #[.int .i64 t, .int .i64 k] w fun e w' => e = .returned (.bool true) ∧ Below w.heap.size w w' := by
  have t1 : decide (t < 0) = true := by simp; omega
  go_enter Try.func4, Try.ntmps4
  go_wp2_with fail
  refine (live_any w).mono ?_
  rintro e wl ⟨rfl, hbl⟩
  have HBL := Lib.hid hbl
  clear hbl
  go_wp2
  go_ret
  exact ⟨rfl, HBL.out⟩
set_option maxRecDepth 100000 in
theorem StepLong_e1 (t k : Int) (w : World) (h0 : ¬ t < 0) (h : 300 < t) : Calls Try.prog 4 #[.int .i64 t, .int .i64 k] w fun e w' => e = .returned (.bool true) ∧ Below w.heap.size w w' := by
  have t1 : decide (t < 0) = false := by simp; omega
  have t2 : decide ((300 : Int) < t) = true := by simp; omega
  go_enter Try.func4, Try.ntmps4
  go_wp2_with fail
  refine (live_any w).mono ?_
  rintro e wl ⟨rfl, hbl⟩
  have HBL := Lib.hid hbl
  clear hbl
  go_wp2
  go_ret
  exact ⟨rfl, HBL.out⟩
set_option maxRecDepth 100000 in
theorem StepLong_e2 (t k : Int) (w : World) (h0 : ¬ t < 0) (h1 : ¬ 300 < t) (h : k < 0) : Calls Try.prog 4 #[.int .i64 t, .int .i64 k] w fun e w' => e = .returned (.bool true) ∧ Below w.heap.size w w' := by
  have t1 : decide (t < 0) = false := by simp; omega
  have t2 : decide ((300 : Int) < t) = false := by simp; omega
  have t3 : decide (k < 0) = true := by simp; omega
  go_enter Try.func4, Try.ntmps4
  go_wp2_with fail
  refine (live_any w).mono ?_
  rintro e wl ⟨rfl, hbl⟩
  have HBL := Lib.hid hbl
  clear hbl
  go_wp2
  go_ret
  exact ⟨rfl, HBL.out⟩
set_option maxRecDepth 100000 in
theorem StepLong_e3 (t k : Int) (w : World) (h0 : ¬ t < 0) (h1 : ¬ 300 < t) (h2 : ¬ k < 0) (h : 12288 < k) : Calls Try.prog 4 #[.int .i64 t, .int .i64 k] w fun e w' => e = .returned (.bool true) ∧ Below w.heap.size w w' := by
  have t1 : decide (t < 0) = false := by simp; omega
  have t2 : decide ((300 : Int) < t) = false := by simp; omega
  have t3 : decide (k < 0) = false := by simp; omega
  have t4 : decide ((12288 : Int) < k) = true := by simp; omega
  go_enter Try.func4, Try.ntmps4
  go_wp2_with fail
  refine (live_any w).mono ?_
  rintro e wl ⟨rfl, hbl⟩
  have HBL := Lib.hid hbl
  clear hbl
  go_wp2
  go_ret
  exact ⟨rfl, HBL.out⟩
theorem StepLong_any (t k : Int) (w : World) : Calls Try.prog 4 #[.int .i64 t, .int .i64 k] w fun e w' => e = .returned (.bool true) ∧ Below w.heap.size w w' := by
  by_cases h0 : t < 0
  · exact StepLong_e0 t k w h0
  by_cases h1 : 300 < t
  · exact StepLong_e1 t k w h0 h1
  by_cases h2 : k < 0
  · exact StepLong_e2 t k w h0 h1 h2
  by_cases h3 : 12288 < k
  · exact StepLong_e3 t k w h0 h1 h2 h3
  obtain ⟨n, rfl⟩ : ∃ n : Nat, t = n := ⟨t.toNat, by omega⟩
  obtain ⟨m, rfl⟩ : ∃ m : Nat, k = m := ⟨k.toNat, by omega⟩
  rcases Nat.eq_zero_or_pos n with rfl | h4
  · exact StepLong_0 m (by omega) w
  by_cases h5 : n ≤ 64
  · by_cases h6 : m ≤ 4096
    · exact StepLong_1 n m h4 h5 h6 w
    · exact StepLong_2 n m h4 h5 (by omega) (by omega) w
  · exact StepLong_3 n m h4 (by omega) (by omega) (by omega) w
end Go.Proofs.Ytkaplifhaafpdaa

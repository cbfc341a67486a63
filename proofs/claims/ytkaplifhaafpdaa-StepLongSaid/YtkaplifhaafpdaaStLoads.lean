/-
  StepLoads: a Load of any cell. No condition.
-/
import Derived.Test.YtkaplifhaafpdaaStLive
namespace Go.Proofs.Ytkaplifhaafpdaa
open Go Go.RowKit
set_option linter.unusedSimpArgs false
set_option linter.unusedVariables false
theorem LStep_o {w0 w : World} {F : Nat → Prop} {bm v pb : Nat} {A : Mem} {th made a y : Int} (h : Own w0 w F bm A) (hv : VW w v bm th made) (hF : ¬ F v) (hB : w0.heap.size ≤ v) (hl : LD w pb a false y) (hFp : ¬ F pb) (hBp : w0.heap.size ≤ pb) (h0 : 0 ≤ a) (ht : A.Fit) (hm0 : 0 ≤ made) (hm1 : made ≤ 1000000000) :
    Calls Try.prog 17 #[.pointer (some ⟨pb, 0, none⟩), .pointer (some ⟨v, 0, none⟩)] w fun e w' => e = .returned (.bool true) ∧ ∃ F', Own w0 w' F' bm (A.load th a) ∧ VW w' v bm th (made + 1) ∧ ¬ F' v ∧ ¬ F' pb ∧ LD w' pb a true (A.peek a) := by
  refine (LStep_on h.mine.1 hv hl hFp h0 ht.n ht.t hm0 hm1).mono ?_
  rintro e w' ⟨rfl, hm, hv', hl', hf⟩
  refine ⟨rfl, _, ⟨⟨hm.tight, ?_⟩, h.below.trans (hf.to_below h.size ?_)⟩, hv', ?_, ?_, hl'⟩
  · rintro b ⟨⟨hb | hb, _⟩, hl⟩
    · exact ⟨(h.mine.2 b hb).1, hl⟩
    · exact ⟨Nat.le_trans h.size hb, hl⟩
  · rintro k hk (e | e | e)
    · have := (h.mine.2 k e).1; omega
    · omega
    · omega
  · rintro ⟨⟨e | e, _⟩, _⟩
    · exact hF e
    · have : v < w.heap.size := Blk.lt hv
      have : w.heap.size ≤ v := e
      omega
  · rintro ⟨⟨_, e⟩, _⟩
    exact e rfl
theorem made_peek (a y : Int) (h0 : 0 ≤ a) : ((Mem.made 128).store 0 a y).peek a = if a < 128 then y else 0 := by
  obtain ⟨n, rfl⟩ : ∃ n : Nat, a = n := ⟨a.toNat, by omega⟩
  simp only [Mem.peek, Mem.store, Mem.note, Mem.put, Mem.made, Int.toNat_natCast]
  by_cases h : n < 128
  · rw [if_pos (by omega), List.getD_eq_getElem?_getD, List.getElem?_set_self (by simpa using h)]
    rfl
  · rw [if_neg (by omega), List.getD_eq_getElem?_getD, List.getElem?_eq_none (by simp; omega)]
    rfl
theorem fit_made : (Mem.made 128).Fit := ⟨by simp [Mem.made], by simp [Mem.made], by simp [Mem.made]⟩
theorem fit_store {A : Mem} {t x u : Int} (h : A.Fit) (hl : A.trace.length ≤ 1000) : (A.store t x u).Fit := ⟨by simpa [Mem.store, Mem.note, Mem.put] using h.n, by simp [Mem.store, Mem.note, Mem.put]; omega, by simpa [Mem.store, Mem.note, Mem.put] using h.x⟩
theorem fit_load {A : Mem} {t x : Int} (h : A.Fit) (hl : A.trace.length ≤ 1000) : (A.load t x).Fit := ⟨by simpa [Mem.load, Mem.note] using h.n, by simp [Mem.load, Mem.note]; omega, by simpa [Mem.load, Mem.note] using h.x⟩
set_option maxHeartbeats 2000000 in
set_option maxRecDepth 100000 in
theorem StepLoads_any (a y : Int) (w : World) (h0 : 0 ≤ a) : Calls Try.prog 3 #[.int .u64 a, .int .u64 y] w fun e w' => e = .returned (.bool true) ∧ Below w.heap.size w w' := by
  have hlt : ∃ want : Int, ((a < 128 ∧ want = y) ∨ (¬ a < 128 ∧ want = 0)) ∧ ((Mem.made 128).store 0 a y).peek a = want := by
    refine ⟨if a < 128 then y else 0, ?_, made_peek a y h0⟩
    by_cases h : a < 128
    · exact .inl ⟨h, by rw [if_pos h]⟩
    · exact .inr ⟨h, by rw [if_neg h]⟩
  obtain ⟨want, hw, hpk⟩ := hlt
  have HW := Lib.hid hw
  have HPK := Lib.hid hpk
  clear hw hpk
  go_enter Try.func3, Try.ntmps3
  go_wp2_with fail
  refine (live_any w).mono ?_
  rintro e wl ⟨rfl, hbl⟩
  have HBL := Lib.hid hbl
  clear hbl
  go_wp2_with fail
  refine (New_128 wl).mono ?_
  rintro e w1 ⟨bm, rfl, hm, hb⟩
  obtain ⟨F, O1, -⟩ := Own.new w HBL.out hm hb
  have HO1 := Lib.hid O1
  clear hm hb O1
  go_wp2_with fail
  refine (View_any w1 bm 0).mono ?_
  rintro e w2 ⟨rfl, hw2⟩
  obtain ⟨O2, hv2, hF2, -⟩ := HO1.out.view 0 hw2
  have hB : w.heap.size ≤ w1.heap.size := HO1.out.size
  generalize w1.heap.size = v at *
  have HS := Lib.hid (Store_o O2 hv2 hF2 hB a y h0 fit_made (by decide) (by decide))
  have HB := Lib.hid hB
  clear hw2 HO1 O2 hv2 hF2 hB
  go_wp2_with fail
  refine HS.out.mono ?_
  rintro e w3 ⟨rfl, F3, O3, hv3, hF3, -, -⟩
  have HO3 := Lib.hid (And.intro O3 (And.intro hv3 hF3))
  clear HS O3 hv3 hF3
  have hA1 : ((Mem.made 128).store 0 a y).Fit ∧ ((Mem.made 128).store 0 a y).trace.length = 1 := ⟨fit_store fit_made (by simp [Mem.made]), by simp [Mem.store, Mem.note, Mem.put, Mem.made]⟩
  generalize (Mem.made 128).store 0 a y = A1 at *
  go_wp2_with fail
  refine (NewLoad_any w3 a).mono ?_
  rintro e w4 ⟨rfl, hw4⟩
  obtain ⟨O3, hv3, hF3⟩ := HO3.out
  have hb4 : Below w3.heap.size w3 w4 := by rw [hw4]; exact (Below.refl _ w3).alloc (Nat.le_refl _) _
  have hl4 : LD w4 w3.heap.size a false 0 := by rw [hw4]; exact Blk.made w3 _ _
  have hsz : w.heap.size ≤ w3.heap.size := O3.size
  have hFp : ¬ F3 w3.heap.size := O3.mine.not (Nat.le_refl _)
  have hne : w3.heap.size ≠ v := fun e => by have : v < w3.heap.size := Blk.lt hv3; omega
  have HV := Lib.hid (LValue_any hl4)
  have HS := Lib.hid (LStep_o (O3.bel hb4) (hv3.fr (Fr.of_below (S := fun _ => False) hb4) id) hF3 HB.out hl4 hFp hsz h0 hA1.1 (by decide) (by decide))
  have HSZ := Lib.hid hsz
  have HNE := Lib.hid hne
  clear HO3 O3 hv3 hF3 hb4 hl4 hsz hFp hw4 hne
  generalize w3.heap.size = pb at *
  go_wp2_with fail
  refine HV.out.mono ?_
  rintro e w5 ⟨rfl, rfl⟩
  clear HV
  go_wp2_with fail
  refine HS.out.mono ?_
  rintro e w5 ⟨rfl, F5, O5, hv5, hF5, hFp5, hl5⟩
  rw [HPK.out] at hl5
  have H5 := Lib.hid (And.intro O5 (And.intro hv5 (And.intro hF5 (And.intro hFp5 hl5))))
  clear HS O5 hv5 hF5 hFp5 hl5
  have hA2 : (A1.load 0 a).Fit ∧ (A1.load 0 a).trace.length = 2 := ⟨fit_load hA1.1 (by omega), by simp [Mem.load, Mem.note, hA1.2]⟩
  generalize A1.load 0 a = A2 at *
  have hend : ∀ y2, Hid (Calls Try.prog 14 #[.pointer (some ⟨v, 0, none⟩), .int .u64 a, .int .u64 y2] w5 fun e w' => e = .returned (.tuple #[]) ∧ Hid (Below w.heap.size w w' ∧ VW w' v bm 0 3 ∧ LD w' pb a true want)) := by
    intro y2
    obtain ⟨O5, hv5, hF5, hFp5, hl5⟩ := H5.out
    refine (Store_o O5 hv5 hF5 HB.out a y2 h0 hA2.1 (by decide) (by decide)).mono ?_
    rintro e w6 ⟨rfl, F6, O6, hv6, -, -, hf6⟩
    exact ⟨rfl, O6.below, hv6, Blk.fr hl5 hf6 (by rintro (e | e); exact hFp5 e; exact HNE.out e)⟩
  clear H5
  have fin : ∀ w6, Hid (Below w.heap.size w w6 ∧ VW w6 v bm 0 3 ∧ LD w6 pb a true want) → Hid (Calls Try.prog 16 #[.pointer (some ⟨pb, 0, none⟩)] w6 (fun e w' => e = .returned (.int .u64 want) ∧ w6 = w') ∧ Calls Try.prog 17 #[.pointer (some ⟨pb, 0, none⟩), .pointer (some ⟨v, 0, none⟩)] w6 (fun e w' => e = .returned (.bool true) ∧ w6 = w') ∧ Calls Try.prog 18 #[.pointer (some ⟨v, 0, none⟩)] w6 (fun e w' => e = .returned (.int .i64 3) ∧ w6 = w')) := fun w6 h => ⟨LValue_any h.out.2.2, LStep_done h.out.2.2 _, Accesses_any h.out.2.1⟩
  rcases HW.out with ⟨hc, rfl⟩ | ⟨hc, rfl⟩
  all_goals
    clear HW HPK
    go_wp2_with fail
    refine (hend _).out.mono ?_
    rintro e w6 ⟨rfl, H6⟩
    have HF := fin w6 H6
    clear hend fin
    go_wp2_with fail
    refine HF.out.1.mono ?_
    rintro e w7 ⟨rfl, rfl⟩
    go_wp2_with fail
    refine HF.out.2.1.mono ?_
    rintro e w7 ⟨rfl, rfl⟩
    go_wp2_with fail
    refine HF.out.1.mono ?_
    rintro e w7 ⟨rfl, rfl⟩
    go_wp2_with fail
    refine HF.out.2.2.mono ?_
    rintro e w7 ⟨rfl, rfl⟩
    go_wp2_with fail
    go_ret
    exact ⟨rfl, H6.out.1⟩
end Go.Proofs.Ytkaplifhaafpdaa

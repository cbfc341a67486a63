/-
  What must be whatever is asked of the camera; procs and views that are nil. No condition.
-/
import Derived.Test.YtfbdgodebeggbaaCamT
import Derived.Test.YtfbdgodebeggbaaArBase
namespace Go.Proofs.Ytfbdgodebeggbaa
open Go Go.RowKit
set_option linter.unusedSimpArgs false
set_option linter.unusedVariables false
section
variable {w w' w1 : World} {F G S : Nat → Prop} {bm q r v p B : Nat} {A : Mem} {th made : Int}
theorem Stepped.below (h : Stepped w w' F bm v p th made A) (hF : ∀ b, F b → B ≤ b) (hv : B ≤ v) (hp : B ≤ p) (hB : B ≤ w.heap.size) : Below B w w' :=
  h.2.2.to_below hB (by rintro k hk (e | e | e); exact absurd (hF k e) (by omega); omega; omega)
theorem Now_nil (w : World) (x : Value) : Calls Try.prog 17 #[.pointer none, x] w fun e w' => e = .returned (.bool true) ∧ w = w' := by
  go_enter Try.func17, Try.ntmps17
  go_wp2
  go_ret
  exact ⟨rfl, rfl⟩
theorem Take_nil (w : World) (x : Value) : Calls Try.prog 18 #[.pointer none, x] w fun e w' => e = .returned (.bool true) ∧ w = w' := by
  go_enter Try.func18, Try.ntmps18
  go_wp2
  go_ret
  exact ⟨rfl, rfl⟩
theorem Now_Stamp_nil (w : World) : Calls Try.prog 19 #[.pointer none] w fun e w' => e = .returned (.int .u64 0) ∧ w = w' := by
  go_enter Try.func19, Try.ntmps19
  go_wp2
  go_ret
  exact ⟨rfl, rfl⟩
theorem Take_Stamp_nil (w : World) : Calls Try.prog 20 #[.pointer none] w fun e w' => e = .returned (.int .u64 0) ∧ w = w' := by
  go_enter Try.func20, Try.ntmps20
  go_wp2
  go_ret
  exact ⟨rfl, rfl⟩
theorem Take_Errno_nil (w : World) : Calls Try.prog 21 #[.pointer none] w fun e w' => e = .returned (.int .i64 1) ∧ w = w' := by
  go_enter Try.func21, Try.ntmps21
  go_wp2
  go_ret
  exact ⟨rfl, rfl⟩
theorem Take_Moved_nil (w : World) : Calls Try.prog 22 #[.pointer none] w fun e w' => e = .returned (.bool false) ∧ w = w' := by
  go_enter Try.func22, Try.ntmps22
  go_wp2
  go_ret
  exact ⟨rfl, rfl⟩
/-- a Now on a view that is nil -/
theorem Now_on_nil {c t : Int} (h : NowAt w p ⟨0, c, t⟩) : Calls Try.prog 17 #[.pointer (some ⟨p, 0, none⟩), .pointer none] w fun e w' => e = .returned (.bool true) ∧ NowAt w' p ⟨2, c, 0⟩ ∧ Fr (fun b => b = p) w w' := by
  have c1 : w.cell? ⟨p, 0, none⟩ = some (.int .i64 0) := Blk.cell h 0
  have c2 : w.cell? ⟨p, 1, none⟩ = some (.int .u64 c) := Blk.cell h 1
  have c3 : w.cell? ⟨p, 2, none⟩ = some (.int .u64 t) := Blk.cell h 2
  have f1 := Blk.cold h 0
  have f2 := Blk.cold h 2
  have HE : Hid (NowAt ((w.setCell ⟨p, 2, none⟩ (.int .u64 0)).setCell ⟨p, 0, none⟩ (.int .i64 2)) p ⟨2, c, 0⟩) := Lib.hid (Blk.put (Blk.put h 2 (.int .u64 0)) 0 (.int .i64 2))
  clear h
  go_enter Try.func17, Try.ntmps17
  go_wp2_with fail
  refine (Load_nil _ _).mono ?_
  rintro e w1 ⟨rfl, rfl⟩
  go_wp2
  go_ret
  exact ⟨rfl, HE.out, ((Fr.refl (fun b => b = p) w).put (p := ⟨p, 2, none⟩) (.inl rfl) _).put (p := ⟨p, 0, none⟩) (.inl rfl) _⟩
set_option maxRecDepth 100000 in
theorem Take_on_nil0 {c m t st : Int} {mv : Bool} (h : TakeAt w p ⟨0, c, m, t, st, 0, mv⟩) : Calls Try.prog 18 #[.pointer (some ⟨p, 0, none⟩), .pointer none] w fun e w' => e = .returned (.bool (!decide (0 < m))) ∧ TakeAt w' p (if 0 < m then ⟨1, c, m, 0, st, 0, mv⟩ else ⟨2, c, m, 0, st, 31, mv⟩) ∧ Fr (fun b => b = p) w w' := by
  have c1 : w.cell? ⟨p, 0, none⟩ = some (.int .i64 0) := Blk.cell h 0
  have c2 : w.cell? ⟨p, 1, none⟩ = some (.int .u64 c) := Blk.cell h 1
  have d2 : w.cell? ⟨p, 3, none⟩ = some (.int .u64 t) := Blk.cell h 3
  have f1 := Blk.cold h 3
  have hb1 := Blk.put h 3 (.int .u64 0)
  have hS1 := (Fr.refl (fun b => b = p) w).put (p := ⟨p, 3, none⟩) (.inl rfl) (.int .u64 0)
  clear h
  by_cases hy : 0 < m
  · have t1 : decide (0 < m) = true := by simpa using hy
    rw [if_pos hy, t1]
    clear hy
    go_enter Try.func18, Try.ntmps18
    go_wp2_with fail
    refine (Load_nil _ _).mono ?_
    rintro e w1 ⟨rfl, rfl⟩
    go_wp2_with fail
    clear c1 c2 d2 f1
    generalize w.setCell ⟨p, 3, none⟩ (.int .u64 0) = w2 at *
    have g1 : w2.cell? ⟨p, 3, none⟩ = some (.int .u64 0) := Blk.cell hb1 3
    have g2 : w2.cell? ⟨p, 2, none⟩ = some (.int .u64 m) := Blk.cell hb1 2
    have g3 : w2.cell? ⟨p, 0, none⟩ = some (.int .i64 0) := Blk.cell hb1 0
    have g4 := Blk.cold hb1 0
    go_quiet (fail)
    go_wp2
    go_ret
    exact ⟨rfl, Blk.put hb1 0 (.int .i64 1), (hS1.drawn _).put (p := ⟨p, 0, none⟩) (.inl rfl) _⟩
  · have t1 : decide (0 < m) = false := by simpa using hy
    rw [if_neg hy, t1]
    clear hy
    go_enter Try.func18, Try.ntmps18
    go_wp2_with fail
    refine (Load_nil _ _).mono ?_
    rintro e w1 ⟨rfl, rfl⟩
    go_wp2_with fail
    clear c1 c2 d2 f1
    generalize w.setCell ⟨p, 3, none⟩ (.int .u64 0) = w2 at *
    have g1 : w2.cell? ⟨p, 3, none⟩ = some (.int .u64 0) := Blk.cell hb1 3
    have g2 : w2.cell? ⟨p, 2, none⟩ = some (.int .u64 m) := Blk.cell hb1 2
    have g3 : w2.cell? ⟨p, 5, none⟩ = some (.int .i64 0) := Blk.cell hb1 5
    have g4 := Blk.cold hb1 5
    have g5 : w2.cell? ⟨p, 0, none⟩ = some (.int .i64 0) := Blk.cell hb1 0
    have g6 := Blk.cold hb1 0
    go_quiet (fail)
    go_wp2
    go_ret
    exact ⟨rfl, Blk.put (Blk.put hb1 5 (.int .i64 31)) 0 (.int .i64 2), ((hS1.drawn _).put (p := ⟨p, 5, none⟩) (.inl rfl) _).put (p := ⟨p, 0, none⟩) (.inl rfl) _⟩
set_option maxRecDepth 100000 in
theorem Take_on_nil1 {c m t st : Int} {mv : Bool} (h : TakeAt w p ⟨1, c, m, t, st, 0, mv⟩) : Calls Try.prog 18 #[.pointer (some ⟨p, 0, none⟩), .pointer none] w fun e w' => e = .returned (.bool true) ∧ TakeAt w' p ⟨2, c, m, t, t, 0, false⟩ ∧ Fr (fun b => b = p) w w' := by
  have c1 : w.cell? ⟨p, 0, none⟩ = some (.int .i64 1) := Blk.cell h 0
  have c2 : w.cell? ⟨p, 1, none⟩ = some (.int .u64 c) := Blk.cell h 1
  have c3 : w.cell? ⟨p, 3, none⟩ = some (.int .u64 t) := Blk.cell h 3
  have d1 : w.cell? ⟨p, 6, none⟩ = some (.bool mv) := Blk.cell h 6
  have d2 := Blk.cold h 6
  have SX : ∀ w' m', TakeAt w' p ⟨1, c, m, t, st, 0, m'⟩ → w'.cell? ⟨p, 1, none⟩ = some (.int .u64 c) ∧ w'.cell? ⟨p, 3, none⟩ = some (.int .u64 t) := fun w' m' hh => ⟨Blk.cell hh 1, Blk.cell hh 3⟩
  have H2 := Lib.hid SX
  clear SX
  have hS1 : Fr (fun b => b = p) w w.drew := (Fr.refl (fun b => b = p) w).drawn 1
  go_enter Try.func18, Try.ntmps18
  go_wp2_with fail
  go_region_held3 (fun w' => w'.cell? ⟨p, 1, none⟩ = some (.int .u64 c) ∧ w'.cell? ⟨p, 3, none⟩ = some (.int .u64 t))
    (first | exact ⟨c2, c3⟩ | exact H2.out _ false (Blk.put h 6 _))
    (first | ((with_reducible refine (Cas_nil _ _ _ _).mono ?_); rintro e w1 ⟨rfl, rfl⟩))
  have hb1 : TakeAt (w.setCell ⟨p, 6, none⟩ (.bool false)) p ⟨1, c, m, t, st, 0, false⟩ := Blk.put h 6 (.bool false)
  have hS2 : Fr (fun b => b = p) w (w.setCell ⟨p, 6, none⟩ (.bool false)).drew := ((Fr.refl (fun b => b = p) w).put (p := ⟨p, 6, none⟩) (.inl rfl) (.bool false)).drawn 1
  clear c1 c2 c3 d1 d2 h hS1
  generalize w.setCell ⟨p, 6, none⟩ (.bool false) = w2 at *
  have g1 : w2.cell? ⟨p, 3, none⟩ = some (.int .u64 t) := Blk.cell hb1 3
  have g2 : w2.cell? ⟨p, 4, none⟩ = some (.int .u64 st) := Blk.cell hb1 4
  have g3 : w2.cell? ⟨p, 0, none⟩ = some (.int .i64 1) := Blk.cell hb1 0
  have g4 := Blk.cold hb1 4
  have g5 := Blk.cold hb1 0
  go_wp2
  go_ret
  exact ⟨rfl, Blk.put (Blk.put hb1 4 (.int .u64 t)) 0 (.int .i64 2), (hS2.put (p := ⟨p, 4, none⟩) (.inl rfl) _).put (p := ⟨p, 0, none⟩) (.inl rfl) _⟩
/-- the memory of 'live', call by call -/
def L3 : Mem := (Mem.made 128).store 0 5 1
def L4 : Mem := L3.load 0 5
def L5 : Mem := L4.cas 0 5 1 2
theorem L3_facts : L3.peek 5 = 1 ∧ L3.cells.length ≤ 4194304 ∧ L3.trace.length ≤ 1000000000 := by decide +kernel
theorem L4_facts : L4.hit 5 1 = true ∧ L4.cells.length ≤ 4194304 ∧ L4.trace.length ≤ 1000000000 := by decide +kernel
theorem L5_facts : L5.peek 5 = 2 ∧ L5.cells.length ≤ 4194304 ∧ L5.trace.length ≤ 1000000000 := by decide +kernel
set_option maxRecDepth 100000 in
theorem live8_any (w : World) : Calls Try.prog 14 #[] w fun e w' => e = .returned (.bool true) ∧ Below w.heap.size w w' := by
  go_enter Try.func14, Try.ntmps14
  go_wp2_with fail
  refine (New_128 w).mono ?_
  rintro e w1 ⟨bm, rfl, hm, hb⟩
  have M := Mine.start hm
  have hs1 := hb.size
  clear hm
  go_wp2_with fail
  refine (View_any w1 bm 0).mono ?_
  rintro e w2 ⟨rfl, hw2⟩
  have hv : VW w2 w1.heap.size bm 0 0 := hw2 ▸ Blk.made w1 _ _
  have f2 : Fr (fun _ => False) w1 w2 := hw2 ▸ (Fr.refl (fun _ => False) w1).alloc _
  have hz2 : w2.heap.size = w1.heap.size + 1 := by rw [hw2]; simp
  have M2 := M.fr f2 (fun _ _ e => e)
  have Z := Lib.hid hz2
  have hs2 : w1.heap.size < w2.heap.size := by omega
  have hb2 := hb.trans (f2.to_below hs1 (fun _ _ e => e))
  clear hw2 hz2
  go_wp2_with fail
  obtain ⟨q, r, tv, rows, hx⟩ := M2.1
  refine (Store_x hx hv 5 1 (by decide) (by decide +kernel) (by decide +kernel) (by decide) (by decide)).mono ?_
  rintro e w3 ⟨rfl, hD⟩
  have hvF : ¬ (w.heap.size ≤ w1.heap.size ∧ w1.heap.size < w1.heap.size) := by omega
  obtain ⟨F3, M3, hn3⟩ := M2.step (by omega) hD.1
  have hb3 := hb2.trans (hD.below (fun b hb => hb.1) hs1 (by omega))
  have hv3 : VW w3 w1.heap.size bm 0 1 := hD.2.1
  have hs3 := hD.2.2.size
  change Mine w3 w.heap.size F3 bm L3 at M3
  clear hD hx M M2 hv hn3 hvF q r tv rows
  go_wp2_with fail
  refine (NewTake_any w3 5 100).mono ?_
  rintro e w4 ⟨rfl, hw4⟩
  have hp : TakeAt w4 w3.heap.size ⟨0, 5, 100, 0, 0, 0, false⟩ := hw4 ▸ Blk.made w3 _ _
  have f4 : Fr (fun _ => False) w3 w4 := hw4 ▸ (Fr.refl (fun _ => False) w3).alloc _
  have hs4 := f4.size
  have M4 := M3.fr f4 (fun _ _ e => e)
  have hv4 := VW.fr hv3 f4 (fun e => e)
  have hnp := M3.not (Nat.le_refl _)
  have hb4 := hb3.trans (f4.to_below (by omega) (fun _ _ e => e))
  clear hw4 M3 hv3
  go_wp2_with fail
  have hT := Take_step0 hp M4.1 hv4 hnp (by decide) L3_facts.2.1 L3_facts.2.2 (by decide) (by decide)
  rw [L3_facts.1] at hT
  refine hT.mono ?_
  rintro e w5 ⟨rfl, hp5, hS5⟩
  change TakeAt w5 w3.heap.size ⟨1, 5, 100, 1, 0, 0, false⟩ at hp5
  obtain ⟨F5, M5, hn5⟩ := M4.step (by omega) hS5.1
  have hb5 := hb4.trans (hS5.below (fun b hb => (M4.2 b hb).1) hs1 (by omega) (by omega))
  have hv5 := hS5.2.1
  have hs5 := hS5.2.2.size
  have hnp5 := hn5 _ (Blk.lt hp) hnp
  change Mine w5 w.heap.size F5 bm L4 at M5
  clear hT hS5 hp M4 hv4 hn5 hnp
  go_wp2_with fail
  have hT := Take_step1 hp5 M5.1 hv5 hnp5 (by decide) L4_facts.2.1 L4_facts.2.2 (by decide) (by decide)
  rw [L4_facts.1] at hT
  refine hT.mono ?_
  rintro e w6 ⟨rfl, hp6, hS6⟩
  obtain ⟨F6, M6, hn6⟩ := M5.step (by omega) hS6.1
  have hb6 := hb5.trans (hS6.below (fun b hb => (M5.2 b hb).1) hs1 (by omega) (by omega))
  change Mine w6 w.heap.size F6 bm L5 at M6
  clear hT hS6 hp5 M5 hv5 hn6 hnp5
  obtain ⟨q, r, tv, rows, hx⟩ := M6.1
  have hK := peek_any hx 5 (by decide) L5_facts.2.1
  rw [L5_facts.1] at hK
  go_wp2_with fail
  refine (Take_Stamp_any hp6).mono ?_
  rintro e w' ⟨rfl, rfl⟩
  go_wp2_with fail
  refine (Take_Moved_any hp6).mono ?_
  rintro e w' ⟨rfl, rfl⟩
  go_wp2_with fail
  refine (Take_Errno_any hp6).mono ?_
  rintro e w' ⟨rfl, rfl⟩
  go_wp2_with fail
  refine hK.mono ?_
  rintro e w' ⟨rfl, rfl⟩
  go_wp2
  go_ret
  exact ⟨rfl, hb6⟩
end
end Go.Proofs.Ytfbdgodebeggbaa

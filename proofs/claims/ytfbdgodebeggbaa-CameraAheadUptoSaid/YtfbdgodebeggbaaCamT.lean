/-
  A step of a Take. No condition.
-/
import Derived.Test.YtfbdgodebeggbaaCam
namespace Go.Proofs.Ytfbdgodebeggbaa
open Go Go.RowKit
set_option linter.unusedSimpArgs false
set_option linter.unusedVariables false
section
variable {w w' w1 : World} {F G S : Nat → Prop} {bm q r v p : Nat} {A : Mem} {th made : Int}
theorem Take_done {s : TakeS} (h : TakeAt w p s) (hs : s.at_ = 2) (x : Value) : Calls Try.prog 18 #[.pointer (some ⟨p, 0, none⟩), x] w fun e w' => e = .returned (.bool true) ∧ w = w' := by
  have c1 : w.cell? ⟨p, 0, none⟩ = some (.int .i64 s.at_) := Blk.cell h 0
  rw [hs] at c1
  clear hs
  go_enter Try.func18, Try.ntmps18
  go_wp2
  go_ret
  exact ⟨rfl, rfl⟩
set_option maxRecDepth 100000 in
theorem Take_step0 {c m t st e0 : Int} {mv : Bool} (h : TakeAt w p ⟨0, c, m, t, st, e0, mv⟩) (hm : PM w F bm A) (hv : VW w v bm th made) (hF : ¬ F p) (h0 : 0 ≤ c) (hn : A.cells.length ≤ 4194304) (ht : A.trace.length ≤ 1000000000) (hm0 : 0 ≤ made) (hm1 : made ≤ 1000000000) :
    Calls Try.prog 18 #[.pointer (some ⟨p, 0, none⟩), .pointer (some ⟨v, 0, none⟩)] w fun e w' => e = .returned (.bool (!decide (A.peek c < m))) ∧ TakeAt w' p (if A.peek c < m then ⟨1, c, m, A.peek c, st, e0, mv⟩ else ⟨2, c, m, A.peek c, st, 31, mv⟩) ∧ Stepped w w' F bm v p th (made + 1) (A.load th c) := by
  obtain ⟨q, r, tv, rows, hx⟩ := hm
  have hpv : p ≠ v := Blk.ne h hv (by decide)
  have hpl := Blk.lt h
  have hl := Lib.hid (Load_x hx hv c h0 hn ht hm0 hm1)
  have c1 : w.cell? ⟨p, 0, none⟩ = some (.int .i64 0) := Blk.cell h 0
  have c2 : w.cell? ⟨p, 1, none⟩ = some (.int .u64 c) := Blk.cell h 1
  clear hn ht hm0 hm1 hx
  generalize A.peek c = y at *
  generalize A.load th c = A' at *
  by_cases hy : y < m
  · have t1 : decide (y < m) = true := by simpa using hy
    rw [if_pos hy, t1]
    clear hy
    go_enter Try.func18, Try.ntmps18
    go_wp2_with fail
    refine hl.out.mono ?_
    rintro e w1 ⟨rfl, hD⟩
    have hb : TakeAt w1 p ⟨0, c, m, t, st, e0, mv⟩ := Blk.fr h hD.2.2 (by rintro (e | e); exact hF e; exact hpv e)
    have hS := hD.stepped p
    have d2 : w1.cell? ⟨p, 3, none⟩ = some (.int .u64 t) := Blk.cell hb 3
    have f1 := Blk.cold hb 3
    go_wp2_with fail
    have hb1 := Blk.put hb 3 (.int .u64 y)
    have hS1 := hS.put hpl hF hpv 3 (.int .u64 y)
    generalize w1.setCell ⟨p, 3, none⟩ (.int .u64 y) = w2 at *
    have g1 : w2.cell? ⟨p, 3, none⟩ = some (.int .u64 y) := Blk.cell hb1 3
    have g2 : w2.cell? ⟨p, 2, none⟩ = some (.int .u64 m) := Blk.cell hb1 2
    have g3 : w2.cell? ⟨p, 0, none⟩ = some (.int .i64 0) := Blk.cell hb1 0
    have g4 := Blk.cold hb1 0
    go_quiet (fail)
    go_wp2
    go_ret
    exact ⟨rfl, Blk.put hb1 0 (.int .i64 1), (hS1.drawn _).put hpl hF hpv 0 (.int .i64 1)⟩
  · have t1 : decide (y < m) = false := by simpa using hy
    rw [if_neg hy, t1]
    clear hy
    go_enter Try.func18, Try.ntmps18
    go_wp2_with fail
    refine hl.out.mono ?_
    rintro e w1 ⟨rfl, hD⟩
    have hb : TakeAt w1 p ⟨0, c, m, t, st, e0, mv⟩ := Blk.fr h hD.2.2 (by rintro (e | e); exact hF e; exact hpv e)
    have hS := hD.stepped p
    have d2 : w1.cell? ⟨p, 3, none⟩ = some (.int .u64 t) := Blk.cell hb 3
    have f1 := Blk.cold hb 3
    go_wp2_with fail
    have hb1 := Blk.put hb 3 (.int .u64 y)
    have hS1 := hS.put hpl hF hpv 3 (.int .u64 y)
    generalize w1.setCell ⟨p, 3, none⟩ (.int .u64 y) = w2 at *
    have g1 : w2.cell? ⟨p, 3, none⟩ = some (.int .u64 y) := Blk.cell hb1 3
    have g2 : w2.cell? ⟨p, 2, none⟩ = some (.int .u64 m) := Blk.cell hb1 2
    have g3 : w2.cell? ⟨p, 5, none⟩ = some (.int .i64 e0) := Blk.cell hb1 5
    have g4 := Blk.cold hb1 5
    have g5 : w2.cell? ⟨p, 0, none⟩ = some (.int .i64 0) := Blk.cell hb1 0
    have g6 := Blk.cold hb1 0
    go_quiet (fail)
    go_wp2
    go_ret
    exact ⟨rfl, Blk.put (Blk.put hb1 5 (.int .i64 31)) 0 (.int .i64 2), ((hS1.drawn _).put hpl hF hpv 5 (.int .i64 31)).put hpl hF hpv 0 (.int .i64 2)⟩
set_option maxRecDepth 100000 in
theorem Take_step1 {c m t st e0 : Int} {mv : Bool} (h : TakeAt w p ⟨1, c, m, t, st, e0, mv⟩) (hm : PM w F bm A) (hv : VW w v bm th made) (hF : ¬ F p) (h0 : 0 ≤ c) (hn : A.cells.length ≤ 4194304) (ht : A.trace.length ≤ 1000000000) (hm0 : 0 ≤ made) (hm1 : made ≤ 1000000000) :
    Calls Try.prog 18 #[.pointer (some ⟨p, 0, none⟩), .pointer (some ⟨v, 0, none⟩)] w fun e w' => e = .returned (.bool true) ∧ TakeAt w' p ⟨2, c, m, t, t, e0, A.hit c t⟩ ∧ Stepped w w' F bm v p th (made + 1) (A.cas th c t (IntKind.u64.wrap (t + 1))) := by
  obtain ⟨q, r, tv, rows, hx⟩ := hm
  have hpv : p ≠ v := Blk.ne h hv (by decide)
  have hpl := Blk.lt h
  have f0 : Fr (fun _ => False) w w.drew := (Fr.refl (fun _ => False) w).drawn 1
  have f1 : Fr F w w.drew := (Fr.refl F w).drawn 1
  have hl := Lib.hid (Cas_x (hx.fr f0 (fun _ _ e => e)) (VW.fr hv f0 (fun e => e)) c t (IntKind.u64.wrap (t + 1)) h0 hn ht hm0 hm1)
  have F1 := Lib.hid f1
  clear f0 f1
  have c1 : w.cell? ⟨p, 0, none⟩ = some (.int .i64 1) := Blk.cell h 0
  have c2 : w.cell? ⟨p, 1, none⟩ = some (.int .u64 c) := Blk.cell h 1
  have c3 : w.cell? ⟨p, 3, none⟩ = some (.int .u64 t) := Blk.cell h 3
  clear hn ht hm0 hm1 hx
  generalize A.hit c t = y at *
  generalize A.cas th c t _ = A' at *
  go_enter Try.func18, Try.ntmps18
  go_wp2_with fail
  have HL : ∀ w1, Did w w1 F bm v th made A' → TakeAt w1 p ⟨1, c, m, t, st, e0, mv⟩ ∧ Stepped w w1 F bm v p th (made + 1) A' := fun w1 hD =>
    ⟨Blk.fr h hD.2.2 (by rintro (e | e); exact hF e; exact hpv e), hD.stepped p⟩
  have SX : ∀ w' m', TakeAt w' p ⟨1, c, m, t, st, e0, m'⟩ → w'.cell? ⟨p, 1, none⟩ = some (.int .u64 c) ∧ w'.cell? ⟨p, 3, none⟩ = some (.int .u64 t) := fun w' m' hh => ⟨Blk.cell hh 1, Blk.cell hh 3⟩
  have H1 := Lib.hid HL
  have H2 := Lib.hid SX
  clear HL SX
  go_region_held3 (fun w' => w'.cell? ⟨p, 1, none⟩ = some (.int .u64 c) ∧ w'.cell? ⟨p, 3, none⟩ = some (.int .u64 t))
    (first | exact ⟨c2, c3⟩ | exact H2.out _ _ hb.out.1 | exact H2.out _ y (Blk.put hb.out.1 6 _))
    (first | ((with_reducible refine hl.out.mono ?_); rintro e w1 ⟨rfl, hD⟩; have hb := Lib.hid (H1.out w1 (hD.pre F1.out)); have d1 : w1.cell? ⟨p, 6, none⟩ = some (.bool mv) := Blk.cell hb.out.1 6; have d2 := Blk.cold hb.out.1 6))
  have hb1 : TakeAt _ p ⟨1, c, m, t, st, e0, y⟩ := Blk.put hb.out.1 6 (.bool y)
  have hS1 := hb.out.2.put hpl hF hpv 6 (.bool y)
  clear c1 c2 c3
  generalize w1.setCell ⟨p, 6, none⟩ (.bool y) = w2 at *
  have g1 : w2.cell? ⟨p, 3, none⟩ = some (.int .u64 t) := Blk.cell hb1 3
  have g2 : w2.cell? ⟨p, 4, none⟩ = some (.int .u64 st) := Blk.cell hb1 4
  have g3 : w2.cell? ⟨p, 0, none⟩ = some (.int .i64 1) := Blk.cell hb1 0
  have g4 := Blk.cold hb1 4
  have g5 := Blk.cold hb1 0
  go_wp2
  go_ret
  exact ⟨rfl, Blk.put (Blk.put hb1 4 (.int .u64 t)) 0 (.int .i64 2), (hS1.put hpl hF hpv 4 (.int .u64 t)).put hpl hF hpv 0 (.int .i64 2)⟩
end
end Go.Proofs.Ytfbdgodebeggbaa

/-
  The procs of vcas in the heap: Init's step, find. No condition.
-/
import Derived.Test.YtenlgfagfpaenaaVcA
import Derived.Deep.Cut
import Derived.Deep.DeepCutAuto
import Derived.Deep.RegionHeld3
import Derived.BigQuiet
import Derived.Deep.QuietTactic
namespace Go.Proofs.Ytenlgfagfpaenaa
open Go Go.RowKit
set_option linter.unusedSimpArgs false
set_option linter.unusedVariables false
def InitAt (w : World) (i : Nat) (cam ver at_ st : Int) : Prop := Blk w i 127 #[.int .u64 cam, .int .u64 ver, .int .i64 at_, .int .u64 st]
abbrev wr64 (x : Int) : Int := IntKind.u64.wrap x
theorem wr64_pos (x : Int) : 0 ≤ wr64 x := by show 0 ≤ IntKind.u64.wrap x; rw [IntKind.wrap_u64]; omega
/-- a proc's block has changed, what lies beside it has not -/
def Kb (p : Nat → Prop) (k : Nat) (w w' : World) : Prop := Kp (fun x => p x ∧ x ≠ k) w w'
section
variable {w0 w w' w1 w2 : World} {o : Option Vu} {p q : Nat → Prop} {k g i : Nat} {t : TypeId} {cs : Array Value} {cam ver st : Int}
theorem Kb.put (k j : Nat) (u : Value) : Kb p k w (w.setCell ⟨k, j, none⟩ u) := by
  have hf : Fr (fun b => b = k) w (w.setCell ⟨k, j, none⟩ u) := (Fr.refl (fun b => b = k) w).put (p := ⟨k, j, none⟩) (.inl rfl) u
  refine ⟨hf.size, fun x hx => ?_⟩
  rcases Nat.lt_or_ge x w.heap.size with h | h
  · exact hf.block x h hx.2
  · have h2 : (w.setCell ⟨k, j, none⟩ u).heap.size = w.heap.size := by simp [World.setCell]
    rw [Array.getElem?_eq_none (by omega), Array.getElem?_eq_none (by omega)]
theorem Kb.trans (h : Kb p k w w1) (h2 : Kb p k w1 w2) : Kb p k w w2 := Kp.trans h h2
theorem Kb.of (h : Kp p w w') : Kb p k w w' := ⟨h.1, fun x hx => h.2 x hx.1⟩
theorem Kb.refl (p : Nat → Prop) (k : Nat) (w : World) : Kb p k w w := Kp.refl _ _
theorem Kb.drewN (n : Nat) : Kb p k w (w.drewN n) := ⟨((Fr.refl (fun _ => False) w).drawn n).size, fun x _ => rfl⟩
theorem Kb.alloc (h : ∀ x, p x → x < w.heap.size) (ob : Obj) : Kb p k w (w.alloc ob) := by
  have hb : Below w.heap.size w (w.alloc ob) := (Below.refl _ w).alloc (Nat.le_refl _) _
  exact ⟨hb.size, fun x hx => hb.block x (h x hx.1)⟩
theorem Kb.blk (h : Kb p k w w') {x : Nat} (hb : Blk w x t cs) (hp : p x) (hx : x ≠ k) : Blk w' x t cs := Kp.blk h hb ⟨hp, hx⟩
theorem NewInit_any (w : World) (c v : Int) : Calls Try.prog 30 #[.int .u64 c, .int .u64 v] w fun e w' => e = .returned (.pointer (some ⟨w.heap.size, 0, none⟩)) ∧ w' = w.alloc (.cells #[.int .u64 c, .int .u64 v, .int .i64 0, .int .u64 0] 127) := by
  go_enter Try.func30, Try.ntmps30
  go_wp2
  go_ret
  exact ⟨rfl, rfl⟩
theorem Init_nil (w : World) (x : Value) : Calls Try.prog 19 #[.pointer none, x] w fun e w' => e = .returned (.bool true) ∧ w = w' := by
  go_enter Try.func19, Try.ntmps19
  go_wp2
  go_ret
  exact ⟨rfl, rfl⟩
set_option maxRecDepth 100000 in
theorem Init_0 (h : InitAt w i cam ver 0 st) (hm : Mx w0 o p w) (hp : p i) (y : Int) (hy : pk o (wr64 (ver + 1)) = y) (hk : Ok (ld o (wr64 (ver + 1)))) :
    Calls Try.prog 19 #[.pointer (some ⟨i, 0, none⟩), vv o] w fun e w' => e = .returned (.bool (y != 0)) ∧ InitAt w' i cam ver (if y = 0 then 1 else 3) st ∧ Mx w0 (ld o (wr64 (ver + 1))) p w' ∧ Kb p i w w' := by
  have c2 : w.cell? ⟨i, 2, none⟩ = some (.int .i64 0) := Blk.cell h 2
  have f2 := Blk.cold h 2
  have hb1 : InitAt (w.setCell ⟨i, 2, none⟩ (.int .i64 1)) i cam ver 1 st := Blk.put h 2 (.int .i64 1)
  have hm1 := hm.put hp 2 (.int .i64 1)
  have hK1 : Kb p i w (w.setCell ⟨i, 2, none⟩ (.int .i64 1)) := Kb.put i 2 _
  have HC := Lib.hid (hm1.load (wr64 (ver + 1)) (wr64_pos _) hk)
  rw [hy] at HC
  have HB := Lib.hid hb1
  have HK := Lib.hid hK1
  have d1 : (w.setCell ⟨i, 2, none⟩ (.int .i64 1)).cell? ⟨i, 1, none⟩ = some (.int .u64 ver) := Blk.cell hb1 1
  clear h hm hb1 hm1 hK1 hk hy
  go_enter Try.func19, Try.ntmps19
  go_wp2_with fail
  generalize w.setCell ⟨i, 2, none⟩ (.int .i64 1) = w1 at *
  go_wp2_with fail
  refine HC.out.mono ?_
  rintro e w2 ⟨rfl, hm2, hk2⟩
  have hb2 : InitAt w2 i cam ver 1 st := hk2.blk HB.out hp
  have HK2 : Hid (Kb p i w w2) := HK.out.trans (Kb.of hk2)
  have e2 : w2.cell? ⟨i, 2, none⟩ = some (.int .i64 1) := Blk.cell hb2 2
  have g2 := Blk.cold hb2 2
  have HB2 := Lib.hid hb2
  have HM2 := Lib.hid hm2
  have HB3 : Hid (InitAt (w2.setCell ⟨i, 2, none⟩ (.int .i64 3)) i cam ver 3 st) := Blk.put hb2 2 (.int .i64 3)
  have HM3 := Lib.hid (hm2.put hp 2 (.int .i64 3))
  have HK3 : Hid (Kb p i w (w2.setCell ⟨i, 2, none⟩ (.int .i64 3))) := HK2.out.trans (Kb.put i 2 _)
  clear hb2 hm2 hk2 HK HC HB d1 f2 c2
  by_cases h0 : y = 0
  · subst h0
    go_wp2
    go_ret
    exact ⟨rfl, HB2.out, HM2.out, HK2.out⟩
  · have h1 : (y != 0) = true := by simpa using h0
    go_wp2
    go_ret
    exact ⟨rfl, HB3.out, HM3.out, HK3.out⟩
set_option maxRecDepth 100000 in
theorem Init_1 (h : InitAt w i cam ver 1 st) (hm : Mx w0 o p w) (hp : p i) (hc : 0 ≤ cam) (y : Int) (hy : pk o cam = y) (hk : Ok (ld o cam)) :
    Calls Try.prog 19 #[.pointer (some ⟨i, 0, none⟩), vv o] w fun e w' => e = .returned (.bool false) ∧ InitAt w' i cam ver 2 y ∧ Mx w0 (ld o cam) p w' ∧ Kb p i w w' := by
  have c2 : w.cell? ⟨i, 2, none⟩ = some (.int .i64 1) := Blk.cell h 2
  have c0 : w.cell? ⟨i, 0, none⟩ = some (.int .u64 cam) := Blk.cell h 0
  have HC := Lib.hid (hm.load cam hc hk)
  rw [hy] at HC
  have HB := Lib.hid h
  clear h hm hk hy
  go_enter Try.func19, Try.ntmps19
  go_wp2_with fail
  refine HC.out.mono ?_
  rintro e w2 ⟨rfl, hm2, hk2⟩
  have hb2 : InitAt w2 i cam ver 1 st := hk2.blk HB.out hp
  have e3 : w2.cell? ⟨i, 3, none⟩ = some (.int .u64 st) := Blk.cell hb2 3
  have g3 := Blk.cold hb2 3
  have e2 : w2.cell? ⟨i, 2, none⟩ = some (.int .i64 1) := Blk.cell hb2 2
  have g2 := Blk.cold hb2 2
  have hb3 : InitAt (w2.setCell ⟨i, 3, none⟩ (.int .u64 y)) i cam ver 1 y := Blk.put hb2 3 (.int .u64 y)
  have HB4 : Hid (InitAt ((w2.setCell ⟨i, 3, none⟩ (.int .u64 y)).setCell ⟨i, 2, none⟩ (.int .i64 2)) i cam ver 2 y) := Blk.put hb3 2 (.int .i64 2)
  have HM4 := Lib.hid ((hm2.put hp 3 (.int .u64 y)).put hp 2 (.int .i64 2))
  have HK4 : Hid (Kb p i w ((w2.setCell ⟨i, 3, none⟩ (.int .u64 y)).setCell ⟨i, 2, none⟩ (.int .i64 2))) := ((Kb.of hk2).trans (Kb.put i 3 _)).trans (Kb.put i 2 _)
  clear hb2 hm2 hk2 HC HB hb3
  go_wp2
  go_ret
  exact ⟨rfl, HB4.out, HM4.out, HK4.out⟩
set_option maxRecDepth 100000 in
theorem Init_2 (h : InitAt w i cam ver 2 st) (hm : Mx w0 o p w) (hp : p i) (hk : Ok (cz o (wr64 (ver + 1)) 0 st)) :
    Calls Try.prog 19 #[.pointer (some ⟨i, 0, none⟩), vv o] w fun e w' => e = .returned (.bool true) ∧ InitAt w' i cam ver 3 st ∧ Mx w0 (cz o (wr64 (ver + 1)) 0 st) p w' ∧ Kb p i w w' := by
  have c2 : w.cell? ⟨i, 2, none⟩ = some (.int .i64 2) := Blk.cell h 2
  have c1 : w.drew.cell? ⟨i, 1, none⟩ = some (.int .u64 ver) := Blk.cell h 1
  have c3 : w.drew.cell? ⟨i, 3, none⟩ = some (.int .u64 st) := Blk.cell h 3
  have HS : Hid (∀ wx, Kp p w.drew wx → (wx.cell? ⟨i, 1, none⟩ = some (.int .u64 ver) ∧ wx.cell? ⟨i, 3, none⟩ = some (.int .u64 st))) := fun wx hx => by
    have hb : InitAt wx i cam ver 2 st := hx.blk (show InitAt w.drew i cam ver 2 st from h) hp
    exact ⟨Blk.cell hb 1, Blk.cell hb 3⟩
  have HC := Lib.hid (hm.drew.cas (wr64 (ver + 1)) 0 st (wr64_pos _) hk)
  have HB := Lib.hid h
  have k0 : Kp p w.drew w.drew := Kp.refl _ _
  clear h hm hk
  go_enter Try.func19, Try.ntmps19
  go_upto_region 12 with fail
  go_region_held3 (fun wx => wx.cell? ⟨i, 1, none⟩ = some (.int .u64 ver) ∧ wx.cell? ⟨i, 3, none⟩ = some (.int .u64 st))
    (exact HS.out _ (by assumption))
    (first | ((with_reducible refine HC.out.mono ?_); rintro e w2 ⟨rfl, hm2, hk2⟩))
  have hb2 : InitAt w2 i cam ver 2 st := hk2.blk (show InitAt w.drew i cam ver 2 st from HB.out) hp
  have HK2 : Hid (Kb p i w w2) := ⟨hk2.1, fun x hx => hk2.2 x hx.1⟩
  have e2 : w2.cell? ⟨i, 2, none⟩ = some (.int .i64 2) := Blk.cell hb2 2
  have g2 := Blk.cold hb2 2
  have HB4 : Hid (InitAt (w2.setCell ⟨i, 2, none⟩ (.int .i64 3)) i cam ver 3 st) := Blk.put hb2 2 (.int .i64 3)
  have HM4 := Lib.hid (hm2.put hp 2 (.int .i64 3))
  have HK4 : Hid (Kb p i w (w2.setCell ⟨i, 2, none⟩ (.int .i64 3))) := HK2.out.trans (Kb.put i 2 _)
  clear HK2 HC HS HB hb2 hm2 hk2 k0 c1 c3
  go_wp2
  go_ret
  exact ⟨rfl, HB4.out, HM4.out, HK4.out⟩
/-- what all procs begin with -/
def headC (cam obj : Int) (bg nn : Bool) (h : Int) (iv : Value) : List Value := [.int .u64 cam, .int .u64 obj, .bool bg, .bool nn, .int .u64 h, iv]
set_option maxRecDepth 100000 in
theorem find_first {obj h0 : Int} {nn : Bool} {iv : Value} {rest : List Value} (hb : Blk w k t (headC cam obj false nn h0 iv ++ rest).toArray) (hm : Mx w0 o p w) (hp : p k) (ho : 0 ≤ obj) (y : Int) (hy : pk o obj = y) (hk : Ok (ld o obj)) :
    Calls Try.prog 58 #[.pointer (some ⟨k, 0, none⟩), vv o] w fun e w' => e = .returned (.bool (y == 0)) ∧ ∃ i, Blk w' k t (headC cam obj true (y == 0) y (.pointer (some ⟨i, 0, none⟩)) ++ rest).toArray ∧ InitAt w' i cam y 0 0 ∧ Mx w0 (ld o obj) (fun x => p x ∨ x = i) w' ∧ Kb p k w w' ∧ ¬ p i := by
  have c2 : w.cell? ⟨k, 2, none⟩ = some (.bool false) := Blk.cell hb 2
  have f2 := Blk.cold hb 2
  have hb1 : Blk (w.setCell ⟨k, 2, none⟩ (.bool true)) k t (headC cam obj true nn h0 iv ++ rest).toArray := (Blk.put hb 2 (.bool true)).eq (by simp [headC])
  have hm1 := hm.put hp 2 (.bool true)
  have hK1 : Kb p k w (w.setCell ⟨k, 2, none⟩ (.bool true)) := Kb.put k 2 _
  have d1 : (w.setCell ⟨k, 2, none⟩ (.bool true)).cell? ⟨k, 1, none⟩ = some (.int .u64 obj) := Blk.cell hb1 1
  have HC := Lib.hid (hm1.load obj ho hk)
  rw [hy] at HC
  have HB := Lib.hid hb1
  have HK := Lib.hid hK1
  clear hb hm hb1 hm1 hK1 hk hy
  go_enter Try.func58, Try.ntmps58
  go_wp2_with fail
  refine HC.out.mono ?_
  rintro e w2 ⟨rfl, hm2, hk2⟩
  have hb2 := hk2.blk HB.out hp
  have e4 : w2.cell? ⟨k, 4, none⟩ = some (.int .u64 h0) := Blk.cell hb2 4
  have g4 := Blk.cold hb2 4
  have e3 : w2.cell? ⟨k, 3, none⟩ = some (.bool nn) := Blk.cell hb2 3
  have g3 := Blk.cold hb2 3
  have hb3 : Blk ((w2.setCell ⟨k, 4, none⟩ (.int .u64 y)).setCell ⟨k, 3, none⟩ (.bool (y == 0))) k t (headC cam obj true (y == 0) y iv ++ rest).toArray := (Blk.put (Blk.put hb2 4 (.int .u64 y)) 3 (.bool (y == 0))).eq (by simp [headC])
  have hm3 := (hm2.put hp 4 (.int .u64 y)).put hp 3 (.bool (y == 0))
  have hK3 : Kb p k w ((w2.setCell ⟨k, 4, none⟩ (.int .u64 y)).setCell ⟨k, 3, none⟩ (.bool (y == 0))) := ((HK.out.trans (Kb.of hk2)).trans (Kb.put k 4 _)).trans (Kb.put k 3 _)
  have HB3 := Lib.hid hb3
  have HM3 := Lib.hid hm3
  have HK3 := Lib.hid hK3
  clear hb2 hm2 hk2 hb3 hm3 hK3 HK HB HC d1 f2 c2
  go_upto_region 5 with fail
  generalize (w2.setCell ⟨k, 4, none⟩ (.int .u64 y)).setCell ⟨k, 3, none⟩ (.bool (y == 0)) = w3 at *
  have s0 : w3.cell? ⟨k, 0, none⟩ = some (.int .u64 cam) := Blk.cell HB3.out 0
  have s4 : w3.cell? ⟨k, 4, none⟩ = some (.int .u64 y) := Blk.cell HB3.out 4
  have hkl := HB3.out.lt
  have HA : Hid (∀ ob, Blk (w3.drew.alloc ob) k t (headC cam obj true (y == 0) y iv ++ rest).toArray) := fun ob => Blk.alloc (show Blk w3.drew k t _ from HB3.out) ob
  have HS : Hid (∀ wx iv', Blk wx k t (headC cam obj true (y == 0) y iv' ++ rest).toArray → (wx.cell? ⟨k, 0, none⟩ = some (.int .u64 cam) ∧ wx.cell? ⟨k, 4, none⟩ = some (.int .u64 y))) := fun wx iv' hx => ⟨Blk.cell hx 0, Blk.cell hx 4⟩
  have HN : Hid (∀ w4, w4 = w3.drew.alloc (.cells #[.int .u64 cam, .int .u64 y, .int .i64 0, .int .u64 0] 127) → (w4.cell? ⟨k, 5, none⟩ = some iv ∧ w4.frozen? ⟨k, 5, none⟩ = false ∧ Hid (∃ i, i = w3.drew.heap.size ∧ Blk (w4.setCell ⟨k, 5, none⟩ (.pointer (some ⟨i, 0, none⟩))) k t (headC cam obj true (y == 0) y (.pointer (some ⟨i, 0, none⟩)) ++ rest).toArray ∧ InitAt (w4.setCell ⟨k, 5, none⟩ (.pointer (some ⟨i, 0, none⟩))) i cam y 0 0 ∧ Mx w0 (ld o obj) (fun x => p x ∨ x = i) (w4.setCell ⟨k, 5, none⟩ (.pointer (some ⟨i, 0, none⟩))) ∧ Kb p k w (w4.setCell ⟨k, 5, none⟩ (.pointer (some ⟨i, 0, none⟩))) ∧ ¬ p i))) := by
    rintro w4 rfl
    have hb4 := HA.out (.cells #[.int .u64 cam, .int .u64 y, .int .i64 0, .int .u64 0] 127)
    have hI : InitAt (w3.drew.alloc (.cells #[.int .u64 cam, .int .u64 y, .int .i64 0, .int .u64 0] 127)) w3.drew.heap.size cam y 0 0 := Blk.made _ _ _
    have hm4 := HM3.out.drew.alloc (.cells #[.int .u64 cam, .int .u64 y, .int .i64 0, .int .u64 0] 127)
    have hpos := HM3.out.pos
    have hK4 : Kb p k w (w3.drew.alloc (.cells #[.int .u64 cam, .int .u64 y, .int .i64 0, .int .u64 0] 127)) := (HK3.out.trans (Kb.drewN 1)).trans (Kb.alloc (fun x hx => (hpos x hx).2) _)
    refine ⟨Blk.cell hb4 5, Blk.cold hb4 5, _, rfl, (Blk.put hb4 5 _).eq (by simp [headC]), Blk.far hI (p := ⟨k, 5, none⟩) (by show w3.heap.size ≠ k; omega) _, hm4.put (.inl hp) 5 _, hK4.trans (Kb.put k 5 _), fun e => by have := (hpos _ e).2; have : w3.drew.heap.size = w3.heap.size := rfl; omega⟩
  have k0 : Blk w3.drew k t (headC cam obj true (y == 0) y iv ++ rest).toArray := HB3.out
  have HB := Lib.hid HA.out
  clear HB3 HM3 HK3
  go_region_held3 (fun wx => wx.cell? ⟨k, 0, none⟩ = some (.int .u64 cam) ∧ wx.cell? ⟨k, 4, none⟩ = some (.int .u64 y))
    (first | exact HS.out _ _ k0 | exact HS.out _ _ k4 | exact HS.out _ _ k5)
    (first | ((with_reducible refine (NewInit_any _ _ _).mono ?_); rintro e w4 ⟨rfl, hw4⟩; obtain ⟨n5, m5, HN4⟩ := HN.out w4 hw4; have k4 : Blk w4 k t (headC cam obj true (y == 0) y iv ++ rest).toArray := (by rw [hw4]; exact HA.out _); have k5 : Blk (w4.setCell ⟨k, 5, none⟩ (.pointer (some ⟨w3.heap.size, 0, none⟩))) k t (headC cam obj true (y == 0) y (.pointer (some ⟨w3.heap.size, 0, none⟩)) ++ rest).toArray := (Blk.put k4 5 _).eq (by simp [headC]); clear hw4))
  obtain ⟨i, rfl, hN⟩ := HN4.out
  have HNN := Lib.hid hN
  have s3 : (w4.setCell ⟨k, 5, none⟩ (.pointer (some ⟨w3.heap.size, 0, none⟩))).cell? ⟨k, 3, none⟩ = some (.bool (y == 0)) := Blk.cell k5 3
  clear hN HN4 HN HA HS k0 k4 k5 s0 s4 n5 m5
  go_wp2
  go_ret
  exact ⟨rfl, _, HNN.out⟩
theorem find_later {obj h0 : Int} {nn b : Bool} {rest : List Value} {Post : World → Prop} (hb : Blk w k t (headC cam obj true nn h0 (.pointer (some ⟨i, 0, none⟩)) ++ rest).toArray)
    (hC : Calls Try.prog 19 #[.pointer (some ⟨i, 0, none⟩), vv o] w fun e w' => e = .returned (.bool b) ∧ Post w') :
    Calls Try.prog 58 #[.pointer (some ⟨k, 0, none⟩), vv o] w fun e w' => e = .returned (.bool b) ∧ Post w' := by
  have c2 : w.cell? ⟨k, 2, none⟩ = some (.bool true) := Blk.cell hb 2
  have c5 : w.cell? ⟨k, 5, none⟩ = some (.pointer (some ⟨i, 0, none⟩)) := Blk.cell hb 5
  have HC := Lib.hid hC
  clear hb hC
  go_enter Try.func58, Try.ntmps58
  go_wp2_with fail
  refine HC.out.mono ?_
  rintro e w2 ⟨rfl, hp⟩
  have HP := Lib.hid hp
  clear hp
  go_wp2
  go_ret
  exact ⟨rfl, HP.out⟩
end
end Go.Proofs.Ytenlgfagfpaenaa

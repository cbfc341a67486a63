/-
  The camera's procs, Now and Take: a step of each, and what each tells. No condition.
-/
import Derived.Test.YtfbdgodebeggbaaMade
import Derived.StillTailTactics
import Derived.Deep.RegionHeld3
namespace Go.Proofs.Ytfbdgodebeggbaa
open Go Go.RowKit
set_option linter.unusedSimpArgs false
set_option linter.unusedVariables false
/-- a Now: how far, its cell, what it read -/
structure NowS where
  at_ : Int
  cell : Int
  t : Int
def NowS.cs (s : NowS) : Array Value := #[.int .i64 s.at_, .int .u64 s.cell, .int .u64 s.t]
def NowAt (w : World) (p : Nat) (s : NowS) : Prop := Blk w p 132 s.cs
/-- a Take -/
structure TakeS where
  at_ : Int
  cell : Int
  most : Int
  t : Int
  stamp : Int
  e : Int
  moved : Bool
def TakeS.cs (s : TakeS) : Array Value := #[.int .i64 s.at_, .int .u64 s.cell, .int .u64 s.most, .int .u64 s.t, .int .u64 s.stamp, .int .i64 s.e, .bool s.moved]
def TakeAt (w : World) (p : Nat) (s : TakeS) : Prop := Blk w p 134 s.cs
/-- what a step of a proc at p leaves -/
def Stepped (w w' : World) (F : Nat → Prop) (bm v p : Nat) (th made : Int) (A : Mem) : Prop :=
  PM w' (Ext F w) bm A ∧ VW w' v bm th made ∧ Fr (fun b => F b ∨ b = v ∨ b = p) w w'
section
variable {w w' w1 : World} {F G S : Nat → Prop} {bm q r v p : Nat} {A : Mem} {th made : Int}
theorem Did.stepped (h : Did w w' F bm v th made A) (p : Nat) : Stepped w w' F bm v p th (made + 1) A :=
  ⟨h.1, h.2.1, h.2.2.mono fun k _ hk => by rcases hk with hk | hk; exact .inl hk; exact .inr (.inl hk)⟩
theorem Stepped.put (h : Stepped w w' F bm v p th made A) (hp : p < w.heap.size) (hF : ¬ F p) (hv : p ≠ v) (i : Nat) (u : Value) : Stepped w (w'.setCell ⟨p, i, none⟩ u) F bm v p th made A := by
  have f : Fr (fun b => b = p) w' (w'.setCell ⟨p, i, none⟩ u) := (Fr.refl (fun b => b = p) w').put (p := ⟨p, i, none⟩) (.inl rfl) _
  refine ⟨h.1.fr f ?_, VW.fr h.2.1 f (fun e => hv e.symm), h.2.2.put (p := ⟨p, i, none⟩) (.inl (.inr (.inr rfl))) _⟩
  rintro k (hk | hk) rfl
  · exact hF hk
  · omega
theorem Stepped.drawn (h : Stepped w w' F bm v p th made A) (n : Nat) : Stepped w (w'.drewN n) F bm v p th made A :=
  ⟨h.1.fr ((Fr.refl (fun _ => False) w').drawn n) (fun _ _ e => e), h.2.1, h.2.2.drawn n⟩
theorem Now_Stamp_any {s : NowS} (h : NowAt w p s) : Calls Try.prog 19 #[.pointer (some ⟨p, 0, none⟩)] w fun e w' => e = .returned (.int .u64 s.t) ∧ w = w' := by
  have c1 : w.cell? ⟨p, 2, none⟩ = some _ := Blk.cell h 2
  go_enter Try.func19, Try.ntmps19
  go_wp2
  go_ret
  exact ⟨rfl, rfl⟩
theorem Take_Stamp_any {s : TakeS} (h : TakeAt w p s) : Calls Try.prog 20 #[.pointer (some ⟨p, 0, none⟩)] w fun e w' => e = .returned (.int .u64 s.stamp) ∧ w = w' := by
  have c1 : w.cell? ⟨p, 4, none⟩ = some _ := Blk.cell h 4
  go_enter Try.func20, Try.ntmps20
  go_wp2
  go_ret
  exact ⟨rfl, rfl⟩
theorem Take_Errno_any {s : TakeS} (h : TakeAt w p s) : Calls Try.prog 21 #[.pointer (some ⟨p, 0, none⟩)] w fun e w' => e = .returned (.int .i64 s.e) ∧ w = w' := by
  have c1 : w.cell? ⟨p, 5, none⟩ = some _ := Blk.cell h 5
  go_enter Try.func21, Try.ntmps21
  go_wp2
  go_ret
  exact ⟨rfl, rfl⟩
theorem Take_Moved_any {s : TakeS} (h : TakeAt w p s) : Calls Try.prog 22 #[.pointer (some ⟨p, 0, none⟩)] w fun e w' => e = .returned (.bool s.moved) ∧ w = w' := by
  have c1 : w.cell? ⟨p, 6, none⟩ = some _ := Blk.cell h 6
  go_enter Try.func22, Try.ntmps22
  go_wp2
  go_ret
  exact ⟨rfl, rfl⟩
theorem NewNow_any (w : World) (c : Int) : Calls Try.prog 24 #[.int .u64 c] w fun e w' => e = .returned (.pointer (some ⟨w.heap.size, 0, none⟩)) ∧ w' = w.alloc (.cells (NowS.cs ⟨0, c, 0⟩) 132) := by
  go_enter Try.func24, Try.ntmps24
  go_wp2
  go_ret
  exact ⟨rfl, rfl⟩
theorem NewTake_any (w : World) (c m : Int) : Calls Try.prog 25 #[.int .u64 c, .int .u64 m] w fun e w' => e = .returned (.pointer (some ⟨w.heap.size, 0, none⟩)) ∧ w' = w.alloc (.cells (TakeS.cs ⟨0, c, m, 0, 0, 0, false⟩) 134) := by
  go_enter Try.func25, Try.ntmps25
  go_wp2
  go_ret
  exact ⟨rfl, rfl⟩
/-- a step of a Now that is done -/
theorem Now_done {s : NowS} (h : NowAt w p s) (hs : s.at_ = 2) (x : Value) : Calls Try.prog 17 #[.pointer (some ⟨p, 0, none⟩), x] w fun e w' => e = .returned (.bool true) ∧ w = w' := by
  have c1 : w.cell? ⟨p, 0, none⟩ = some (.int .i64 s.at_) := Blk.cell h 0
  rw [hs] at c1
  clear hs
  go_enter Try.func17, Try.ntmps17
  go_wp2
  go_ret
  exact ⟨rfl, rfl⟩
theorem Now_step {c t : Int} (h : NowAt w p ⟨0, c, t⟩) (hm : PM w F bm A) (hv : VW w v bm th made) (hF : ¬ F p) (h0 : 0 ≤ c) (hn : A.cells.length ≤ 4194304) (ht : A.trace.length ≤ 1000000000) (hm0 : 0 ≤ made) (hm1 : made ≤ 1000000000) :
    Calls Try.prog 17 #[.pointer (some ⟨p, 0, none⟩), .pointer (some ⟨v, 0, none⟩)] w fun e w' => e = .returned (.bool true) ∧ NowAt w' p ⟨2, c, A.peek c⟩ ∧ Stepped w w' F bm v p th (made + 1) (A.load th c) := by
  obtain ⟨q, r, tv, rows, hx⟩ := hm
  have hpv : p ≠ v := Blk.ne h hv (by decide)
  have hpl := Blk.lt h
  have hl := Lib.hid (Load_x hx hv c h0 hn ht hm0 hm1)
  have c1 : w.cell? ⟨p, 0, none⟩ = some (.int .i64 0) := Blk.cell h 0
  have c2 : w.cell? ⟨p, 1, none⟩ = some (.int .u64 c) := Blk.cell h 1
  clear hn ht hm0 hm1 hx
  generalize A.peek c = y at *
  generalize A.load th c = A' at *
  go_enter Try.func17, Try.ntmps17
  go_wp2_with fail
  refine hl.out.mono ?_
  rintro e w1 ⟨rfl, hD⟩
  have hb : NowAt w1 p ⟨0, c, t⟩ := Blk.fr h hD.2.2 (by rintro (e | e); exact hF e; exact hpv e)
  have hS := hD.stepped p
  have d1 : w1.cell? ⟨p, 0, none⟩ = some (.int .i64 0) := Blk.cell hb 0
  have d2 : w1.cell? ⟨p, 2, none⟩ = some (.int .u64 t) := Blk.cell hb 2
  have f1 := Blk.cold hb 0
  have f2 := Blk.cold hb 2
  have hb2 := (Blk.put (Blk.put hb 2 (.int .u64 y)) 0 (.int .i64 2))
  have hS2 := (hS.put hpl hF hpv 2 (.int .u64 y)).put hpl hF hpv 0 (.int .i64 2)
  have HE := Lib.hid (And.intro hb2 hS2)
  clear hb hS hb2 hS2 hD
  go_wp2
  go_ret
  exact ⟨rfl, HE.out.1, HE.out.2⟩
end
end Go.Proofs.Ytfbdgodebeggbaa

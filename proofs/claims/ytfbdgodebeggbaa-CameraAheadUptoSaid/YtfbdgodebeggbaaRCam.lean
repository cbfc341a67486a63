/-
  A step of the document's Now and Take, where they lie in a call of the law. No condition.
-/
import Derived.Test.YtfbdgodebeggbaaCamT
import Derived.Test.YtfbdgodebeggbaaRView
namespace Go.Proofs.Ytfbdgodebeggbaa
open Go Go.RowKit
set_option linter.unusedSimpArgs false
set_option linter.unusedVariables false
/-- the sixteen cells of a call under way -/
structure PS where
  isNow : Bool
  most : Int
  np : Nat
  tp : Nat
  na : Int
  nc : Int
  ns : Int
  ta : Int
  tc : Int
  tm : Int
  tt : Int
  ts : Int
  te : Int
  tv : Bool
  fr : Int
  to : Int
def PS.cs (s : PS) : Array Value := #[.bool s.isNow, .int .u64 s.most, .pointer (some ⟨s.np, 0, none⟩), .pointer (some ⟨s.tp, 0, none⟩), .int .i64 s.na, .int .u64 s.nc, .int .u64 s.ns, .int .i64 s.ta, .int .u64 s.tc, .int .u64 s.tm, .int .u64 s.tt, .int .u64 s.ts, .int .i64 s.te, .bool s.tv, .int .i64 s.fr, .int .i64 s.to]
def PAt (w : World) (pb : Nat) (s : PS) : Prop := Blk w pb 54 s.cs
def RStepped (w w' : World) (F : Nat → Prop) (rm pb : Nat) (A : Mem) : Prop := RM w' (Ext F w) rm false A ∧ Fr (fun b => F b ∨ b = pb) w w'
section
variable {w w' w1 : World} {F G S : Nat → Prop} {rm r pb : Nat} {A : Mem} {s : PS}
theorem RDid.stepped (h : RDid w w' F rm false A) (pb : Nat) : RStepped w w' F rm pb A := ⟨h.1, h.2.mono fun _ _ hk => .inl hk⟩
theorem RStepped.put (h : RStepped w w' F rm pb A) (hp : pb < w.heap.size) (hF : ¬ F pb) (i : Nat) (u : Value) : RStepped w (w'.setCell ⟨pb, i, none⟩ u) F rm pb A := by
  have f : Fr (fun b => b = pb) w' (w'.setCell ⟨pb, i, none⟩ u) := (Fr.refl (fun b => b = pb) w').put (p := ⟨pb, i, none⟩) (.inl rfl) _
  refine ⟨h.1.fr f ?_, h.2.put (p := ⟨pb, i, none⟩) (.inl (.inr rfl)) _⟩
  rintro k (hk | hk) rfl
  · exact hF hk
  · omega
theorem RStepped.drawn (h : RStepped w w' F rm pb A) (n : Nat) : RStepped w (w'.drewN n) F rm pb A :=
  ⟨h.1.fr ((Fr.refl (fun _ => False) w').drawn n) (fun _ _ e => e), h.2.drawn n⟩
theorem RNow_done (h : PAt w pb s) (hs : s.na = 1) (x y : Value) : Calls Try.prog 92 #[.pointer (some ⟨pb, 4, none⟩), x, y] w fun e w' => e = .returned (.bool true) ∧ w = w' := by
  have c1 : w.cell? ⟨pb, 4, none⟩ = some (.int .i64 s.na) := Blk.cell h 4
  rw [hs] at c1
  clear hs
  go_enter Try.func92, Try.ntmps92
  go_wp2
  go_ret
  exact ⟨rfl, rfl⟩
theorem RTake_done (h : PAt w pb s) (hs : s.ta = 2) (x y : Value) : Calls Try.prog 93 #[.pointer (some ⟨pb, 7, none⟩), x, y] w fun e w' => e = .returned (.bool true) ∧ w = w' := by
  have c1 : w.cell? ⟨pb, 7, none⟩ = some (.int .i64 s.ta) := Blk.cell h 7
  rw [hs] at c1
  clear hs
  go_enter Try.func93, Try.ntmps93
  go_wp2
  go_ret
  exact ⟨rfl, rfl⟩
theorem RNow_step (h : PAt w pb s) (hs : s.na = 0) (hm : RM w F rm false A) (hF : ¬ F pb) (th : Int) (h0 : 0 ≤ s.nc) (hn : A.cells.length ≤ 4194304) (ht : A.trace.length ≤ 1000000000) :
    Calls Try.prog 92 #[.pointer (some ⟨pb, 4, none⟩), .pointer (some ⟨rm, 0, none⟩), .int .i64 th] w fun e w' => e = .returned (.bool true) ∧ PAt w' pb { s with na := 1, ns := A.peek s.nc } ∧ RStepped w w' F rm pb (A.load th s.nc) := by
  obtain ⟨r, tv, rows, hx⟩ := hm
  have hpl := Blk.lt h
  have hl := Lib.hid (RLoad_x hx th s.nc h0 hn ht)
  have c1 : w.cell? ⟨pb, 4, none⟩ = some (.int .i64 s.na) := Blk.cell h 4
  have c2 : w.cell? ⟨pb, 5, none⟩ = some (.int .u64 s.nc) := Blk.cell h 5
  rw [hs] at c1
  clear hn ht hx hs
  generalize A.peek s.nc = y at *
  generalize A.load th s.nc = A' at *
  go_enter Try.func92, Try.ntmps92
  go_wp2_with fail
  refine hl.out.mono ?_
  rintro e w1 ⟨rfl, hD⟩
  have hb : PAt w1 pb s := Blk.fr h hD.2 (fun e => hF e)
  have hS := hD.stepped pb
  have d1 : w1.cell? ⟨pb, 4, none⟩ = some (.int .i64 s.na) := Blk.cell hb 4
  have d2 : w1.cell? ⟨pb, 6, none⟩ = some (.int .u64 s.ns) := Blk.cell hb 6
  have f1 := Blk.cold hb 4
  have f2 := Blk.cold hb 6
  have hb2 := (Blk.put (Blk.put hb 6 (.int .u64 y)) 4 (.int .i64 1))
  have hS2 := (hS.put hpl hF 6 (.int .u64 y)).put hpl hF 4 (.int .i64 1)
  have HE := Lib.hid (And.intro hb2 hS2)
  clear hb hS hb2 hS2 hD
  go_wp2
  go_ret
  exact ⟨rfl, HE.out.1, HE.out.2⟩
set_option maxRecDepth 100000 in
theorem RTake_step0 (h : PAt w pb s) (hs : s.ta = 0) (hm : RM w F rm false A) (hF : ¬ F pb) (th : Int) (h0 : 0 ≤ s.tc) (hn : A.cells.length ≤ 4194304) (ht : A.trace.length ≤ 1000000000) :
    Calls Try.prog 93 #[.pointer (some ⟨pb, 7, none⟩), .pointer (some ⟨rm, 0, none⟩), .int .i64 th] w fun e w' => e = .returned (.bool (!decide (A.peek s.tc < s.tm))) ∧ PAt w' pb (if A.peek s.tc < s.tm then { s with ta := 1, tt := A.peek s.tc } else { s with ta := 2, tt := A.peek s.tc, te := 31 }) ∧ RStepped w w' F rm pb (A.load th s.tc) := by
  obtain ⟨r, tv, rows, hx⟩ := hm
  have hpl := Blk.lt h
  have hl := Lib.hid (RLoad_x hx th s.tc h0 hn ht)
  have c1 : w.cell? ⟨pb, 7, none⟩ = some (.int .i64 s.ta) := Blk.cell h 7
  have c2 : w.cell? ⟨pb, 8, none⟩ = some (.int .u64 s.tc) := Blk.cell h 8
  rw [hs] at c1
  clear hn ht hx hs
  generalize A.peek s.tc = y at *
  generalize A.load th s.tc = A' at *
  by_cases hy : y < s.tm
  · have t1 : decide (y < s.tm) = true := by simpa using hy
    have t2 : decide (s.tm ≤ y) = false := by simpa using hy
    rw [if_pos hy, t1]
    clear hy t1
    go_enter Try.func93, Try.ntmps93
    go_wp2_with fail
    refine hl.out.mono ?_
    rintro e w1 ⟨rfl, hD⟩
    have hb : PAt w1 pb s := Blk.fr h hD.2 (fun e => hF e)
    have hS := hD.stepped pb
    have d2 : w1.cell? ⟨pb, 10, none⟩ = some (.int .u64 s.tt) := Blk.cell hb 10
    have f1 := Blk.cold hb 10
    have d3 : w1.cell? ⟨pb, 7, none⟩ = some (.int .i64 s.ta) := Blk.cell hb 7
    have f3 := Blk.cold hb 7
    go_wp2_with fail
    have hb1 := Blk.put (Blk.put hb 10 (.int .u64 y)) 7 (.int .i64 1)
    have hS1 := (hS.put hpl hF 10 (.int .u64 y)).put hpl hF 7 (.int .i64 1)
    clear d2 f1 d3 f3
    generalize (w1.setCell ⟨pb, 10, none⟩ (.int .u64 y)).setCell ⟨pb, 7, none⟩ (.int .i64 1) = w2 at *
    have g1 : w2.cell? ⟨pb, 10, none⟩ = some (.int .u64 y) := Blk.cell hb1 10
    have g2 : w2.cell? ⟨pb, 9, none⟩ = some (.int .u64 s.tm) := Blk.cell hb1 9
    have g3 : w2.cell? ⟨pb, 7, none⟩ = some (.int .i64 1) := Blk.cell hb1 7
    go_quiet (fail)
    go_wp2
    go_ret
    exact ⟨rfl, hb1, hS1.drawn _⟩
  · have t1 : decide (y < s.tm) = false := by simpa using hy
    have t2 : decide (s.tm ≤ y) = true := by simpa using hy
    rw [if_neg hy, t1]
    clear hy t1
    go_enter Try.func93, Try.ntmps93
    go_wp2_with fail
    refine hl.out.mono ?_
    rintro e w1 ⟨rfl, hD⟩
    have hb : PAt w1 pb s := Blk.fr h hD.2 (fun e => hF e)
    have hS := hD.stepped pb
    have d2 : w1.cell? ⟨pb, 10, none⟩ = some (.int .u64 s.tt) := Blk.cell hb 10
    have f1 := Blk.cold hb 10
    have d3 : w1.cell? ⟨pb, 7, none⟩ = some (.int .i64 s.ta) := Blk.cell hb 7
    have f3 := Blk.cold hb 7
    go_wp2_with fail
    have hb1 := Blk.put (Blk.put hb 10 (.int .u64 y)) 7 (.int .i64 1)
    have hS1 := (hS.put hpl hF 10 (.int .u64 y)).put hpl hF 7 (.int .i64 1)
    clear d2 f1 d3 f3
    generalize (w1.setCell ⟨pb, 10, none⟩ (.int .u64 y)).setCell ⟨pb, 7, none⟩ (.int .i64 1) = w2 at *
    have g1 : w2.cell? ⟨pb, 10, none⟩ = some (.int .u64 y) := Blk.cell hb1 10
    have g2 : w2.cell? ⟨pb, 9, none⟩ = some (.int .u64 s.tm) := Blk.cell hb1 9
    have g3 : w2.cell? ⟨pb, 7, none⟩ = some (.int .i64 1) := Blk.cell hb1 7
    have g4 : w2.cell? ⟨pb, 12, none⟩ = some (.int .i64 s.te) := Blk.cell hb1 12
    have g5 := Blk.cold hb1 12
    have g6 := Blk.cold hb1 7
    go_quiet (fail)
    go_wp2
    go_ret
    exact ⟨rfl, Blk.put (Blk.put hb1 12 (.int .i64 31)) 7 (.int .i64 2), ((hS1.drawn _).put hpl hF 12 (.int .i64 31)).put hpl hF 7 (.int .i64 2)⟩
set_option maxRecDepth 100000 in
theorem RTake_step1 (h : PAt w pb s) (hs : s.ta = 1) (hm : RM w F rm false A) (hF : ¬ F pb) (th : Int) (h0 : 0 ≤ s.tc) (hn : A.cells.length ≤ 4194304) (ht : A.trace.length ≤ 1000000000) :
    Calls Try.prog 93 #[.pointer (some ⟨pb, 7, none⟩), .pointer (some ⟨rm, 0, none⟩), .int .i64 th] w fun e w' => e = .returned (.bool true) ∧ PAt w' pb { s with ta := 2, tv := A.hit s.tc s.tt, ts := s.tt } ∧ RStepped w w' F rm pb (A.cas th s.tc s.tt (IntKind.u64.wrap (s.tt + 1))) := by
  obtain ⟨r, tv, rows, hx⟩ := hm
  have hpl := Blk.lt h
  have f0 : Fr (fun _ => False) w w.drew := (Fr.refl (fun _ => False) w).drawn 1
  have f1 : Fr F w w.drew := (Fr.refl F w).drawn 1
  have hl := Lib.hid (RCas_x (hx.fr f0 (fun _ _ e => e)) th s.tc s.tt (IntKind.u64.wrap (s.tt + 1)) h0 hn ht)
  have F1 := Lib.hid f1
  clear f0 f1
  have c1 : w.cell? ⟨pb, 7, none⟩ = some (.int .i64 s.ta) := Blk.cell h 7
  have c2 : w.cell? ⟨pb, 8, none⟩ = some (.int .u64 s.tc) := Blk.cell h 8
  have c3 : w.cell? ⟨pb, 10, none⟩ = some (.int .u64 s.tt) := Blk.cell h 10
  rw [hs] at c1
  clear hn ht hx
  have Hs := Lib.hid hs
  clear hs
  generalize A.hit s.tc s.tt = y at *
  generalize A.cas th s.tc s.tt _ = A' at *
  have HL : ∀ w1, RDid w w1 F rm false A' → PAt w1 pb s ∧ RStepped w w1 F rm pb A' := fun w1 hD =>
    ⟨Blk.fr h hD.2 (fun e => hF e), hD.stepped pb⟩
  have SX : ∀ w' m', PAt w' pb { s with tv := m' } → w'.cell? ⟨pb, 8, none⟩ = some (.int .u64 s.tc) ∧ w'.cell? ⟨pb, 10, none⟩ = some (.int .u64 s.tt) := fun w' m' hh => ⟨Blk.cell hh 8, Blk.cell hh 10⟩
  have H1 := Lib.hid HL
  have H2 := Lib.hid SX
  clear HL SX
  go_enter Try.func93, Try.ntmps93
  go_wp2_with fail
  go_region_held3 (fun w' => w'.cell? ⟨pb, 8, none⟩ = some (.int .u64 s.tc) ∧ w'.cell? ⟨pb, 10, none⟩ = some (.int .u64 s.tt))
    (first | exact ⟨c2, c3⟩ | exact H2.out _ s.tv hb.out.1 | exact H2.out _ y (Blk.put hb.out.1 13 _))
    (first | ((with_reducible refine hl.out.mono ?_); rintro e w1 ⟨rfl, hD⟩; have hb := Lib.hid (H1.out w1 (hD.pre F1.out)); have d1 : w1.cell? ⟨pb, 13, none⟩ = some (.bool s.tv) := Blk.cell hb.out.1 13; have d2 := Blk.cold hb.out.1 13))
  have hb1 : PAt _ pb { s with tv := y } := Blk.put hb.out.1 13 (.bool y)
  have hS1 := hb.out.2.put hpl hF 13 (.bool y)
  clear c1 c2 c3
  generalize w1.setCell ⟨pb, 13, none⟩ (.bool y) = w2 at *
  have g1 : w2.cell? ⟨pb, 10, none⟩ = some (.int .u64 s.tt) := Blk.cell hb1 10
  have g2 : w2.cell? ⟨pb, 11, none⟩ = some (.int .u64 s.ts) := Blk.cell hb1 11
  have g3 : w2.cell? ⟨pb, 7, none⟩ = some (.int .i64 s.ta) := Blk.cell hb1 7
  have g4 := Blk.cold hb1 11
  have g5 := Blk.cold hb1 7
  go_wp2
  go_ret
  exact ⟨rfl, Blk.put (Blk.put hb1 11 (.int .u64 s.tt)) 7 (.int .i64 2), (hS1.put hpl hF 11 (.int .u64 s.tt)).put hpl hF 7 (.int .i64 2)⟩
end
end Go.Proofs.Ytfbdgodebeggbaa

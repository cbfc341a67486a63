/-
  A Load: made, stepped, asked; also nil. No condition.
-/
import Derived.Test.YtkaplifhaafpdaaGreatM19
namespace Go.Proofs.YtkaplifhaafpdaaGreat
open Go Go.RowKit
set_option linter.unusedSimpArgs false
set_option linter.unusedVariables false
/-- a Load at pb -/
def LD (w : World) (pb : Nat) (a : Int) (d : Bool) (x : Int) : Prop := Blk w pb 146 #[.int .u64 a, .bool d, .int .u64 x]
section
variable {w0 w w' w1 w2 : World} {R S G F E E' U : Nat → Prop} {rp bm n pb v q r : Nat} {vws : List Nat} {T T' : List Thr} {x : Thr} {t steps : Nat} {evs : List Ev} {ats : List Int} {cs : Array Value} {tv ev av : Value} {l : List Value} {ps : List (List Value)} {rows : List Value} {A : Mem} {a y th made : Int}
theorem NewLoad_any (w : World) (a : Int) : Calls Tryz.prog 17 #[.int .u64 a] w fun e w' => e = .returned (.pointer (some ⟨w.heap.size, 0, none⟩)) ∧ w' = w.alloc (.cells #[.int .u64 a, .bool false, .int .u64 0] 146) := by
  go_enter Tryz.func17, Tryz.ntmps17
  go_wp2
  go_ret
  exact ⟨rfl, rfl⟩
theorem LStep_nil (w : World) (v : Value) : Calls Tryz.prog 99 #[.pointer none, v] w fun e w' => e = .returned (.bool true) ∧ w = w' := by
  go_enter Tryz.func99, Tryz.ntmps99
  go_wp2
  go_ret
  exact ⟨rfl, rfl⟩
theorem LStep_done (h : LD w pb a true y) (v : Value) : Calls Tryz.prog 99 #[.pointer (some ⟨pb, 0, none⟩), v] w fun e w' => e = .returned (.bool true) ∧ w = w' := by
  have c1 : w.cell? ⟨pb, 1, none⟩ = some _ := Blk.cell h 1
  go_enter Tryz.func99, Tryz.ntmps99
  go_wp2
  go_ret
  exact ⟨rfl, rfl⟩
theorem LStep_off (h : LD w pb a false y) : Calls Tryz.prog 99 #[.pointer (some ⟨pb, 0, none⟩), .pointer none] w fun e w' => e = .returned (.bool true) ∧ LD w' pb a true 0 ∧ Fr (fun b => b = pb) w w' := by
  have c0 : w.cell? ⟨pb, 0, none⟩ = some _ := Blk.cell h 0
  have c1 : w.cell? ⟨pb, 1, none⟩ = some _ := Blk.cell h 1
  have c2 : w.cell? ⟨pb, 2, none⟩ = some _ := Blk.cell h 2
  have f1 := Blk.cold h 1
  have f2 := Blk.cold h 2
  have HL := Lib.hid (Load_nil w (.int .u64 a))
  have hb : LD ((w.setCell ⟨pb, 2, none⟩ (.int .u64 0)).setCell ⟨pb, 1, none⟩ (.bool true)) pb a true 0 := (Blk.put h 2 (.int .u64 0)).put 1 (.bool true)
  have hf : Fr (fun b => b = pb) w ((w.setCell ⟨pb, 2, none⟩ (.int .u64 0)).setCell ⟨pb, 1, none⟩ (.bool true)) := ((Fr.refl (fun b => b = pb) w).put (p := ⟨pb, 2, none⟩) (.inl rfl) _).put (p := ⟨pb, 1, none⟩) (.inl rfl) _
  have HX := Lib.hid (And.intro hb hf)
  clear h hb hf
  go_enter Tryz.func99, Tryz.ntmps99
  go_wp2_with fail
  refine HL.out.mono ?_
  rintro e w1 ⟨rfl, rfl⟩
  go_wp2_with fail
  go_ret
  exact ⟨rfl, HX.out⟩
theorem LStep_on (h : PM w F bm A) (hv : VW w v bm th made) (hl : LD w pb a false y) (hF : ¬ F pb) (h0 : 0 ≤ a) (hn : A.cells.length ≤ 4194304) (ht : A.trace.length ≤ 1000000000) (hm0 : 0 ≤ made) (hm1 : made ≤ 1000000000) :
    Calls Tryz.prog 99 #[.pointer (some ⟨pb, 0, none⟩), .pointer (some ⟨v, 0, none⟩)] w fun e w' => e = .returned (.bool true) ∧ PM w' (fun k => Ext F w k ∧ k ≠ pb) bm (A.load th a) ∧ VW w' v bm th (made + 1) ∧ LD w' pb a true (A.peek a) ∧ Fr (fun b => F b ∨ b = v ∨ b = pb) w w' := by
  obtain ⟨q, r, tv, rows, hx⟩ := h
  have hlt : pb < w.heap.size := Blk.lt hl
  have hne : pb ≠ v := fun e => Blk.ne hl (e ▸ hv) (by decide) rfl
  have c0 : w.cell? ⟨pb, 0, none⟩ = some _ := Blk.cell hl 0
  have c1 : w.cell? ⟨pb, 1, none⟩ = some _ := Blk.cell hl 1
  have HL := Lib.hid (Load_x hx hv a h0 hn ht hm0 hm1)
  have HX : Hid (∀ w2, Did w w2 F bm v th made (A.load th a) → (w2.cell? ⟨pb, 2, none⟩ = some (.int .u64 y) ∧ w2.cell? ⟨pb, 1, none⟩ = some (.bool false) ∧ w2.frozen? ⟨pb, 2, none⟩ = false ∧ w2.frozen? ⟨pb, 1, none⟩ = false) ∧ Hid (PM ((w2.setCell ⟨pb, 2, none⟩ (.int .u64 (A.peek a))).setCell ⟨pb, 1, none⟩ (.bool true)) (fun k => Ext F w k ∧ k ≠ pb) bm (A.load th a) ∧ VW ((w2.setCell ⟨pb, 2, none⟩ (.int .u64 (A.peek a))).setCell ⟨pb, 1, none⟩ (.bool true)) v bm th (made + 1) ∧ LD ((w2.setCell ⟨pb, 2, none⟩ (.int .u64 (A.peek a))).setCell ⟨pb, 1, none⟩ (.bool true)) pb a true (A.peek a) ∧ Fr (fun b => F b ∨ b = v ∨ b = pb) w ((w2.setCell ⟨pb, 2, none⟩ (.int .u64 (A.peek a))).setCell ⟨pb, 1, none⟩ (.bool true)))) := by
    rintro w2 ⟨hm, hw, hf⟩
    have hb : LD w2 pb a false y := Blk.fr hl hf (by rintro (e | e); exact hF e; exact hne e)
    have f2 : Fr (fun b => b = pb) w2 ((w2.setCell ⟨pb, 2, none⟩ (.int .u64 (A.peek a))).setCell ⟨pb, 1, none⟩ (.bool true)) := ((Fr.refl (fun b => b = pb) w2).put (p := ⟨pb, 2, none⟩) (.inl rfl) _).put (p := ⟨pb, 1, none⟩) (.inl rfl) _
    have hnE : ¬ Ext F w pb := by
      rintro (e | e)
      · exact hF e
      · omega
    refine ⟨⟨Blk.cell hb 2, Blk.cell hb 1, Blk.cold hb 2, Blk.cold hb 1⟩, ?_, hw.fr f2 (fun e => hne e.symm), (Blk.put hb 2 (.int .u64 (A.peek a))).put 1 (.bool true), (hf.mono fun k _ e => e.imp id .inl).trans (f2.mono fun k _ e => .inr (.inr e))⟩
    exact (hm.wide (G := fun k => Ext F w k ∧ k ≠ pb) (fun k hk => ⟨hk, fun e => hnE (e ▸ hk)⟩)).fr f2 (fun k hk e => hk.2 e)
  clear hx hl hv hF
  go_enter Tryz.func99, Tryz.ntmps99
  go_wp2_with fail
  refine HL.out.mono ?_
  rintro e w2 ⟨rfl, hD⟩
  obtain ⟨⟨c2, c3, f2, f3⟩, HQ⟩ := HX.out _ hD
  clear hD
  go_wp2_with fail
  go_ret
  exact ⟨rfl, HQ.out⟩
end
end Go.Proofs.YtkaplifhaafpdaaGreat

/-
  The law's live, and a nil store. No condition.
-/
import Derived.Test.YtfjilcneiaekaaaLkE
namespace Go.Proofs.Ytfjilcneiaekaaa
open Go Go.RowKit Go.Maps
open Go.MuLone
set_option linter.unusedSimpArgs false
set_option linter.unusedVariables false
section
variable {w0 w : World} {q bm n d : Nat} {D : DataW Unit}
theorem LSt.alloc (h : LSt w0 w q bm n D d) (o : Obj) : LSt w0 (w.alloc o) q bm n D d := by
  obtain ⟨⟨hv, gv, tv, hB⟩, h1, h2, h3, h4⟩ := h
  exact ⟨⟨hv, gv, tv, hB.alloc o⟩, h1.alloc o, h2, h3, h4.alloc h4.size o⟩
def D1 : DataW Unit := (DataW.map []).put (.int .u64 7) (.lit (.int .u64 1))
theorem has1 : Maps.has D1 (.int .u64 7) = true := by decide +kernel
theorem at1 : D1.atKey (.int .u64 7) (.lit (.int .u64 0)) = .lit (.int .u64 1) := by rfl
theorem Do_put (h : LSt w0 w q bm 0 (.map []) 0) : Calls Try.prog 4 #[.pointer (some ⟨q, 0, none⟩), .agg #[.int .u8 2, .int .u64 7, .int .u64 1, .int .u64 0, .int .u64 0, .bool false, .int .i64 0, .int .i64 0, .slice none 0 0, .int .u64 0, .int .u64 0]] w fun e w' => (∃ b c, e = .returned (.tuple #[.agg #[.int .i64 0, .bool b, .int .u64 c, .bool false, .int .u64 0, .slice none 0 0, .int .u64 0], .int .i64 0])) ∧ LSt w0 w' q bm 1 D1 1 := by
  refine (Do_any (k := 2) (x := 1) (n' := 1) (D' := D1) (by decide) (fun w1 hv gv tv h1 => ?_) h).mono ?_
  · exact do_put hv gv tv (.int .i32 1) (by decide) h1
  · rintro e w' ⟨⟨c, rfl, -⟩, h2⟩
    exact ⟨⟨_, _, rfl⟩, h2⟩
theorem Do_get (h : LSt w0 w q bm 1 D1 1) : Calls Try.prog 4 #[.pointer (some ⟨q, 0, none⟩), .agg #[.int .u8 1, .int .u64 7, .int .u64 0, .int .u64 0, .int .u64 0, .bool false, .int .i64 0, .int .i64 0, .slice none 0 0, .int .u64 0, .int .u64 0]] w fun e w' => e = .returned (.tuple #[.agg #[.int .i64 0, .bool true, .int .u64 1, .bool false, .int .u64 0, .slice none 0 0, .int .u64 0], .int .i64 1]) ∧ LSt w0 w' q bm 1 D1 2 := by
  refine (Do_any (k := 1) (x := 0) (n' := 1) (D' := D1) (by decide) (fun w1 hv gv tv h1 => ?_) h).mono ?_
  · exact do_get hv gv tv (.int .i32 1) h1
  · rintro e w' ⟨⟨c, rfl, hat⟩, h2⟩
    rw [at1] at hat
    injection hat with hat
    injection hat with _ hat
    subst hat
    rw [has1]
    exact ⟨rfl, h2⟩
set_option maxRecDepth 100000 in
theorem live_any (w : World) : Calls Try.prog 5 #[] w fun e w' => e = .returned (.bool true) ∧ Below w.heap.size w w' := by
  have H1 := Lib.hid (config_any w)
  go_enter Try.func5, Try.ntmps5
  go_wp2_with fail
  refine H1.out.mono ?_
  rintro e w1 ⟨rfl, hb1⟩
  have HB := Lib.hid hb1
  have H2 := Lib.hid (LNew_any w1)
  clear hb1 H1
  go_wp2_with fail
  refine H2.out.mono ?_
  rintro e w2 ⟨q, bm, rfl, hs⟩
  have H3 := Lib.hid (Do_put hs)
  clear hs H2
  go_wp2_with fail
  refine H3.out.mono ?_
  rintro e w3 ⟨⟨b, c, rfl⟩, hs⟩
  have H4 := Lib.hid (Do_get (hs.alloc (.cells #[.int .i64 0, .bool b, .int .u64 c, .bool false, .int .u64 0, .slice none 0 0, .int .u64 0] 33)))
  clear hs H3
  go_wp2_with fail
  refine H4.out.mono ?_
  rintro e w4 ⟨rfl, hs⟩
  have H5 := Lib.hid (HB.out.trans (hs.2.2.2.2.mono HB.out.size))
  clear hs H4
  go_wp2_with fail
  go_ret
  exact ⟨rfl, H5.out.alloc H5.out.size _⟩
/-- an operation of a nil store -/
theorem Do_nil (w : World) (k key x old hd : Int) (rs : Bool) (rt ri : Int) (sp : Option Addr) (sn sc : Nat) (lo hi : Int) : Calls Try.prog 4 #[.pointer none, .agg #[.int .u8 k, .int .u64 key, .int .u64 x, .int .u64 old, .int .u64 hd, .bool rs, .int .i64 rt, .int .i64 ri, .slice sp sn sc, .int .u64 lo, .int .u64 hi]] w fun e w' => e = .returned (.tuple #[.agg #[.int .i64 1, .bool false, .int .u64 0, .bool false, .int .u64 0, .slice none 0 0, .int .u64 0], .int .i64 (-1)]) ∧ Below w.heap.size w w' := by
  go_enter_defers Try.func4, Try.ntmps4
  go_wp2_with fail
  have hb := Blk.made (w.alloc (.cells #[.int .u8 k, .int .u64 key, .int .u64 x, .int .u64 old, .int .u64 hd, .bool rs, .int .i64 rt, .int .i64 ri, .slice sp sn sc, .int .u64 lo, .int .u64 hi] 28)) 33 #[.int .i64 1, .bool false, .int .u64 0, .bool false, .int .u64 0, .slice none 0 0, .int .u64 0]
  rw [World.size_alloc] at hb
  have hl := run_loadVar_row _ (w.heap.size + 1) 33 33 _ (0, 0) _ hb Try.underlying33 rfl infoAns
  exact ⟨_, res_cell2 rfl rfl rfl hl, rfl, ((Below.refl _ w).alloc (Nat.le_refl _) _).alloc (by simp) _⟩
theorem Content_nil (w : World) : Calls Try.prog 6 #[.pointer none] w fun e w' => e = .returned (.slice none 0 0) ∧ w = w' := by
  go_enter_defers Try.func6, Try.ntmps6
  go_wp2_with fail
  exact ⟨_, results_tmp rfl _ _ _, rfl, rfl⟩
theorem none_any (w : World) (k key x old hd : Int) (rs : Bool) (rt ri : Int) (sp : Option Addr) (sn sc : Nat) (lo hi : Int) : Calls Try.prog 3 #[.agg #[.int .u8 k, .int .u64 key, .int .u64 x, .int .u64 old, .int .u64 hd, .bool rs, .int .i64 rt, .int .i64 ri, .slice sp sn sc, .int .u64 lo, .int .u64 hi]] w fun e w' => e = .returned (.bool true) ∧ Below w.heap.size w w' := by
  have H1 := Lib.hid (Do_nil (w.alloc (.cells #[.int .u8 k, .int .u64 key, .int .u64 x, .int .u64 old, .int .u64 hd, .bool rs, .int .i64 rt, .int .i64 ri, .slice sp sn sc, .int .u64 lo, .int .u64 hi] 28)) k key x old hd rs rt ri sp sn sc lo hi)
  go_enter Try.func3, Try.ntmps3
  go_wp2_with fail
  refine H1.out.mono ?_
  rintro e w1 ⟨rfl, hb1⟩
  have hb : Below w.heap.size w w1 := ((Below.refl _ w).alloc (Nat.le_refl _) _).trans (hb1.mono (by simp))
  have HB := Lib.hid (hb.alloc hb.size (.cells #[.int .i64 1, .bool false, .int .u64 0, .bool false, .int .u64 0, .slice none 0 0, .int .u64 0] 33))
  have H2 := Lib.hid (live_any (w1.alloc (.cells #[.int .i64 1, .bool false, .int .u64 0, .bool false, .int .u64 0, .slice none 0 0, .int .u64 0] 33)))
  have hA := Blk.made w1 33 #[.int .i64 1, .bool false, .int .u64 0, .bool false, .int .u64 0, .slice none 0 0, .int .u64 0]
  have HA := Lib.hid hA
  clear hb1 hb hA H1
  go_wp2_with fail
  refine H2.out.mono ?_
  rintro e w2 ⟨rfl, hb2⟩
  have b2 := HA.out.below hb2
  have c0 : w2.cell? ⟨w1.heap.size, 0, none⟩ = some (.int .i64 1) := b2.cell 0
  have HB2 := Lib.hid (HB.out.trans (hb2.mono HB.out.size))
  have H3 := Lib.hid (Content_nil w2)
  clear hb2 b2 HA HB H2
  go_wp2_with fail
  refine H3.out.mono ?_
  rintro e w3 ⟨rfl, rfl⟩
  go_wp2_with fail
  go_ret
  exact ⟨rfl, HB2.out⟩
end
end Go.Proofs.Ytfjilcneiaekaaa

/-
  A live memory that one goroutine uses: its cells, and the calls through a view. No condition.
-/
import Derived.Test.YthggpbbnhjaegaaArOps
import Derived.Laws.LoneSync
namespace Go.Proofs.Ythggpbbnhjaegaa
open Go Go.RowKit
set_option linter.unusedSimpArgs false
set_option linter.unusedVariables false
/-- a live memory lies at bm, all of it within F -/
structure SMx (w : World) (F : Nat → Prop) (bm q r : Nat) (A : Mem) : Prop where
  bM : Blk w bm 57 #[.iface 43 (.pointer (some ⟨q, 0, none⟩)), .bool true, .slice none 0 0]
  bQ : Blk w q 51 #[.slice (some ⟨r, 0, none⟩) A.cells.length A.cells.length, .int .i64 A.next]
  bR : Blk w r 109 (us A.cells).toArray
  fM : F bm
  fQ : F q
  fR : F r
section
variable {w w' w1 : World} {F G S : Nat → Prop} {bm q r v g : Nat} {A A' : Mem} {th made : Int}
theorem SMx.fr (h : SMx w F bm q r A) (hf : Fr S w w') (hS : ∀ k, F k → ¬ S k) : SMx w' F bm q r A := ⟨h.bM.fr hf (hS _ h.fM), h.bQ.fr hf (hS _ h.fQ), h.bR.fr hf (hS _ h.fR), h.fM, h.fQ, h.fR⟩
theorem SMx.same (h : SMx w F bm q r A) (hc : A'.cells = A.cells) (hn : A'.next = A.next) : SMx w F bm q r A' := ⟨h.bM, by rw [hc, hn]; exact h.bQ, by rw [hc]; exact h.bR, h.fM, h.fQ, h.fR⟩
theorem SMx.rowcell (h : SMx w F bm q r A) {i : Nat} (hi : i < A.cells.length) : w.cell? ⟨r, i, none⟩ = some (.int .u64 (A.cells.getD i 0)) := by
  rw [h.bR.cell i]; simp [us, hi, List.getD_eq_getElem?_getD]
theorem SMx.put (h : SMx w F bm q r A) (i : Nat) (u : Int) : SMx (w.setCell ⟨r, i, none⟩ (.int .u64 u)) F bm q r (A.put i u) ∧ Fr F w (w.setCell ⟨r, i, none⟩ (.int .u64 u)) := by
  have f : Fr (fun b => b = r) w (w.setCell ⟨r, i, none⟩ (.int .u64 u)) := (Fr.refl (fun b => b = r) w).put (p := ⟨r, i, none⟩) (.inl rfl) _
  refine ⟨⟨h.bM.fr f (Blk.ne h.bM h.bR (by decide)), ?_, (h.bR.put i _).eq ?_, h.fM, h.fQ, h.fR⟩, f.mono ?_⟩
  · have := h.bQ.fr f (Blk.ne h.bQ h.bR (by decide))
    simpa [Mem.put] using this
  · simp [Mem.put, us, List.map_set]
  · rintro k _ rfl; exact h.fR
/-- the atomics -/
theorem at_load {a : Addr} {x : Int} (hc : w.cell? a = some (.int .u64 x)) : (callFunc 80 #[.pointer (some a)]).run Try.prog w = .ok (.value (.int .u64 x)) w :=
  run_call_load Try.func80 (by kernel_rfl) (by kernel_rfl) (by kernel_rfl) .u64 (by rfl) hc
theorem at_loadi {a : Addr} {x : Int} (hc : w.cell? a = some (.int .i64 x)) : (callFunc 76 #[.pointer (some a)]).run Try.prog w = .ok (.value (.int .i64 x)) w :=
  run_call_load Try.func76 (by kernel_rfl) (by kernel_rfl) (by kernel_rfl) .i64 (by rfl) hc
theorem at_store {a : Addr} {y : Int} {u : Value} (hc : w.cell? a = some u) (hz : w.frozen? a = false) : (callFunc 78 #[.pointer (some a), .int .u64 y]).run Try.prog w = .ok (.value (.tuple #[])) (w.setCell a (.int .u64 y)) :=
  run_call_store Try.func78 (by kernel_rfl) (by kernel_rfl) (by kernel_rfl) (by rfl) hc hz
theorem at_storei {a : Addr} {y : Int} {u : Value} (hc : w.cell? a = some u) (hz : w.frozen? a = false) : (callFunc 37 #[.pointer (some a), .int .i64 y]).run Try.prog w = .ok (.value (.tuple #[])) (w.setCell a (.int .i64 y)) :=
  run_call_store Try.func37 (by kernel_rfl) (by kernel_rfl) (by kernel_rfl) (by rfl) hc hz
theorem at_cas_hit {a : Addr} {x y : Int} (hc : w.cell? a = some (.int .u64 x)) (hz : w.frozen? a = false) : (callFunc 79 #[.pointer (some a), .int .u64 x, .int .u64 y]).run Try.prog w = .ok (.value (.bool true)) (w.setCell a (.int .u64 y)) :=
  run_call_cas_hit Try.func79 (by kernel_rfl) (by kernel_rfl) (by kernel_rfl) .u64 (by rfl) hc hz
theorem at_cas_miss {a : Addr} {x o y : Int} (hc : w.cell? a = some (.int .u64 x)) (hz : w.frozen? a = false) (hne : ¬ x = o) : (callFunc 79 #[.pointer (some a), .int .u64 o, .int .u64 y]).run Try.prog w = .ok (.value (.bool false)) w :=
  run_call_cas_miss Try.func79 (by kernel_rfl) (by kernel_rfl) (by kernel_rfl) .u64 (by rfl) hc hz hne
theorem at_casi_hit {a : Addr} {x y : Int} (hc : w.cell? a = some (.int .i64 x)) (hz : w.frozen? a = false) : (callFunc 77 #[.pointer (some a), .int .i64 x, .int .i64 y]).run Try.prog w = .ok (.value (.bool true)) (w.setCell a (.int .i64 y)) :=
  run_call_cas_hit Try.func77 (by kernel_rfl) (by kernel_rfl) (by kernel_rfl) .i64 (by rfl) hc hz
theorem at_add {a : Addr} {x y : Int} (hc : w.cell? a = some (.int .u64 x)) (hz : w.frozen? a = false) : (callFunc 75 #[.pointer (some a), .int .u64 y]).run Try.prog w = .ok (.value (.int .u64 (IntKind.u64.wrap (x + y)))) (w.setCell a (.int .u64 (IntKind.u64.wrap (x + y)))) :=
  run_call_add Try.func75 (by kernel_rfl) (by kernel_rfl) (by kernel_rfl) .u64 (by rfl) hc hz (by rfl)
/-- their methods -/
theorem U_Load {a : Addr} {x : Int} (hc : w.cell? a = some (.int .u64 x)) : Calls Try.prog 74 #[.pointer (some a)] w fun e w' => e = .returned (.int .u64 x) ∧ w = w' := by
  have h := at_load hc
  go_enter Try.func74, Try.ntmps74
  go_wp2
  go_ret
  exact ⟨rfl, rfl⟩
theorem U_Store {a : Addr} {y : Int} {u : Value} (hc : w.cell? a = some u) (hz : w.frozen? a = false) : Calls Try.prog 72 #[.pointer (some a), .int .u64 y] w fun e w' => e = .returned (.tuple #[]) ∧ w' = w.setCell a (.int .u64 y) := by
  have h := at_store (y := y) hc hz
  go_enter Try.func72, Try.ntmps72
  go_wp2
  go_end0
  exact ⟨rfl, rfl⟩
theorem note_live (h : SMx w F bm q r A) (hv : VW w v bm th made) (x : Acc) (u : Value) (hu : u.oneCell' = true) (hm0 : 0 ≤ made) (hm1 : made ≤ 1000000000) :
    Calls Try.prog 38 #[.pointer (some ⟨v, 0, none⟩), .agg (accC (x, u)).toArray] w fun e w' => e = .returned (.tuple #[]) ∧ VW w' v bm th (made + 1) ∧ Fr (fun b => b = v) w w' := by
  have c1 : w.cell? ⟨v, 0, none⟩ = some (.pointer (some ⟨bm, 0, none⟩)) := hv.cell 0
  have c3 : w.cell? ⟨v, 2, none⟩ = some (.int .i64 made) := hv.cell 2
  have f3 := hv.cold 2
  have d1 : w.cell? ⟨bm, 1, none⟩ = some (.bool true) := h.bM.cell 1
  have hlv := Blk.lt hv
  have hlm := h.bM.lt
  have hne : bm ≠ v := Blk.ne h.bM hv (by decide)
  have ow : wrap64 (made + 1) = made + 1 := by unfold wrap64; omega
  simp only [accC]
  have HV := Lib.hid hv
  have HE : Hid (∀ o, VW ((w.setCell ⟨v, 2, none⟩ (.int .i64 (made + 1))).alloc o) v bm th (made + 1) ∧ Fr (fun b => b = v) w ((w.setCell ⟨v, 2, none⟩ (.int .i64 (made + 1))).alloc o)) := fun o =>
    ⟨((Blk.put HV.out 2 (.int .i64 (made + 1))).eq rfl).alloc o, ((Fr.refl (fun b => b = v) w).put (p := ⟨v, 2, none⟩) (.inl rfl) _).alloc o⟩
  clear hv h
  go_enter Try.func38, Try.ntmps38
  go_wp2
  go_end0
  exact ⟨rfl, HE.out _⟩
theorem s_size (h : SMx w F bm q r A) : Calls Try.prog 67 #[.pointer (some ⟨q, 0, none⟩)] w fun e w' => e = .returned (.int .i64 A.cells.length) ∧ w = w' := by
  have c1 : w.cell? ⟨q, 0, none⟩ = some _ := h.bQ.cell 0
  go_enter Try.func67, Try.ntmps67
  go_wp2
  go_ret
  exact ⟨rfl, rfl⟩
theorem s_next (h : SMx w F bm q r A) : Calls Try.prog 66 #[.pointer (some ⟨q, 0, none⟩)] w fun e w' => e = .returned (.int .i64 A.next) ∧ w = w' := by
  have c1 : w.cell? ⟨q, 1, none⟩ = some (.int .i64 A.next) := h.bQ.cell 1
  have HL : Hid (Calls Try.prog 70 #[.pointer (some ⟨q, 1, none⟩)] w fun e w' => e = .returned (.int .i64 A.next) ∧ w = w') := by
    have ha := at_loadi c1
    go_enter Try.func70, Try.ntmps70
    go_wp2
    go_ret
    exact ⟨rfl, rfl⟩
  go_enter Try.func66, Try.ntmps66
  go_wp2_with fail
  refine HL.out.mono ?_
  rintro e w' ⟨rfl, rfl⟩
  go_wp2
  go_ret
  exact ⟨rfl, rfl⟩
theorem s_load (h : SMx w F bm q r A) {i : Nat} (hi : i < A.cells.length) : Calls Try.prog 65 #[.pointer (some ⟨q, 0, none⟩), .int .u64 i] w fun e w' => e = .returned (.int .u64 (A.cells.getD i 0)) ∧ w = w' := by
  have c1 : w.cell? ⟨q, 0, none⟩ = some _ := h.bQ.cell 0
  have HL := Lib.hid (U_Load (h.rowcell hi))
  generalize A.cells.getD i 0 = x at *
  go_enter Try.func65, Try.ntmps65
  go_wp2_with fail
  refine HL.out.mono ?_
  rintro e w' ⟨rfl, rfl⟩
  go_wp2
  go_ret
  exact ⟨rfl, rfl⟩
theorem s_store (h : SMx w F bm q r A) {i : Nat} (hi : i < A.cells.length) (u : Int) : Calls Try.prog 68 #[.pointer (some ⟨q, 0, none⟩), .int .u64 i, .int .u64 u] w fun e w' => e = .returned (.tuple #[]) ∧ w' = w.setCell ⟨r, i, none⟩ (.int .u64 u) := by
  have c1 : w.cell? ⟨q, 0, none⟩ = some _ := h.bQ.cell 0
  have HL := Lib.hid (U_Store (y := u) (h.rowcell hi) (h.bR.cold i))
  go_enter Try.func68, Try.ntmps68
  go_wp2_with fail
  refine HL.out.mono ?_
  rintro e w' ⟨rfl, rfl⟩
  go_wp2_with fail
  go_end0
  exact ⟨rfl, rfl⟩
theorem s_cas_yes (h : SMx w F bm q r A) {i : Nat} (hi : i < A.cells.length) (o u : Int) (ho : A.cells.getD i 0 = o) : Calls Try.prog 63 #[.pointer (some ⟨q, 0, none⟩), .int .u64 i, .int .u64 o, .int .u64 u] w fun e w' => e = .returned (.bool true) ∧ w' = w.setCell ⟨r, i, none⟩ (.int .u64 u) := by
  have c1 : w.cell? ⟨q, 0, none⟩ = some _ := h.bQ.cell 0
  have c2 := h.rowcell hi
  rw [ho] at c2
  have HL : Hid (Calls Try.prog 73 #[.pointer (some ⟨r, i, none⟩), .int .u64 o, .int .u64 u] w fun e w' => e = .returned (.bool true) ∧ w' = w.setCell ⟨r, i, none⟩ (.int .u64 u)) := by
    have ha := at_cas_hit (y := u) c2 (h.bR.cold i)
    clear c1 ho h
    go_enter Try.func73, Try.ntmps73
    go_wp2
    go_ret
    exact ⟨rfl, rfl⟩
  clear ho
  go_enter Try.func63, Try.ntmps63
  go_wp2_with fail
  refine HL.out.mono ?_
  rintro e w' ⟨rfl, rfl⟩
  go_wp2
  go_ret
  exact ⟨rfl, rfl⟩
theorem s_cas_no (h : SMx w F bm q r A) {i : Nat} (hi : i < A.cells.length) (o u : Int) (ho : A.cells.getD i 0 ≠ o) : Calls Try.prog 63 #[.pointer (some ⟨q, 0, none⟩), .int .u64 i, .int .u64 o, .int .u64 u] w fun e w' => e = .returned (.bool false) ∧ w = w' := by
  have c1 : w.cell? ⟨q, 0, none⟩ = some _ := h.bQ.cell 0
  have c2 := h.rowcell hi
  have HL : Hid (Calls Try.prog 73 #[.pointer (some ⟨r, i, none⟩), .int .u64 o, .int .u64 u] w fun e w' => e = .returned (.bool false) ∧ w = w') := by
    have ha := at_cas_miss (y := u) c2 (h.bR.cold i) ho
    clear c1 ho h
    go_enter Try.func73, Try.ntmps73
    go_wp2
    go_ret
    exact ⟨rfl, rfl⟩
  clear ho
  go_enter Try.func63, Try.ntmps63
  go_wp2_with fail
  refine HL.out.mono ?_
  rintro e w' ⟨rfl, rfl⟩
  go_wp2
  go_ret
  exact ⟨rfl, rfl⟩
theorem wrap_back (x u : Int) (h0 : 0 ≤ x) (h1 : x ≤ 18446744073709551615) : IntKind.u64.wrap (IntKind.u64.wrap (x + u) - u) = x := by
  rw [IntKind.wrap_u64, IntKind.wrap_u64]; omega
theorem s_add (h : SMx w F bm q r A) {i : Nat} (hi : i < A.cells.length) (u : Int) (h0 : 0 ≤ A.cells.getD i 0) (h1 : A.cells.getD i 0 ≤ 18446744073709551615) : Calls Try.prog 61 #[.pointer (some ⟨q, 0, none⟩), .int .u64 i, .int .u64 u] w fun e w' => e = .returned (.int .u64 (A.cells.getD i 0)) ∧ w' = w.setCell ⟨r, i, none⟩ (.int .u64 (IntKind.u64.wrap (A.cells.getD i 0 + u))) := by
  have c1 : w.cell? ⟨q, 0, none⟩ = some _ := h.bQ.cell 0
  have c2 := h.rowcell hi
  have hw := wrap_back (A.cells.getD i 0) u h0 h1
  generalize A.cells.getD i 0 = x at *
  have HL : Hid (Calls Try.prog 69 #[.pointer (some ⟨r, i, none⟩), .int .u64 u] w fun e w' => e = .returned (.int .u64 (IntKind.u64.wrap (x + u))) ∧ w' = w.setCell ⟨r, i, none⟩ (.int .u64 (IntKind.u64.wrap (x + u)))) := by
    have ha := at_add (y := u) c2 (h.bR.cold i)
    clear c1 h hw
    go_enter Try.func69, Try.ntmps69
    go_wp2
    go_ret
    exact ⟨rfl, rfl⟩
  clear h0 h1
  generalize IntKind.u64.wrap (x + u) = y at *
  go_enter Try.func61, Try.ntmps61
  go_wp2_with fail
  refine HL.out.mono ?_
  rintro e w' ⟨rfl, rfl⟩
  go_wp2
  go_ret
  exact ⟨rfl, rfl⟩
theorem s_has (h : SMx w F bm q r A) (x : Int) (hn : A.cells.length ≤ 4194304) : Calls Try.prog 40 #[.pointer (some ⟨bm, 0, none⟩), .int .u64 x] w fun e w' => e = .returned (.bool (A.has x)) ∧ w = w' := by
  have c1 : w.cell? ⟨bm, 0, none⟩ = some _ := h.bM.cell 0
  have hs := s_size h
  unfold Mem.has
  generalize A.cells.length = n at hs hn ⊢
  have Hs := Lib.hid hs
  clear hs h
  go_enter Try.func40, Try.ntmps40
  go_wp2_with fail
  refine Hs.out.mono ?_
  rintro e w' ⟨rfl, rfl⟩
  go_wp2
  go_ret
  exact ⟨rfl, rfl⟩
theorem s_peek (h : SMx w F bm q r A) (x : Int) (h0 : 0 ≤ x) (hn : A.cells.length ≤ 4194304) : Calls Try.prog 19 #[.pointer (some ⟨bm, 0, none⟩), .int .u64 x] w fun e w' => e = .returned (.int .u64 (A.peek x)) ∧ w = w' := by
  have c1 : w.cell? ⟨bm, 0, none⟩ = some _ := h.bM.cell 0
  have hh := s_has h x hn
  cases hx : A.has x
  · have hp := peek_past A hx
    rw [hx] at hh
    rw [hp]
    have Hh := Lib.hid hh
    clear hh hx hp
    go_enter Try.func19, Try.ntmps19
    go_wp2_with fail
    refine Hh.out.mono ?_
    rintro e w' ⟨rfl, rfl⟩
    go_wp2
    go_ret
    exact ⟨rfl, rfl⟩
  · obtain ⟨i, rfl, hi⟩ := has_nat h0 hx
    rw [hx] at hh
    have hl := s_load h hi
    have hp : A.peek i = A.cells.getD i 0 := by simp [Mem.peek]
    rw [hp]
    generalize A.cells.getD i 0 = y at *
    have Hh := Lib.hid hh
    have Hl := Lib.hid hl
    clear hh hx hl hp
    go_enter Try.func19, Try.ntmps19
    go_wp2_with fail
    refine Hh.out.mono ?_
    rintro e w' ⟨rfl, rfl⟩
    go_wp2_with fail
    refine Hl.out.mono ?_
    rintro e w' ⟨rfl, rfl⟩
    go_wp2
    go_ret
    exact ⟨rfl, rfl⟩
end
end Go.Proofs.Ythggpbbnhjaegaa

/-
  What the procs of vcas tell; nil ones; a proc alone. No condition.
-/
import Derived.Test.YtenlgfagfpaenaaVcC
namespace Go.Proofs.Ytenlgfagfpaenaa
open Go Go.RowKit
set_option linter.unusedSimpArgs false
set_option linter.unusedVariables false
section
variable {w0 w w' w1 w2 : World} {o : Option Vu} {p q : Nat → Prop} {k g i : Nat} {t : TypeId} {cam obj h0 st val old now n er at_ : Int} {nn sw bg : Bool} {iv se : Value}
set_option maxRecDepth 100000 in
theorem Read_nil (w : World) (x0 : Value) : Calls Try.prog 20 #[.pointer none, x0] w fun e w' => e = .returned (.bool true) ∧ w = w' := by
  go_enter Try.func20, Try.ntmps20
  go_wp2
  go_ret
  exact ⟨rfl, rfl⟩
set_option maxRecDepth 100000 in
theorem Cas_step_nil (w : World) (x0 : Value) : Calls Try.prog 21 #[.pointer none, x0] w fun e w' => e = .returned (.bool true) ∧ w = w' := by
  go_enter Try.func21, Try.ntmps21
  go_wp2
  go_ret
  exact ⟨rfl, rfl⟩
set_option maxRecDepth 100000 in
theorem At_nil (w : World) (x0 : Value) : Calls Try.prog 22 #[.pointer none, x0] w fun e w' => e = .returned (.bool true) ∧ w = w' := by
  go_enter Try.func22, Try.ntmps22
  go_wp2
  go_ret
  exact ⟨rfl, rfl⟩
set_option maxRecDepth 100000 in
theorem Read_Value_nil (w : World) : Calls Try.prog 23 #[.pointer none] w fun e w' => e = .returned (.int .u64 0) ∧ w = w' := by
  go_enter Try.func23, Try.ntmps23
  go_wp2
  go_ret
  exact ⟨rfl, rfl⟩
set_option maxRecDepth 100000 in
theorem At_Value_nil (w : World) : Calls Try.prog 26 #[.pointer none] w fun e w' => e = .returned (.int .u64 0) ∧ w = w' := by
  go_enter Try.func26, Try.ntmps26
  go_wp2
  go_ret
  exact ⟨rfl, rfl⟩
set_option maxRecDepth 100000 in
theorem Cas_Done_nil (w : World) : Calls Try.prog 24 #[.pointer none] w fun e w' => e = .returned (.bool false) ∧ w = w' := by
  go_enter Try.func24, Try.ntmps24
  go_wp2
  go_ret
  exact ⟨rfl, rfl⟩
set_option maxRecDepth 100000 in
theorem Cas_Errno_nil (w : World) : Calls Try.prog 25 #[.pointer none] w fun e w' => e = .returned (.int .i64 1) ∧ w = w' := by
  go_enter Try.func25, Try.ntmps25
  go_wp2
  go_ret
  exact ⟨rfl, rfl⟩
theorem Read_Value (h : RdAt w k cam obj bg nn h0 iv at_ val) : Calls Try.prog 23 #[.pointer (some ⟨k, 0, none⟩)] w fun e w' => e = .returned (.int .u64 val) ∧ w = w' := by
  have c7 : w.cell? ⟨k, 7, none⟩ = some (.int .u64 val) := Blk.cell h 7
  clear h
  go_enter Try.func23, Try.ntmps23
  go_wp2
  go_ret
  exact ⟨rfl, rfl⟩
theorem At_Value (h : PaAt w k cam obj bg nn h0 iv at_ st val) : Calls Try.prog 26 #[.pointer (some ⟨k, 0, none⟩)] w fun e w' => e = .returned (.int .u64 val) ∧ w = w' := by
  have c8 : w.cell? ⟨k, 8, none⟩ = some (.int .u64 val) := Blk.cell h 8
  clear h
  go_enter Try.func26, Try.ntmps26
  go_wp2
  go_ret
  exact ⟨rfl, rfl⟩
theorem Cas_Done (h : CaAt w k cam obj bg nn h0 iv 7 old now n sw se er) : Calls Try.prog 24 #[.pointer (some ⟨k, 0, none⟩)] w fun e w' => e = .returned (.bool sw) ∧ w = w' := by
  have c6 : w.cell? ⟨k, 6, none⟩ = some (.int .i64 7) := Blk.cell h 6
  have c10 : w.cell? ⟨k, 10, none⟩ = some (.bool sw) := Blk.cell h 10
  clear h
  go_enter Try.func24, Try.ntmps24
  go_wp2
  go_ret
  exact ⟨rfl, rfl⟩
theorem Cas_Errno (h : CaAt w k cam obj bg nn h0 iv at_ old now n sw se er) : Calls Try.prog 25 #[.pointer (some ⟨k, 0, none⟩)] w fun e w' => e = .returned (.int .i64 er) ∧ w = w' := by
  have c12 : w.cell? ⟨k, 12, none⟩ = some (.int .i64 er) := Blk.cell h 12
  clear h
  go_enter Try.func25, Try.ntmps25
  go_wp2
  go_ret
  exact ⟨rfl, rfl⟩
set_option maxHeartbeats 1000000 in
set_option maxRecDepth 100000 in
/-- so many steps of a Cas, alone -/
theorem Alone_Cas (I : Nat → World → Prop) (n k : Nat) (v : Value) (hn : 0 < n) (hn2 : n ≤ 100) (h0 : I 0 w)
    (hs : ∀ j w, j < n → I j w → Calls Try.prog 21 #[.pointer (some ⟨k, 0, none⟩), v] w fun e w' => e = .returned (.bool (decide (j + 1 = n))) ∧ I (j + 1) w') :
    Calls Try.prog 38 #[v, .iface 43 (.pointer (some ⟨k, 0, none⟩)), .int .i64 (n : Int)] w fun e w' => e = .returned (.bool true) ∧ I n w' := by
  have hna : ∀ w : World, (nilAhead 324 43 (.pointer (some ⟨k, 0, none⟩)) "Step").run Try.prog w = .ok (some false) w := fun _ => by kernel_rfl
  have hme : ∀ w : World, (method 324 43 (.pointer (some ⟨k, 0, none⟩)) "Step").run Try.prog w = .ok (21, .pointer (some ⟨k, 0, none⟩)) w := fun _ => by kernel_rfl
  have HS := Lib.hid hs
  have H0 := Lib.hid h0
  clear hs h0
  go_enter Try.func38, Try.ntmps38
  go_wp2_with fail
  go_loopw [8] (fun i8 wr => ∃ j : Nat, i8 = .int .i64 j ∧ j < n ∧ Hid (I j wr)) (fun i8 _ => n - (intOf i8).toNat)
  case atStart => exact ⟨0, rfl, hn, H0⟩
  case round =>
    clear H0
    obtain ⟨j, rfl, hj, HI⟩ := hrel
    have HC := Lib.hid (HS.out j wr hj HI.out)
    clear HI
    by_cases hl : j + 1 = n
    · rw [decide_eq_true hl] at HC
      go_wp2_with fail
      refine HC.out.mono ?_
      rintro e w2 ⟨rfl, h2⟩
      have H2 := Lib.hid h2
      clear h2 HC
      go_wp2
      go_ret
      exact ⟨rfl, by rw [← hl]; exact H2.out⟩
    · rw [decide_eq_false hl] at HC
      go_wp2_with fail
      refine HC.out.mono ?_
      rintro e w2 ⟨rfl, h2⟩
      have H2 := Lib.hid h2
      clear h2 HC
      go_wp2_with fail
      go_roundw
      case rel => exact ⟨j + 1, by go_num, by omega, H2⟩
      case measure => simp [intOf]; omega
set_option maxHeartbeats 1000000 in
set_option maxRecDepth 100000 in
/-- so many steps of a Read, alone -/
theorem Alone_Read (I : Nat → World → Prop) (n k : Nat) (v : Value) (hn : 0 < n) (hn2 : n ≤ 100) (h0 : I 0 w)
    (hs : ∀ j w, j < n → I j w → Calls Try.prog 20 #[.pointer (some ⟨k, 0, none⟩), v] w fun e w' => e = .returned (.bool (decide (j + 1 = n))) ∧ I (j + 1) w') :
    Calls Try.prog 38 #[v, .iface 42 (.pointer (some ⟨k, 0, none⟩)), .int .i64 (n : Int)] w fun e w' => e = .returned (.bool true) ∧ I n w' := by
  have hna : ∀ w : World, (nilAhead 324 42 (.pointer (some ⟨k, 0, none⟩)) "Step").run Try.prog w = .ok (some false) w := fun _ => by kernel_rfl
  have hme : ∀ w : World, (method 324 42 (.pointer (some ⟨k, 0, none⟩)) "Step").run Try.prog w = .ok (20, .pointer (some ⟨k, 0, none⟩)) w := fun _ => by kernel_rfl
  have HS := Lib.hid hs
  have H0 := Lib.hid h0
  clear hs h0
  go_enter Try.func38, Try.ntmps38
  go_wp2_with fail
  go_loopw [8] (fun i8 wr => ∃ j : Nat, i8 = .int .i64 j ∧ j < n ∧ Hid (I j wr)) (fun i8 _ => n - (intOf i8).toNat)
  case atStart => exact ⟨0, rfl, hn, H0⟩
  case round =>
    clear H0
    obtain ⟨j, rfl, hj, HI⟩ := hrel
    have HC := Lib.hid (HS.out j wr hj HI.out)
    clear HI
    by_cases hl : j + 1 = n
    · rw [decide_eq_true hl] at HC
      go_wp2_with fail
      refine HC.out.mono ?_
      rintro e w2 ⟨rfl, h2⟩
      have H2 := Lib.hid h2
      clear h2 HC
      go_wp2
      go_ret
      exact ⟨rfl, by rw [← hl]; exact H2.out⟩
    · rw [decide_eq_false hl] at HC
      go_wp2_with fail
      refine HC.out.mono ?_
      rintro e w2 ⟨rfl, h2⟩
      have H2 := Lib.hid h2
      clear h2 HC
      go_wp2_with fail
      go_roundw
      case rel => exact ⟨j + 1, by go_num, by omega, H2⟩
      case measure => simp [intOf]; omega
end
end Go.Proofs.Ytenlgfagfpaenaa

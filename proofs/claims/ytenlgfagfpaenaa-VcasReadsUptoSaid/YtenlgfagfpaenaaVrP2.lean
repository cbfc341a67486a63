/-
  The procs of vcas: finding, swapping, At's steps. No condition.
-/
import Derived.Test.YtenlgfagfpaenaaVrP
namespace Go.Proofs.Ytenlgfagfpaenaa
open Go Go.RowKit
set_option linter.unusedSimpArgs false
set_option linter.unusedVariables false
section
variable {w0 w w' w1 w2 : World} {ov : Vu} {o : Option Vu} {p q : Nat → Prop} {k g i a : Nat} {t : TypeId} {cam ver obj h0 st val old now n er : Int} {nn sw : Bool} {iv se : Value}
set_option maxRecDepth 100000 in
/-- a Cas whose newest version gets its stamp -/
theorem Cas_find {b : Bool} {at_ : Int} {P : World → Prop} (h : CaAt w k cam obj true false h0 (.pointer (some ⟨i, 0, none⟩)) 0 old now n sw se er)
    (hC : Calls Try.prog 19 #[.pointer (some ⟨i, 0, none⟩), vv o] w fun e w' => e = .returned (.bool b) ∧ P w')
    (hP : ∀ w', P w' → CaAt w' k cam obj true false h0 (.pointer (some ⟨i, 0, none⟩)) 0 old now n sw se er) :
    Calls Try.prog 21 #[.pointer (some ⟨k, 0, none⟩), vv o] w fun e w' => e = .returned (.bool false) ∧ ∃ w2, P w2 ∧ w' = (if b then w2.setCell ⟨k, 6, none⟩ (.int .i64 1) else w2) := by
  have c6 : w.cell? ⟨k, 6, none⟩ = some (.int .i64 0) := Blk.cell h 6
  have HC := Lib.hid (find_later h hC)
  have HP := Lib.hid hP
  clear h hC hP
  go_enter Try.func21, Try.ntmps21
  go_wp2_with fail
  refine HC.out.mono ?_
  rintro e w2 ⟨rfl, hp⟩
  have hb := HP.out w2 hp
  have HQ := Lib.hid hp
  have e6 : w2.cell? ⟨k, 6, none⟩ = some (.int .i64 0) := Blk.cell hb 6
  have g6 := Blk.cold hb 6
  have e3 : w2.cell? ⟨k, 3, none⟩ = some (.bool false) := Blk.cell hb 3
  have e3' : (w2.setCell ⟨k, 6, none⟩ (.int .i64 1)).cell? ⟨k, 3, none⟩ = some (.bool false) := Blk.cell (Blk.put hb 6 (.int .i64 1)) 3
  clear hb hp HC HP
  cases b
  · go_wp2
    go_ret
    first | exact ⟨rfl, _, HQ.out, rfl⟩ | exact ⟨rfl, HQ.out⟩
  · go_wp2
    go_ret
    first | exact ⟨rfl, _, HQ.out, rfl⟩ | exact ⟨rfl, HQ.out⟩
set_option maxRecDepth 100000 in
/-- an At whose newest version gets its stamp -/
theorem At_find {b : Bool} {at_ : Int} {P : World → Prop} (h : PaAt w k cam obj true false h0 (.pointer (some ⟨i, 0, none⟩)) 0 st val)
    (hC : Calls Try.prog 19 #[.pointer (some ⟨i, 0, none⟩), vv o] w fun e w' => e = .returned (.bool b) ∧ P w')
    (hP : ∀ w', P w' → PaAt w' k cam obj true false h0 (.pointer (some ⟨i, 0, none⟩)) 0 st val) :
    Calls Try.prog 22 #[.pointer (some ⟨k, 0, none⟩), vv o] w fun e w' => e = .returned (.bool false) ∧ ∃ w2, P w2 ∧ w' = (if b then w2.setCell ⟨k, 6, none⟩ (.int .i64 5) else w2) := by
  have c6 : w.cell? ⟨k, 6, none⟩ = some (.int .i64 0) := Blk.cell h 6
  have HC := Lib.hid (find_later h hC)
  have HP := Lib.hid hP
  clear h hC hP
  go_enter Try.func22, Try.ntmps22
  go_wp2_with fail
  refine HC.out.mono ?_
  rintro e w2 ⟨rfl, hp⟩
  have hb := HP.out w2 hp
  have HQ := Lib.hid hp
  have e6 : w2.cell? ⟨k, 6, none⟩ = some (.int .i64 0) := Blk.cell hb 6
  have g6 := Blk.cold hb 6
  have e3 : w2.cell? ⟨k, 3, none⟩ = some (.bool false) := Blk.cell hb 3
  have e3' : (w2.setCell ⟨k, 6, none⟩ (.int .i64 5)).cell? ⟨k, 3, none⟩ = some (.bool false) := Blk.cell (Blk.put hb 6 (.int .i64 5)) 3
  clear hb hp HC HP
  cases b
  · go_wp2
    go_ret
    first | exact ⟨rfl, _, HQ.out, rfl⟩ | exact ⟨rfl, HQ.out⟩
  · go_wp2
    go_ret
    first | exact ⟨rfl, _, HQ.out, rfl⟩ | exact ⟨rfl, HQ.out⟩
set_option maxRecDepth 100000 in
/-- an At's first step -/
theorem At_new (h : PaAt w k cam obj false nn h0 iv 0 st val) (hm : Mx w0 o p w) (hp : p k) (ho : 0 ≤ obj) (y : Int) (hy : pk o obj = y) (hk : Ok (ld o obj)) :
    Calls Try.prog 22 #[.pointer (some ⟨k, 0, none⟩), vv o] w fun e w' => e = .returned (.bool (y == 0)) ∧ ∃ i, PaAt w' k cam obj true (y == 0) y (.pointer (some ⟨i, 0, none⟩)) (if y = 0 then 7 else 0) st val ∧ InitAt w' i cam y 0 0 ∧ Mx w0 (ld o obj) (fun x => p x ∨ x = i) w' ∧ Kb p k w w' ∧ ¬ p i := by
  have c6 : w.cell? ⟨k, 6, none⟩ = some (.int .i64 0) := Blk.cell h 6
  have HC := Lib.hid (find_first (rest := [.int .i64 0, .int .u64 st, .int .u64 val]) h hm hp ho y hy hk)
  clear h hm hk hy
  go_enter Try.func22, Try.ntmps22
  go_wp2_with fail
  refine HC.out.mono ?_
  rintro e w2 ⟨rfl, i, hb, hi, hm2, hk2, hn⟩
  have e6 : w2.cell? ⟨k, 6, none⟩ = some (.int .i64 0) := Blk.cell hb 6
  have g6 := Blk.cold hb 6
  have e3 : w2.cell? ⟨k, 3, none⟩ = some (.bool (y == 0)) := Blk.cell hb 3
  have hbx : Blk ((w2.setCell ⟨k, 6, none⟩ (.int .i64 5)).setCell ⟨k, 6, none⟩ (.int .i64 7)) k 137 (headC cam obj true (y == 0) y (.pointer (some ⟨i, 0, none⟩)) ++ ([.int .i64 7, .int .u64 st, .int .u64 val] : List Value)).toArray := (Blk.put (Blk.put hb 6 (.int .i64 5)) 6 (.int .i64 7)).eq (by simp [headC])
  have hik : i ≠ k := fun e => hn (e ▸ hp)
  have hix : InitAt ((w2.setCell ⟨k, 6, none⟩ (.int .i64 5)).setCell ⟨k, 6, none⟩ (.int .i64 7)) i cam y 0 0 := Blk.far (Blk.far hi (p := ⟨k, 6, none⟩) hik _) (p := ⟨k, 6, none⟩) hik _
  have hmx := (hm2.put (.inl hp) 6 (.int .i64 5)).put (.inl hp) 6 (.int .i64 7)
  have hkx : Kb p k w ((w2.setCell ⟨k, 6, none⟩ (.int .i64 5)).setCell ⟨k, 6, none⟩ (.int .i64 7)) := (hk2.trans (Kb.put k 6 _)).trans (Kb.put k 6 _)
  have H0 := Lib.hid (And.intro hb (And.intro hi (And.intro hm2 (And.intro hk2 hn))))
  have H1 := Lib.hid (And.intro hbx (And.intro hix (And.intro hmx (And.intro hkx hn))))
  clear hb hi hm2 hk2 hn hbx hix hmx hkx hik HC
  by_cases hz : y = 0
  · subst hz
    go_wp2
    go_ret
    exact ⟨rfl, i, H1.out⟩
  · have hz2 : (y == 0) = false := by simpa using hz
    rw [hz2] at e3 H0 H1 ⊢
    go_wp2
    go_ret
    exact ⟨rfl, i, H0.out⟩
set_option maxRecDepth 100000 in
/-- an At's last step -/
theorem At_load {bg : Bool} (h : PaAt w k cam obj bg nn h0 iv 1 st val) (hm : Mx w0 o p w) (hp : p k) (h00 : 0 ≤ h0) (y : Int) (hy : pk o h0 = y) (hk : Ok (ld o h0)) :
    Calls Try.prog 22 #[.pointer (some ⟨k, 0, none⟩), vv o] w fun e w' => e = .returned (.bool true) ∧ PaAt w' k cam obj bg nn h0 iv 7 st y ∧ Mx w0 (ld o h0) p w' ∧ Kb p k w w' := by
  have c6 : w.cell? ⟨k, 6, none⟩ = some (.int .i64 1) := Blk.cell h 6
  have c4 : w.cell? ⟨k, 4, none⟩ = some (.int .u64 h0) := Blk.cell h 4
  have HC := Lib.hid (hm.load h0 h00 hk)
  rw [hy] at HC
  have HB := Lib.hid h
  clear h hm hk hy
  go_enter Try.func22, Try.ntmps22
  go_wp2_with fail
  refine HC.out.mono ?_
  rintro e w2 ⟨rfl, hm2, hk2⟩
  have hb : PaAt w2 k cam obj bg nn h0 iv 1 st val := hk2.blk HB.out hp
  have e6 : w2.cell? ⟨k, 6, none⟩ = some (.int .i64 1) := Blk.cell hb 6
  have g6 := Blk.cold hb 6
  have e7 : w2.cell? ⟨k, 8, none⟩ = some (.int .u64 val) := Blk.cell hb 8
  have g7 := Blk.cold hb 8
  have H1 : Hid (PaAt ((w2.setCell ⟨k, 8, none⟩ (.int .u64 y)).setCell ⟨k, 6, none⟩ (.int .i64 7)) k cam obj bg nn h0 iv 7 st y) := (Blk.put (Blk.put hb 8 (.int .u64 y)) 6 (.int .i64 7)).eq (by simp [headC])
  have H2 := Lib.hid ((hm2.put hp 8 (.int .u64 y)).put hp 6 (.int .i64 7))
  have H3 : Hid (Kb p k w ((w2.setCell ⟨k, 8, none⟩ (.int .u64 y)).setCell ⟨k, 6, none⟩ (.int .i64 7))) := ((Kb.of hk2).trans (Kb.put k 8 _)).trans (Kb.put k 6 _)
  clear hb hm2 hk2 HB HC
  go_wp2
  go_ret
  exact ⟨rfl, H1.out, H2.out, H3.out⟩
set_option maxRecDepth 100000 in
/-- a Cas puts its version there -/
theorem Cas_swap {bg : Bool} (b : Bool) (h : CaAt w k cam obj bg nn h0 iv 3 old now n sw se er) (hm : Mx w0 o p w) (hp : p k) (ho : 0 ≤ obj) (hx : ht o obj h0 = b) (hk : Ok (cz o obj h0 n)) :
    Calls Try.prog 21 #[.pointer (some ⟨k, 0, none⟩), vv o] w fun e w' => e = .returned (.bool false) ∧ ∃ i, CaAt w' k cam obj bg nn h0 iv (if b then 4 else 5) old now n b (.pointer (some ⟨i, 0, none⟩)) er ∧ InitAt w' i cam n 0 0 ∧ Mx w0 (cz o obj h0 n) (fun x => p x ∨ x = i) w' ∧ Kb p k w w' ∧ ¬ p i := by
  have c6 : w.cell? ⟨k, 6, none⟩ = some (.int .i64 3) := Blk.cell h 6
  have hC := hm.drew.cas obj h0 n ho hk
  rw [hx] at hC
  have HC := Lib.hid hC
  have HS : Hid (∀ wx sw', CaAt wx k cam obj bg nn h0 iv 3 old now n sw' se er → (wx.cell? ⟨k, 1, none⟩ = some (.int .u64 obj) ∧ wx.cell? ⟨k, 4, none⟩ = some (.int .u64 h0) ∧ wx.cell? ⟨k, 9, none⟩ = some (.int .u64 n))) := fun wx n' hh => ⟨Blk.cell hh 1, Blk.cell hh 4, Blk.cell hh 9⟩
  have k0 : CaAt w.drew k cam obj bg nn h0 iv 3 old now n sw se er := h
  clear h hm hC hk hx
  go_enter Try.func21, Try.ntmps21
  go_upto_region 24 with fail
  go_region_held3 (fun wx => wx.cell? ⟨k, 1, none⟩ = some (.int .u64 obj) ∧ wx.cell? ⟨k, 4, none⟩ = some (.int .u64 h0) ∧ wx.cell? ⟨k, 9, none⟩ = some (.int .u64 n))
    (first | exact HS.out _ _ k0 | exact HS.out _ _ k4 | exact HS.out _ _ k5)
    (first | ((with_reducible refine HC.out.mono ?_); rintro e w4 ⟨rfl, hm4, hk4⟩; have k4 : CaAt w4 k cam obj bg nn h0 iv 3 old now n sw se er := hk4.blk k0 hp; have n10 : w4.cell? ⟨k, 10, none⟩ = some (.bool sw) := Blk.cell k4 10; have m10 := Blk.cold k4 10; have k5 : CaAt (w4.setCell ⟨k, 10, none⟩ (.bool b)) k cam obj bg nn h0 iv 3 old now n b se er := (Blk.put k4 10 (.bool b)).eq (by simp [headC]); have HM5 := Lib.hid (hm4.put hp 10 (.bool b)); have HK5 : Hid (Kb p k w (w4.setCell ⟨k, 10, none⟩ (.bool b))) := (Kb.trans (Kb.drewN 1) (Kb.of hk4)).trans (Kb.put k 10 _); clear hm4 hk4))
  clear HC HS k0 k4 n10 m10
  go_upto_region 25 with fail
  generalize w4.setCell ⟨k, 10, none⟩ (.bool b) = w5 at *
  have HA : Hid (∀ ob, CaAt (w5.drew.alloc ob) k cam obj bg nn h0 iv 3 old now n b se er) := fun ob => Blk.alloc (show Blk w5.drew k _ _ from k5) ob
  have HS : Hid (∀ wx se', CaAt wx k cam obj bg nn h0 iv 3 old now n b se' er → (wx.cell? ⟨k, 0, none⟩ = some (.int .u64 cam) ∧ wx.cell? ⟨k, 9, none⟩ = some (.int .u64 n))) := fun wx n' hh => ⟨Blk.cell hh 0, Blk.cell hh 9⟩
  have HN : Hid (∀ w6, w6 = w5.drew.alloc (.cells #[.int .u64 cam, .int .u64 n, .int .i64 0, .int .u64 0] 127) → CaAt w6 k cam obj bg nn h0 iv 3 old now n b se er ∧ Hid (CaAt (w6.setCell ⟨k, 11, none⟩ (.pointer (some ⟨w5.heap.size, 0, none⟩))) k cam obj bg nn h0 iv 3 old now n b (.pointer (some ⟨w5.heap.size, 0, none⟩)) er ∧ InitAt (w6.setCell ⟨k, 11, none⟩ (.pointer (some ⟨w5.heap.size, 0, none⟩))) w5.heap.size cam n 0 0 ∧ Mx w0 (cz o obj h0 n) (fun x => p x ∨ x = w5.heap.size) (w6.setCell ⟨k, 11, none⟩ (.pointer (some ⟨w5.heap.size, 0, none⟩))) ∧ Kb p k w (w6.setCell ⟨k, 11, none⟩ (.pointer (some ⟨w5.heap.size, 0, none⟩))) ∧ ¬ p w5.heap.size)) := by
    rintro w6 rfl
    have hb4 := HA.out (.cells #[.int .u64 cam, .int .u64 n, .int .i64 0, .int .u64 0] 127)
    have hI : InitAt (w5.drew.alloc (.cells #[.int .u64 cam, .int .u64 n, .int .i64 0, .int .u64 0] 127)) w5.drew.heap.size cam n 0 0 := Blk.made _ _ _
    have hm4 := HM5.out.drew.alloc (.cells #[.int .u64 cam, .int .u64 n, .int .i64 0, .int .u64 0] 127)
    have hpos := HM5.out.pos
    have hK4 : Kb p k w (w5.drew.alloc (.cells #[.int .u64 cam, .int .u64 n, .int .i64 0, .int .u64 0] 127)) := (HK5.out.trans (Kb.drewN 1)).trans (Kb.alloc (fun x hx => (hpos x hx).2) _)
    have hkl := (hpos k hp).2
    exact ⟨hb4, (Blk.put hb4 11 _).eq (by simp [headC]), Blk.far hI (p := ⟨k, 11, none⟩) (by show w5.heap.size ≠ k; omega) _, hm4.put (.inl hp) 11 _, hK4.trans (Kb.put k 11 _), fun e => by have := (hpos _ e).2; omega⟩
  have k0 : CaAt w5.drew k cam obj bg nn h0 iv 3 old now n b se er := k5
  clear k5 HM5 HK5
  go_region_held3 (fun wx => wx.cell? ⟨k, 0, none⟩ = some (.int .u64 cam) ∧ wx.cell? ⟨k, 9, none⟩ = some (.int .u64 n))
    (first | exact HS.out _ _ k0 | exact HS.out _ _ k6 | exact HS.out _ _ k7)
    (first | ((with_reducible refine (NewInit_any _ _ _).mono ?_); rintro e w6 ⟨rfl, hw6⟩; obtain ⟨k6, HN6⟩ := HN.out w6 hw6; have n11 : w6.cell? ⟨k, 11, none⟩ = some se := Blk.cell k6 11; have m11 := Blk.cold k6 11; have k7 := HN6.out.1; clear hw6))
  clear HN HA HS k0 k6 n11 m11
  have d6 : (w6.setCell ⟨k, 11, none⟩ (.pointer (some ⟨w5.heap.size, 0, none⟩))).cell? ⟨k, 6, none⟩ = some (.int .i64 3) := Blk.cell k7 6
  have g6 := Blk.cold k7 6
  have d10 : (w6.setCell ⟨k, 11, none⟩ (.pointer (some ⟨w5.heap.size, 0, none⟩))).cell? ⟨k, 10, none⟩ = some (.bool b) := Blk.cell k7 10
  generalize w6.setCell ⟨k, 11, none⟩ (.pointer (some ⟨w5.heap.size, 0, none⟩)) = w7 at *
  obtain ⟨q1, q2, q3, q4, q5⟩ := HN6.out
  have hik : w5.heap.size ≠ k := fun e => q5 (e ▸ hp)
  have r1 : CaAt (w7.setCell ⟨k, 6, none⟩ (.int .i64 4)) k cam obj bg nn h0 iv 4 old now n b (.pointer (some ⟨w5.heap.size, 0, none⟩)) er := (Blk.put q1 6 (.int .i64 4)).eq (by simp [headC])
  have H1 : Hid (CaAt (w7.setCell ⟨k, 6, none⟩ (.int .i64 4)) k cam obj bg nn h0 iv 4 old now n b (.pointer (some ⟨w5.heap.size, 0, none⟩)) er ∧ InitAt (w7.setCell ⟨k, 6, none⟩ (.int .i64 4)) w5.heap.size cam n 0 0 ∧ Mx w0 (cz o obj h0 n) (fun x => p x ∨ x = w5.heap.size) (w7.setCell ⟨k, 6, none⟩ (.int .i64 4)) ∧ Kb p k w (w7.setCell ⟨k, 6, none⟩ (.int .i64 4)) ∧ ¬ p w5.heap.size) :=
    ⟨r1, Blk.far q2 (p := ⟨k, 6, none⟩) hik _, q3.put (.inl hp) 6 _, q4.trans (Kb.put k 6 _), q5⟩
  have H2 : Hid (CaAt ((w7.setCell ⟨k, 6, none⟩ (.int .i64 4)).setCell ⟨k, 6, none⟩ (.int .i64 5)) k cam obj bg nn h0 iv 5 old now n b (.pointer (some ⟨w5.heap.size, 0, none⟩)) er ∧ InitAt ((w7.setCell ⟨k, 6, none⟩ (.int .i64 4)).setCell ⟨k, 6, none⟩ (.int .i64 5)) w5.heap.size cam n 0 0 ∧ Mx w0 (cz o obj h0 n) (fun x => p x ∨ x = w5.heap.size) ((w7.setCell ⟨k, 6, none⟩ (.int .i64 4)).setCell ⟨k, 6, none⟩ (.int .i64 5)) ∧ Kb p k w ((w7.setCell ⟨k, 6, none⟩ (.int .i64 4)).setCell ⟨k, 6, none⟩ (.int .i64 5)) ∧ ¬ p w5.heap.size) :=
    ⟨(Blk.put r1 6 (.int .i64 5)).eq (by simp [headC]), Blk.far H1.out.2.1 (p := ⟨k, 6, none⟩) hik _, H1.out.2.2.1.put (.inl hp) 6 _, H1.out.2.2.2.1.trans (Kb.put k 6 _), q5⟩
  have s10 : (w7.setCell ⟨k, 6, none⟩ (.int .i64 4)).cell? ⟨k, 10, none⟩ = some (.bool b) := Blk.cell r1 10
  have s6 : (w7.setCell ⟨k, 6, none⟩ (.int .i64 4)).cell? ⟨k, 6, none⟩ = some (.int .i64 4) := Blk.cell r1 6
  have t6 := Blk.cold r1 6
  clear q1 q2 q3 q4 q5 HN6 k7 r1
  cases b
  · go_wp2
    go_ret
    exact ⟨rfl, _, H2.out⟩
  · go_wp2
    go_ret
    exact ⟨rfl, _, H1.out⟩
end
end Go.Proofs.Ytenlgfagfpaenaa

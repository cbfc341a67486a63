/-
  Read, Cas and At: the steps that the laws' 'live' and the nil laws take. No condition.
-/
import Derived.Test.YtenlgfagfpaenaaVcB
namespace Go.Proofs.Ytenlgfagfpaenaa
open Go Go.RowKit
set_option linter.unusedSimpArgs false
set_option linter.unusedVariables false
def RdAt (w : World) (k : Nat) (cam obj : Int) (bg nn : Bool) (h : Int) (iv : Value) (at_ val : Int) : Prop := Blk w k 131 (headC cam obj bg nn h iv ++ ([.int .i64 at_, .int .u64 val] : List Value)).toArray
def PaAt (w : World) (k : Nat) (cam obj : Int) (bg nn : Bool) (h : Int) (iv : Value) (at_ st val : Int) : Prop := Blk w k 137 (headC cam obj bg nn h iv ++ ([.int .i64 at_, .int .u64 st, .int .u64 val] : List Value)).toArray
def CaAt (w : World) (k : Nat) (cam obj : Int) (bg nn : Bool) (h : Int) (iv : Value) (at_ old now n : Int) (sw : Bool) (se : Value) (er : Int) : Prop := Blk w k 133 (headC cam obj bg nn h iv ++ ([.int .i64 at_, .int .u64 old, .int .u64 now, .int .u64 n, .bool sw, se, .int .i64 er] : List Value)).toArray
section
variable {w0 w w' w1 w2 : World} {o : Option Vu} {p q : Nat → Prop} {k g i : Nat} {t : TypeId} {cam obj h0 st val old now n er : Int} {nn sw : Bool} {iv se : Value}
theorem NewRead_any (w : World) (c x : Int) : Calls Try.prog 27 #[.int .u64 c, .int .u64 x] w fun e w' => e = .returned (.pointer (some ⟨w.heap.size, 0, none⟩)) ∧ w' = w.alloc (.cells (headC c x false false 0 (.pointer none) ++ ([.int .i64 0, .int .u64 0] : List Value)).toArray 131) := by
  go_enter Try.func27, Try.ntmps27
  go_wp2
  go_ret
  exact ⟨rfl, rfl⟩
theorem NewAt_any (w : World) (c x s : Int) : Calls Try.prog 28 #[.int .u64 c, .int .u64 x, .int .u64 s] w fun e w' => e = .returned (.pointer (some ⟨w.heap.size, 0, none⟩)) ∧ w' = w.alloc (.cells (headC c x false false 0 (.pointer none) ++ ([.int .i64 0, .int .u64 s, .int .u64 0] : List Value)).toArray 137) := by
  go_enter Try.func28, Try.ntmps28
  go_wp2
  go_ret
  exact ⟨rfl, rfl⟩
theorem NewCas_any (w : World) (c x a b : Int) : Calls Try.prog 29 #[.int .u64 c, .int .u64 x, .int .u64 a, .int .u64 b] w fun e w' => e = .returned (.pointer (some ⟨w.heap.size, 0, none⟩)) ∧ w' = w.alloc (.cells (headC c x false false 0 (.pointer none) ++ ([.int .i64 0, .int .u64 a, .int .u64 b, .int .u64 0, .bool false, .pointer none, .int .i64 0] : List Value)).toArray 133) := by
  go_enter Try.func29, Try.ntmps29
  go_wp2
  go_ret
  exact ⟨rfl, rfl⟩
set_option maxRecDepth 100000 in
/-- a Read's first step -/
theorem Read_0 (h : RdAt w k cam obj false nn h0 iv 0 val) (hm : Mx w0 o p w) (hp : p k) (ho : 0 ≤ obj) (y : Int) (hy : pk o obj = y) (hk : Ok (ld o obj)) :
    Calls Try.prog 20 #[.pointer (some ⟨k, 0, none⟩), vv o] w fun e w' => e = .returned (.bool (y == 0)) ∧ ∃ i, RdAt w' k cam obj true (y == 0) y (.pointer (some ⟨i, 0, none⟩)) (if y = 0 then 7 else 0) val ∧ InitAt w' i cam y 0 0 ∧ Mx w0 (ld o obj) (fun x => p x ∨ x = i) w' ∧ Kb p k w w' ∧ ¬ p i := by
  have c6 : w.cell? ⟨k, 6, none⟩ = some (.int .i64 0) := Blk.cell h 6
  have HC := Lib.hid (find_first (rest := [.int .i64 0, .int .u64 val]) h hm hp ho y hy hk)
  clear h hm hk hy
  go_enter Try.func20, Try.ntmps20
  go_wp2_with fail
  refine HC.out.mono ?_
  rintro e w2 ⟨rfl, i, hb, hi, hm2, hk2, hn⟩
  have e6 : w2.cell? ⟨k, 6, none⟩ = some (.int .i64 0) := Blk.cell hb 6
  have g6 := Blk.cold hb 6
  have e3 : w2.cell? ⟨k, 3, none⟩ = some (.bool (y == 0)) := Blk.cell hb 3
  have hbx : Blk ((w2.setCell ⟨k, 6, none⟩ (.int .i64 1)).setCell ⟨k, 6, none⟩ (.int .i64 7)) k 131 (headC cam obj true (y == 0) y (.pointer (some ⟨i, 0, none⟩)) ++ ([.int .i64 7, .int .u64 val] : List Value)).toArray := (Blk.put (Blk.put hb 6 (.int .i64 1)) 6 (.int .i64 7)).eq (by simp [headC])
  have hik : i ≠ k := fun e => hn (e ▸ hp)
  have hix : InitAt ((w2.setCell ⟨k, 6, none⟩ (.int .i64 1)).setCell ⟨k, 6, none⟩ (.int .i64 7)) i cam y 0 0 := Blk.far (Blk.far hi (p := ⟨k, 6, none⟩) hik _) (p := ⟨k, 6, none⟩) hik _
  have hmx := (hm2.put (.inl hp) 6 (.int .i64 1)).put (.inl hp) 6 (.int .i64 7)
  have hkx : Kb p k w ((w2.setCell ⟨k, 6, none⟩ (.int .i64 1)).setCell ⟨k, 6, none⟩ (.int .i64 7)) := (hk2.trans (Kb.put k 6 _)).trans (Kb.put k 6 _)
  have H0 := Lib.hid (And.intro hb (And.intro hi (And.intro hm2 (And.intro hk2 hn))))
  have H1 := Lib.hid (And.intro hbx (And.intro hix (And.intro hmx (And.intro hkx hn))))
  clear hb hi hm2 hk2 hn hbx hix hmx hkx hik HC
  by_cases hz : y = 0
  · subst hz
    go_wp2
    go_ret
    exact ⟨rfl, i, H1.out⟩
  · have hz2 : (y == 0) = false := by simpa using hz
    rw [hz2] at e3 H0 H1 ⊢
    go_wp2
    go_ret
    exact ⟨rfl, i, H0.out⟩
set_option maxRecDepth 100000 in
/-- a Read whose newest version gets its stamp -/
theorem Read_1 {b : Bool} {at_ : Int} {P : World → Prop} (h : RdAt w k cam obj true false h0 (.pointer (some ⟨i, 0, none⟩)) 0 val)
    (hC : Calls Try.prog 19 #[.pointer (some ⟨i, 0, none⟩), vv o] w fun e w' => e = .returned (.bool b) ∧ P w')
    (hP : ∀ w', P w' → RdAt w' k cam obj true false h0 (.pointer (some ⟨i, 0, none⟩)) 0 val) :
    Calls Try.prog 20 #[.pointer (some ⟨k, 0, none⟩), vv o] w fun e w' => e = .returned (.bool false) ∧ ∃ w2, P w2 ∧ w' = (if b then w2.setCell ⟨k, 6, none⟩ (.int .i64 1) else w2) := by
  have c6 : w.cell? ⟨k, 6, none⟩ = some (.int .i64 0) := Blk.cell h 6
  have HC := Lib.hid (find_later h hC)
  have HP := Lib.hid hP
  clear h hC hP
  go_enter Try.func20, Try.ntmps20
  go_wp2_with fail
  refine HC.out.mono ?_
  rintro e w2 ⟨rfl, hp⟩
  have hb := HP.out w2 hp
  have HQ := Lib.hid hp
  have e6 : w2.cell? ⟨k, 6, none⟩ = some (.int .i64 0) := Blk.cell hb 6
  have g6 := Blk.cold hb 6
  have e3 : w2.cell? ⟨k, 3, none⟩ = some (.bool false) := Blk.cell hb 3
  have e3' : (w2.setCell ⟨k, 6, none⟩ (.int .i64 1)).cell? ⟨k, 3, none⟩ = some (.bool false) := Blk.cell (Blk.put hb 6 (.int .i64 1)) 3
  clear hb hp HC HP
  cases b
  · go_wp2
    go_ret
    first | exact ⟨rfl, _, HQ.out, rfl⟩ | exact ⟨rfl, HQ.out⟩
  · go_wp2
    go_ret
    first | exact ⟨rfl, _, HQ.out, rfl⟩ | exact ⟨rfl, HQ.out⟩
set_option maxRecDepth 100000 in
/-- a Read's last step -/
theorem Read_2 {bg : Bool} (h : RdAt w k cam obj bg nn h0 iv 1 val) (hm : Mx w0 o p w) (hp : p k) (h00 : 0 ≤ h0) (y : Int) (hy : pk o h0 = y) (hk : Ok (ld o h0)) :
    Calls Try.prog 20 #[.pointer (some ⟨k, 0, none⟩), vv o] w fun e w' => e = .returned (.bool true) ∧ RdAt w' k cam obj bg nn h0 iv 7 y ∧ Mx w0 (ld o h0) p w' ∧ Kb p k w w' := by
  have c6 : w.cell? ⟨k, 6, none⟩ = some (.int .i64 1) := Blk.cell h 6
  have c4 : w.cell? ⟨k, 4, none⟩ = some (.int .u64 h0) := Blk.cell h 4
  have HC := Lib.hid (hm.load h0 h00 hk)
  rw [hy] at HC
  have HB := Lib.hid h
  clear h hm hk hy
  go_enter Try.func20, Try.ntmps20
  go_wp2_with fail
  refine HC.out.mono ?_
  rintro e w2 ⟨rfl, hm2, hk2⟩
  have hb : RdAt w2 k cam obj bg nn h0 iv 1 val := hk2.blk HB.out hp
  have e6 : w2.cell? ⟨k, 6, none⟩ = some (.int .i64 1) := Blk.cell hb 6
  have g6 := Blk.cold hb 6
  have e7 : w2.cell? ⟨k, 7, none⟩ = some (.int .u64 val) := Blk.cell hb 7
  have g7 := Blk.cold hb 7
  have H1 : Hid (RdAt ((w2.setCell ⟨k, 7, none⟩ (.int .u64 y)).setCell ⟨k, 6, none⟩ (.int .i64 7)) k cam obj bg nn h0 iv 7 y) := (Blk.put (Blk.put hb 7 (.int .u64 y)) 6 (.int .i64 7)).eq (by simp [headC])
  have H2 := Lib.hid ((hm2.put hp 7 (.int .u64 y)).put hp 6 (.int .i64 7))
  have H3 : Hid (Kb p k w ((w2.setCell ⟨k, 7, none⟩ (.int .u64 y)).setCell ⟨k, 6, none⟩ (.int .i64 7))) := ((Kb.of hk2).trans (Kb.put k 7 _)).trans (Kb.put k 6 _)
  clear hb hm2 hk2 HB HC
  go_wp2
  go_ret
  exact ⟨rfl, H1.out, H2.out, H3.out⟩
set_option maxRecDepth 100000 in
/-- an At of an object without a version -/
theorem At_0 (h : PaAt w k cam obj false nn h0 iv 0 st val) (hm : Mx w0 o p w) (hp : p k) (ho : 0 ≤ obj) (hy : pk o obj = 0) (hk : Ok (ld o obj)) :
    Calls Try.prog 22 #[.pointer (some ⟨k, 0, none⟩), vv o] w fun e w' => e = .returned (.bool true) ∧ ∃ i, PaAt w' k cam obj true true 0 (.pointer (some ⟨i, 0, none⟩)) 7 st val ∧ Mx w0 (ld o obj) (fun x => p x ∨ x = i) w' ∧ Kb p k w w' := by
  have c6 : w.cell? ⟨k, 6, none⟩ = some (.int .i64 0) := Blk.cell h 6
  have HC := Lib.hid (find_first (rest := [.int .i64 0, .int .u64 st, .int .u64 val]) h hm hp ho 0 hy hk)
  clear h hm hk hy
  go_enter Try.func22, Try.ntmps22
  go_wp2_with fail
  refine HC.out.mono ?_
  rintro e w2 ⟨rfl, i, hb, hi, hm2, hk2, hn⟩
  have e6 : w2.cell? ⟨k, 6, none⟩ = some (.int .i64 0) := Blk.cell hb 6
  have g6 := Blk.cold hb 6
  have e3 : w2.cell? ⟨k, 3, none⟩ = some (.bool true) := Blk.cell hb 3
  have hbx : PaAt ((w2.setCell ⟨k, 6, none⟩ (.int .i64 5)).setCell ⟨k, 6, none⟩ (.int .i64 7)) k cam obj true true 0 (.pointer (some ⟨i, 0, none⟩)) 7 st val := (Blk.put (Blk.put hb 6 (.int .i64 5)) 6 (.int .i64 7)).eq (by simp [headC])
  have hmx := (hm2.put (.inl hp) 6 (.int .i64 5)).put (.inl hp) 6 (.int .i64 7)
  have hkx : Kb p k w ((w2.setCell ⟨k, 6, none⟩ (.int .i64 5)).setCell ⟨k, 6, none⟩ (.int .i64 7)) := (hk2.trans (Kb.put k 6 _)).trans (Kb.put k 6 _)
  have H1 := Lib.hid (And.intro hbx (And.intro hmx hkx))
  clear hb hi hm2 hk2 hn hbx hmx hkx HC
  go_wp2
  go_ret
  exact ⟨rfl, i, H1.out⟩
set_option maxRecDepth 100000 in
theorem compare_go (h : CaAt w k cam obj true true 0 iv 1 0 now n sw se er) (hn : now ≠ 0) :
    Calls Try.prog 59 #[.pointer (some ⟨k, 0, none⟩), .int .u64 0] w fun e w' => e = .returned (.tuple #[]) ∧ ∃ d, w' = (w.drewN d).setCell ⟨k, 6, none⟩ (.int .i64 2) := by
  have c7 : w.cell? ⟨k, 7, none⟩ = some (.int .u64 0) := Blk.cell h 7
  have c8 : w.cell? ⟨k, 8, none⟩ = some (.int .u64 now) := Blk.cell h 8
  have c6 : w.cell? ⟨k, 6, none⟩ = some (.int .i64 1) := Blk.cell h 6
  have f6 := Blk.cold h 6
  have hz : ((0 : Int) == now) = false := by simp; omega
  have hz2 : ¬ (0 : Int) = now := fun e => hn e.symm
  clear h
  go_enter Try.func59, Try.ntmps59
  go_wp2_with fail
  go_quiet (fail)
  go_wp2
  go_end0
  exact ⟨rfl, _, rfl⟩
set_option maxRecDepth 100000 in
/-- a Cas of an object without a version -/
theorem Cas_0 (h : CaAt w k cam obj false nn h0 iv 0 0 now n sw se er) (hm : Mx w0 o p w) (hp : p k) (ho : 0 ≤ obj) (hnw : now ≠ 0) (hy : pk o obj = 0) (hk : Ok (ld o obj)) :
    Calls Try.prog 21 #[.pointer (some ⟨k, 0, none⟩), vv o] w fun e w' => e = .returned (.bool false) ∧ ∃ iv', CaAt w' k cam obj true true 0 iv' 2 0 now n sw se er ∧ Mx w0 (ld o obj) p w' ∧ Kb p k w w' := by
  have c6 : w.cell? ⟨k, 6, none⟩ = some (.int .i64 0) := Blk.cell h 6
  have HC := Lib.hid (find_first (rest := [.int .i64 0, .int .u64 0, .int .u64 now, .int .u64 n, .bool sw, se, .int .i64 er]) h hm hp ho 0 hy hk)
  clear h hm hk hy
  go_enter Try.func21, Try.ntmps21
  go_wp2_with fail
  refine HC.out.mono ?_
  rintro e w2 ⟨rfl, i, hb, hi, hm2, hk2, hn⟩
  have e6 : w2.cell? ⟨k, 6, none⟩ = some (.int .i64 0) := Blk.cell hb 6
  have g6 := Blk.cold hb 6
  have hb1 : CaAt (w2.setCell ⟨k, 6, none⟩ (.int .i64 1)) k cam obj true true 0 (.pointer (some ⟨i, 0, none⟩)) 1 0 now n sw se er := (Blk.put hb 6 (.int .i64 1)).eq (by simp [headC])
  have hm1 := hm2.put (.inl hp) 6 (.int .i64 1)
  have hk1 : Kb p k w (w2.setCell ⟨k, 6, none⟩ (.int .i64 1)) := hk2.trans (Kb.put k 6 _)
  have e3 : w2.cell? ⟨k, 3, none⟩ = some (.bool true) := Blk.cell hb 3
  have HC1 := Lib.hid (compare_go hb1 hnw)
  have HB1 := Lib.hid hb1
  have HM1 := Lib.hid hm1
  have HK1 := Lib.hid hk1
  clear hb hi hm2 hk2 hn hb1 hm1 hk1 HC
  go_wp2_with fail
  refine HC1.out.mono ?_
  rintro e w3 ⟨rfl, d, hw3⟩
  have hb2 : CaAt w3 k cam obj true true 0 (.pointer (some ⟨i, 0, none⟩)) 2 0 now n sw se er := by
    rw [hw3]
    exact (Blk.put (show Blk ((w2.setCell ⟨k, 6, none⟩ (.int .i64 1)).drewN d) k _ _ from HB1.out) 6 (.int .i64 2)).eq (by simp [headC])
  have hm3 : Mx w0 (ld o obj) p w3 := by
    rw [hw3]
    exact (((HM1.out).drewN d).put (.inl hp) 6 _).weak (fun x hx => .inl hx)
  have hk3 : Kb p k w w3 := by
    rw [hw3]
    exact (HK1.out.trans (Kb.drewN d)).trans (Kb.put k 6 _)
  have e6' : w3.cell? ⟨k, 6, none⟩ = some (.int .i64 2) := Blk.cell hb2 6
  have H1 := Lib.hid (And.intro hb2 (And.intro hm3 hk3))
  clear hw3 hb2 hm3 hk3 HB1 HM1 HK1 HC1 e6 g6 e3
  go_wp2
  go_ret
  exact ⟨rfl, _, H1.out⟩
set_option maxRecDepth 100000 in
/-- a Cas makes its version -/
theorem Cas_1 {bg : Bool} {x : Int} (h : CaAt w k cam obj bg nn h0 iv 2 old now n sw se er) (hm : Mx w0 o p w) (hp : p k) (hx : sp o [now, 0, h0] = x) (hk : Ok (al o [now, 0, h0])) :
    Calls Try.prog 21 #[.pointer (some ⟨k, 0, none⟩), vv o] w fun e w' => e = .returned (.bool (x == 0)) ∧ CaAt w' k cam obj bg nn h0 iv (if x = 0 then 7 else 3) old now x sw se (if x = 0 then 30 else er) ∧ Mx w0 (al o [now, 0, h0]) p w' ∧ Kb p k w w' := by
  have c6 : w.cell? ⟨k, 6, none⟩ = some (.int .i64 2) := Blk.cell h 6
  have f6 := Blk.cold h 6
  have hb1 : CaAt (w.setCell ⟨k, 6, none⟩ (.int .i64 3)) k cam obj bg nn h0 iv 3 old now n sw se er := (Blk.put h 6 (.int .i64 3)).eq (by simp [headC])
  have hm1 := hm.put hp 6 (.int .i64 3)
  have hk1 : Kb p k w (w.setCell ⟨k, 6, none⟩ (.int .i64 3)) := Kb.put k 6 _
  have HB1 := Lib.hid hb1
  have HM1 := Lib.hid hm1
  have HK1 := Lib.hid hk1
  clear h hm hb1 hm1 hk1
  go_enter Try.func21, Try.ntmps21
  go_upto_region 20 with fail
  generalize w.setCell ⟨k, 6, none⟩ (.int .i64 3) = w1 at *
  have hm2 := (HM1.out.alloc (.cells #[.int .u64 now, .int .u64 0, .int .u64 h0] 23)).drew
  have hb2 : CaAt (w1.alloc (.cells #[.int .u64 now, .int .u64 0, .int .u64 h0] 23)).drew k cam obj bg nn h0 iv 3 old now n sw se er := Blk.alloc HB1.out _
  have hr2 : Blk (w1.alloc (.cells #[.int .u64 now, .int .u64 0, .int .u64 h0] 23)).drew w1.heap.size 23 (us [now, 0, h0]).toArray := Blk.made w1 _ _
  have hpos := HM1.out.pos
  have hK2 : Kb p k w (w1.alloc (.cells #[.int .u64 now, .int .u64 0, .int .u64 h0] 23)).drew := (HK1.out.trans (Kb.alloc (fun x hx => (hpos x hx).2) _)).trans (Kb.drewN 1)
  have hC := hm2.allocV (.inr rfl) hr2 (by simp) 3 hk
  rw [hx] at hC
  have HC : Hid (Calls Try.prog 60 #[vv o, .slice (some ⟨w1.heap.size, 0, none⟩) 3 3] (w1.alloc (.cells #[.int .u64 now, .int .u64 0, .int .u64 h0] 23)).drew fun e w' => e = .returned (.int .u64 x) ∧ Mx w0 (al o [now, 0, h0]) (fun x => p x ∨ x = w1.heap.size) w' ∧ Kp (fun x => p x ∨ x = w1.heap.size) (w1.alloc (.cells #[.int .u64 now, .int .u64 0, .int .u64 h0] 23)).drew w') := hC
  have HS : Hid (∀ wx n', CaAt wx k cam obj bg nn h0 iv 3 old now n' sw se er → (wx.cell? ⟨k, 8, none⟩ = some (.int .u64 now) ∧ wx.cell? ⟨k, 4, none⟩ = some (.int .u64 h0))) := fun wx n' hh => ⟨Blk.cell hh 8, Blk.cell hh 4⟩
  have k0 : CaAt w1.drew k cam obj bg nn h0 iv 3 old now n sw se er := HB1.out
  have HK2 := Lib.hid hK2
  clear hm2 hr2 hC hpos HM1 HK1 hK2
  go_region_held3 (fun wx => wx.cell? ⟨k, 8, none⟩ = some (.int .u64 now) ∧ wx.cell? ⟨k, 4, none⟩ = some (.int .u64 h0))
    (first | exact HS.out _ _ k0 | exact HS.out _ _ hb2 | exact HS.out _ _ k4 | exact HS.out _ _ k5)
    (first | ((with_reducible refine HC.out.mono ?_); rintro e w4 ⟨rfl, hm4, hk4⟩; have k4 : CaAt w4 k cam obj bg nn h0 iv 3 old now n sw se er := hk4.blk hb2 (.inl hp); have n9 : w4.cell? ⟨k, 9, none⟩ = some (.int .u64 n) := Blk.cell k4 9; have m9 := Blk.cold k4 9; have k5 : CaAt (w4.setCell ⟨k, 9, none⟩ (.int .u64 x)) k cam obj bg nn h0 iv 3 old now x sw se er := (Blk.put k4 9 (.int .u64 x)).eq (by simp [headC]); have HM5 := Lib.hid ((hm4.put (.inl hp) 9 (.int .u64 x)).weak (q := p) (fun x hx => .inl hx)); have HK5 : Hid (Kb p k w (w4.setCell ⟨k, 9, none⟩ (.int .u64 x))) := (HK2.out.trans ⟨hk4.1, fun x hx => hk4.2 x (.inl hx.1)⟩).trans (Kb.put k 9 _); clear hm4 hk4))
  clear HC HS k0 hb2 k4 n9 m9 HK2
  generalize w4.setCell ⟨k, 9, none⟩ (.int .u64 x) = w5 at *
  have d9 : w5.cell? ⟨k, 9, none⟩ = some (.int .u64 x) := Blk.cell k5 9
  have d12 : w5.cell? ⟨k, 12, none⟩ = some (.int .i64 er) := Blk.cell k5 12
  have g12 := Blk.cold k5 12
  have d6 : w5.cell? ⟨k, 6, none⟩ = some (.int .i64 3) := Blk.cell k5 6
  have g6 := Blk.cold k5 6
  have k6 : CaAt ((w5.setCell ⟨k, 12, none⟩ (.int .i64 30)).setCell ⟨k, 6, none⟩ (.int .i64 7)) k cam obj bg nn h0 iv 7 old now x sw se 30 := (Blk.put (Blk.put k5 12 (.int .i64 30)) 6 (.int .i64 7)).eq (by simp [headC])
  have H1 := Lib.hid (And.intro k5 (And.intro HM5.out HK5.out))
  have H2 : Hid (CaAt ((w5.setCell ⟨k, 12, none⟩ (.int .i64 30)).setCell ⟨k, 6, none⟩ (.int .i64 7)) k cam obj bg nn h0 iv 7 old now x sw se 30 ∧ Mx w0 (al o [now, 0, h0]) p ((w5.setCell ⟨k, 12, none⟩ (.int .i64 30)).setCell ⟨k, 6, none⟩ (.int .i64 7)) ∧ Kb p k w ((w5.setCell ⟨k, 12, none⟩ (.int .i64 30)).setCell ⟨k, 6, none⟩ (.int .i64 7))) := ⟨k6, (HM5.out.put hp 12 _).put hp 6 _, (HK5.out.trans (Kb.put k 12 _)).trans (Kb.put k 6 _)⟩
  clear k5 k6 HM5 HK5
  by_cases hz : x = 0
  · subst hz
    go_wp2
    go_ret
    exact ⟨rfl, H2.out⟩
  · have hz2 : (x == 0) = false := by simpa using hz
    go_wp2
    go_ret
    exact ⟨rfl, H1.out⟩
set_option maxRecDepth 100000 in
/-- a Cas puts its version there -/
theorem Cas_2 {bg : Bool} (h : CaAt w k cam obj bg nn h0 iv 3 old now n sw se er) (hm : Mx w0 o p w) (hp : p k) (ho : 0 ≤ obj) (hx : ht o obj h0 = true) (hk : Ok (cz o obj h0 n)) :
    Calls Try.prog 21 #[.pointer (some ⟨k, 0, none⟩), vv o] w fun e w' => e = .returned (.bool false) ∧ ∃ i, CaAt w' k cam obj bg nn h0 iv 4 old now n true (.pointer (some ⟨i, 0, none⟩)) er ∧ InitAt w' i cam n 0 0 ∧ Mx w0 (cz o obj h0 n) (fun x => p x ∨ x = i) w' ∧ Kb p k w w' ∧ ¬ p i := by
  have c6 : w.cell? ⟨k, 6, none⟩ = some (.int .i64 3) := Blk.cell h 6
  have hC := hm.drew.cas obj h0 n ho hk
  rw [hx] at hC
  have HC := Lib.hid hC
  have HS : Hid (∀ wx sw', CaAt wx k cam obj bg nn h0 iv 3 old now n sw' se er → (wx.cell? ⟨k, 1, none⟩ = some (.int .u64 obj) ∧ wx.cell? ⟨k, 4, none⟩ = some (.int .u64 h0) ∧ wx.cell? ⟨k, 9, none⟩ = some (.int .u64 n))) := fun wx n' hh => ⟨Blk.cell hh 1, Blk.cell hh 4, Blk.cell hh 9⟩
  have k0 : CaAt w.drew k cam obj bg nn h0 iv 3 old now n sw se er := h
  clear h hm hC hk hx
  go_enter Try.func21, Try.ntmps21
  go_upto_region 24 with fail
  go_region_held3 (fun wx => wx.cell? ⟨k, 1, none⟩ = some (.int .u64 obj) ∧ wx.cell? ⟨k, 4, none⟩ = some (.int .u64 h0) ∧ wx.cell? ⟨k, 9, none⟩ = some (.int .u64 n))
    (first | exact HS.out _ _ k0 | exact HS.out _ _ k4 | exact HS.out _ _ k5)
    (first | ((with_reducible refine HC.out.mono ?_); rintro e w4 ⟨rfl, hm4, hk4⟩; have k4 : CaAt w4 k cam obj bg nn h0 iv 3 old now n sw se er := hk4.blk k0 hp; have n10 : w4.cell? ⟨k, 10, none⟩ = some (.bool sw) := Blk.cell k4 10; have m10 := Blk.cold k4 10; have k5 : CaAt (w4.setCell ⟨k, 10, none⟩ (.bool true)) k cam obj bg nn h0 iv 3 old now n true se er := (Blk.put k4 10 (.bool true)).eq (by simp [headC]); have HM5 := Lib.hid (hm4.put hp 10 (.bool true)); have HK5 : Hid (Kb p k w (w4.setCell ⟨k, 10, none⟩ (.bool true))) := (Kb.trans (Kb.drewN 1) (Kb.of hk4)).trans (Kb.put k 10 _); clear hm4 hk4))
  clear HC HS k0 k4 n10 m10
  go_upto_region 25 with fail
  generalize w4.setCell ⟨k, 10, none⟩ (.bool true) = w5 at *
  have HA : Hid (∀ ob, CaAt (w5.drew.alloc ob) k cam obj bg nn h0 iv 3 old now n true se er) := fun ob => Blk.alloc (show Blk w5.drew k _ _ from k5) ob
  have HS : Hid (∀ wx se', CaAt wx k cam obj bg nn h0 iv 3 old now n true se' er → (wx.cell? ⟨k, 0, none⟩ = some (.int .u64 cam) ∧ wx.cell? ⟨k, 9, none⟩ = some (.int .u64 n))) := fun wx n' hh => ⟨Blk.cell hh 0, Blk.cell hh 9⟩
  have HN : Hid (∀ w6, w6 = w5.drew.alloc (.cells #[.int .u64 cam, .int .u64 n, .int .i64 0, .int .u64 0] 127) → CaAt w6 k cam obj bg nn h0 iv 3 old now n true se er ∧ Hid (CaAt (w6.setCell ⟨k, 11, none⟩ (.pointer (some ⟨w5.heap.size, 0, none⟩))) k cam obj bg nn h0 iv 3 old now n true (.pointer (some ⟨w5.heap.size, 0, none⟩)) er ∧ InitAt (w6.setCell ⟨k, 11, none⟩ (.pointer (some ⟨w5.heap.size, 0, none⟩))) w5.heap.size cam n 0 0 ∧ Mx w0 (cz o obj h0 n) (fun x => p x ∨ x = w5.heap.size) (w6.setCell ⟨k, 11, none⟩ (.pointer (some ⟨w5.heap.size, 0, none⟩))) ∧ Kb p k w (w6.setCell ⟨k, 11, none⟩ (.pointer (some ⟨w5.heap.size, 0, none⟩))) ∧ ¬ p w5.heap.size)) := by
    rintro w6 rfl
    have hb4 := HA.out (.cells #[.int .u64 cam, .int .u64 n, .int .i64 0, .int .u64 0] 127)
    have hI : InitAt (w5.drew.alloc (.cells #[.int .u64 cam, .int .u64 n, .int .i64 0, .int .u64 0] 127)) w5.drew.heap.size cam n 0 0 := Blk.made _ _ _
    have hm4 := HM5.out.drew.alloc (.cells #[.int .u64 cam, .int .u64 n, .int .i64 0, .int .u64 0] 127)
    have hpos := HM5.out.pos
    have hK4 : Kb p k w (w5.drew.alloc (.cells #[.int .u64 cam, .int .u64 n, .int .i64 0, .int .u64 0] 127)) := (HK5.out.trans (Kb.drewN 1)).trans (Kb.alloc (fun x hx => (hpos x hx).2) _)
    have hkl := (hpos k hp).2
    exact ⟨hb4, (Blk.put hb4 11 _).eq (by simp [headC]), Blk.far hI (p := ⟨k, 11, none⟩) (by show w5.heap.size ≠ k; omega) _, hm4.put (.inl hp) 11 _, hK4.trans (Kb.put k 11 _), fun e => by have := (hpos _ e).2; omega⟩
  have k0 : CaAt w5.drew k cam obj bg nn h0 iv 3 old now n true se er := k5
  clear k5 HM5 HK5
  go_region_held3 (fun wx => wx.cell? ⟨k, 0, none⟩ = some (.int .u64 cam) ∧ wx.cell? ⟨k, 9, none⟩ = some (.int .u64 n))
    (first | exact HS.out _ _ k0 | exact HS.out _ _ k6 | exact HS.out _ _ k7)
    (first | ((with_reducible refine (NewInit_any _ _ _).mono ?_); rintro e w6 ⟨rfl, hw6⟩; obtain ⟨k6, HN6⟩ := HN.out w6 hw6; have n11 : w6.cell? ⟨k, 11, none⟩ = some se := Blk.cell k6 11; have m11 := Blk.cold k6 11; have k7 := HN6.out.1; clear hw6))
  clear HN HA HS k0 k6 n11 m11
  have d6 : (w6.setCell ⟨k, 11, none⟩ (.pointer (some ⟨w5.heap.size, 0, none⟩))).cell? ⟨k, 6, none⟩ = some (.int .i64 3) := Blk.cell k7 6
  have g6 := Blk.cold k7 6
  have d10 : (w6.setCell ⟨k, 11, none⟩ (.pointer (some ⟨w5.heap.size, 0, none⟩))).cell? ⟨k, 10, none⟩ = some (.bool true) := Blk.cell k7 10
  generalize w6.setCell ⟨k, 11, none⟩ (.pointer (some ⟨w5.heap.size, 0, none⟩)) = w7 at *
  obtain ⟨q1, q2, q3, q4, q5⟩ := HN6.out
  have hik : w5.heap.size ≠ k := fun e => q5 (e ▸ hp)
  have H1 : Hid (CaAt (w7.setCell ⟨k, 6, none⟩ (.int .i64 4)) k cam obj bg nn h0 iv 4 old now n true (.pointer (some ⟨w5.heap.size, 0, none⟩)) er ∧ InitAt (w7.setCell ⟨k, 6, none⟩ (.int .i64 4)) w5.heap.size cam n 0 0 ∧ Mx w0 (cz o obj h0 n) (fun x => p x ∨ x = w5.heap.size) (w7.setCell ⟨k, 6, none⟩ (.int .i64 4)) ∧ Kb p k w (w7.setCell ⟨k, 6, none⟩ (.int .i64 4)) ∧ ¬ p w5.heap.size) :=
    ⟨(Blk.put q1 6 (.int .i64 4)).eq (by simp [headC]), Blk.far q2 (p := ⟨k, 6, none⟩) hik _, q3.put (.inl hp) 6 _, q4.trans (Kb.put k 6 _), q5⟩
  clear q1 q2 q3 q4 q5 HN6 k7
  go_wp2
  go_ret
  exact ⟨rfl, _, H1.out⟩
set_option maxRecDepth 100000 in
/-- the version of a Cas gets its stamp -/
theorem Cas_3 {bg b : Bool} {P : World → Prop} (h : CaAt w k cam obj bg nn h0 iv 4 old now n sw (.pointer (some ⟨i, 0, none⟩)) er)
    (hC : Calls Try.prog 19 #[.pointer (some ⟨i, 0, none⟩), vv o] w fun e w' => e = .returned (.bool b) ∧ P w')
    (hP : ∀ w', P w' → CaAt w' k cam obj bg nn h0 iv 4 old now n sw (.pointer (some ⟨i, 0, none⟩)) er) :
    Calls Try.prog 21 #[.pointer (some ⟨k, 0, none⟩), vv o] w fun e w' => e = .returned (.bool b) ∧ ∃ w2, P w2 ∧ w' = (if b then w2.setCell ⟨k, 6, none⟩ (.int .i64 7) else w2) := by
  have c6 : w.cell? ⟨k, 6, none⟩ = some (.int .i64 4) := Blk.cell h 6
  have c11 : w.cell? ⟨k, 11, none⟩ = some (.pointer (some ⟨i, 0, none⟩)) := Blk.cell h 11
  have HC := Lib.hid hC
  have HP := Lib.hid hP
  clear h hC hP
  go_enter Try.func21, Try.ntmps21
  go_wp2_with fail
  refine HC.out.mono ?_
  rintro e w2 ⟨rfl, hp⟩
  have hb := HP.out w2 hp
  have HQ := Lib.hid hp
  have e6 : w2.cell? ⟨k, 6, none⟩ = some (.int .i64 4) := Blk.cell hb 6
  have g6 := Blk.cold hb 6
  clear hb hp HC HP
  cases b
  · go_wp2
    go_ret
    first | exact ⟨rfl, _, HQ.out, rfl⟩ | exact ⟨rfl, HQ.out⟩
  · go_wp2
    go_ret
    first | exact ⟨rfl, _, HQ.out, rfl⟩ | exact ⟨rfl, HQ.out⟩
end
end Go.Proofs.Ytenlgfagfpaenaa

/-
  The procs of vcas: a Cas that begins, loads, looks; an At that looks, walks; a Take. No condition.
-/
import Derived.Test.YtenlgfagfpaenaaVrP2
namespace Go.Proofs.Ytenlgfagfpaenaa
open Go Go.RowKit
set_option linter.unusedSimpArgs false
set_option linter.unusedVariables false
/-- where a comparison leads -/
def cmpA (old now v : Int) : Int := if v ≠ old then 7 else if old = now then 7 else 2
def cmpS (old now v : Int) (sw : Bool) : Bool := if v ≠ old then sw else if old = now then true else sw
section
variable {w0 w w' w1 w2 : World} {ov : Vu} {o : Option Vu} {p q : Nat → Prop} {k g i a : Nat} {t : TypeId} {cam ver obj h0 st val old now n er at_ v : Int} {nn sw bg : Bool} {iv se : Value}
theorem CaAt.cmp (h : CaAt w k cam obj bg nn h0 iv at_ old now n sw se er) (v : Int) (d : Nat) : CaAt (cmpW k old now v (w.drewN d)) k cam obj bg nn h0 iv (cmpA old now v) old now n (cmpS old now v sw) se er := by
  have hd : CaAt (w.drewN d) k cam obj bg nn h0 iv at_ old now n sw se er := h
  unfold cmpW cmpA cmpS
  split
  · exact (Blk.put hd 6 (.int .i64 7)).eq (by simp [headC])
  · split
    · exact (Blk.put (Blk.put hd 10 (.bool true)) 6 (.int .i64 7)).eq (by simp [headC])
    · exact (Blk.put hd 6 (.int .i64 2)).eq (by simp [headC])
theorem Mx.cmp (h : Mx w0 o p w) (hp : p k) (v : Int) (d : Nat) : Mx w0 o p (cmpW k old now v (w.drewN d)) := by
  unfold cmpW
  split
  · exact (h.drewN d).put hp 6 _
  · split
    · exact ((h.drewN d).put hp 10 _).put hp 6 _
    · exact (h.drewN d).put hp 6 _
theorem Kb.cmp (v : Int) (d : Nat) : Kb p k w (cmpW k old now v (w.drewN d)) := by
  unfold cmpW
  split
  · exact (Kb.drewN d).trans (Kb.put k 6 _)
  · split
    · exact ((Kb.drewN d).trans (Kb.put k 10 _)).trans (Kb.put k 6 _)
    · exact (Kb.drewN d).trans (Kb.put k 6 _)
theorem Blk_cmp {x : Nat} {cs : Array Value} (h : Blk w x t cs) (hx : x ≠ k) (v : Int) (d : Nat) : Blk (cmpW k old now v (w.drewN d)) x t cs := by
  have hd : Blk (w.drewN d) x t cs := h
  unfold cmpW
  split
  · exact Blk.far hd (p := ⟨k, 6, none⟩) hx _
  · split
    · exact Blk.far (Blk.far hd (p := ⟨k, 10, none⟩) hx _) (p := ⟨k, 6, none⟩) hx _
    · exact Blk.far hd (p := ⟨k, 6, none⟩) hx _
set_option maxRecDepth 100000 in
/-- a Cas's first step: an object with a version -/
theorem Cas_new_some (h : CaAt w k cam obj false nn h0 iv 0 old now n sw se er) (hm : Mx w0 o p w) (hp : p k) (ho : 0 ≤ obj) (y : Int) (hy : pk o obj = y) (hz : y ≠ 0) (hk : Ok (ld o obj)) :
    Calls Try.prog 21 #[.pointer (some ⟨k, 0, none⟩), vv o] w fun e w' => e = .returned (.bool false) ∧ ∃ i, CaAt w' k cam obj true false y (.pointer (some ⟨i, 0, none⟩)) 0 old now n sw se er ∧ InitAt w' i cam y 0 0 ∧ Mx w0 (ld o obj) (fun x => p x ∨ x = i) w' ∧ Kb p k w w' ∧ ¬ p i := by
  have c6 : w.cell? ⟨k, 6, none⟩ = some (.int .i64 0) := Blk.cell h 6
  have hC := find_first (rest := [.int .i64 0, .int .u64 old, .int .u64 now, .int .u64 n, .bool sw, se, .int .i64 er]) h hm hp ho y hy hk
  have hz2 : (y == 0) = false := by simpa using hz
  rw [hz2] at hC
  have HC := Lib.hid hC
  clear h hm hk hy hC
  go_enter Try.func21, Try.ntmps21
  go_wp2_with fail
  refine HC.out.mono ?_
  rintro e w2 ⟨rfl, i, hb, hi, hm2, hk2, hn⟩
  have H0 := Lib.hid (And.intro hb (And.intro hi (And.intro hm2 (And.intro hk2 hn))))
  clear hb hi hm2 hk2 hn HC
  go_wp2
  go_ret
  exact ⟨rfl, i, H0.out⟩
set_option maxRecDepth 100000 in
/-- a Cas's first step: an object without a version -/
theorem Cas_new_none (h : CaAt w k cam obj false nn h0 iv 0 old now n sw se er) (hm : Mx w0 o p w) (hp : p k) (ho : 0 ≤ obj) (hy : pk o obj = 0) (hk : Ok (ld o obj)) :
    Calls Try.prog 21 #[.pointer (some ⟨k, 0, none⟩), vv o] w fun e w' => e = .returned (.bool (cmpA old now 0 == 7)) ∧ ∃ iv', CaAt w' k cam obj true true 0 iv' (cmpA old now 0) old now n (cmpS old now 0 sw) se er ∧ Mx w0 (ld o obj) p w' ∧ Kb p k w w' := by
  have c6 : w.cell? ⟨k, 6, none⟩ = some (.int .i64 0) := Blk.cell h 6
  have HC := Lib.hid (find_first (rest := [.int .i64 0, .int .u64 old, .int .u64 now, .int .u64 n, .bool sw, se, .int .i64 er]) h hm hp ho 0 hy hk)
  clear h hm hk hy
  go_enter Try.func21, Try.ntmps21
  go_wp2_with fail
  refine HC.out.mono ?_
  rintro e w2 ⟨rfl, i, hb, hi, hm2, hk2, hn⟩
  have e6 : w2.cell? ⟨k, 6, none⟩ = some (.int .i64 0) := Blk.cell hb 6
  have g6 := Blk.cold hb 6
  have hb1 : CaAt (w2.setCell ⟨k, 6, none⟩ (.int .i64 1)) k cam obj true true 0 (.pointer (some ⟨i, 0, none⟩)) 1 old now n sw se er := (Blk.put hb 6 (.int .i64 1)).eq (by simp [headC])
  have hm1 := hm2.put (.inl hp) 6 (.int .i64 1)
  have hk1 : Kb p k w (w2.setCell ⟨k, 6, none⟩ (.int .i64 1)) := hk2.trans (Kb.put k 6 _)
  have e3 : w2.cell? ⟨k, 3, none⟩ = some (.bool true) := Blk.cell hb 3
  have e3' : (w2.setCell ⟨k, 6, none⟩ (.int .i64 1)).cell? ⟨k, 3, none⟩ = some (.bool true) := Blk.cell hb1 3
  have HC1 := Lib.hid (compare_any hb1 0)
  have HB1 := Lib.hid hb1
  have HM1 := Lib.hid hm1
  have HK1 := Lib.hid hk1
  clear hb hi hm2 hk2 hn hb1 hm1 hk1 HC
  go_wp2_with fail
  refine HC1.out.mono ?_
  rintro e w3 ⟨rfl, d, hw3⟩
  have hb2 := HB1.out.cmp 0 d
  have hm3 := (HM1.out.cmp (old := old) (now := now) (.inl hp) 0 d).weak (q := p) (fun x hx => .inl hx)
  have hk3 := HK1.out.trans (Kb.cmp (old := old) (now := now) 0 d)
  rw [← hw3] at hb2 hm3 hk3
  have e6' : w3.cell? ⟨k, 6, none⟩ = some (.int .i64 (cmpA old now 0)) := Blk.cell hb2 6
  have H1 := Lib.hid (And.intro hb2 (And.intro hm3 hk3))
  clear hw3 hb2 hm3 hk3 HB1 HM1 HK1 HC1 e6 g6 e3 e3'
  go_wp2
  go_ret
  exact ⟨rfl, _, H1.out⟩
set_option maxRecDepth 100000 in
/-- a Cas reads what is there -/
theorem Cas_load (h : CaAt w k cam obj bg false h0 iv 1 old now n sw se er) (hm : Mx w0 o p w) (hp : p k) (h00 : 0 ≤ h0) (y : Int) (hy : pk o h0 = y) (hk : Ok (ld o h0)) :
    Calls Try.prog 21 #[.pointer (some ⟨k, 0, none⟩), vv o] w fun e w' => e = .returned (.bool (cmpA old now y == 7)) ∧ CaAt w' k cam obj bg false h0 iv (cmpA old now y) old now n (cmpS old now y sw) se er ∧ Mx w0 (ld o h0) p w' ∧ Kb p k w w' := by
  have c6 : w.cell? ⟨k, 6, none⟩ = some (.int .i64 1) := Blk.cell h 6
  have c3 : w.cell? ⟨k, 3, none⟩ = some (.bool false) := Blk.cell h 3
  have c4 : w.cell? ⟨k, 4, none⟩ = some (.int .u64 h0) := Blk.cell h 4
  have HC := Lib.hid (hm.load h0 h00 hk)
  rw [hy] at HC
  have HB := Lib.hid h
  clear h hm hk hy
  go_enter Try.func21, Try.ntmps21
  go_wp2_with fail
  refine HC.out.mono ?_
  rintro e w2 ⟨rfl, hm2, hk2⟩
  have hb : CaAt w2 k cam obj bg false h0 iv 1 old now n sw se er := hk2.blk HB.out hp
  have HC1 := Lib.hid (compare_any hb y)
  have HB1 := Lib.hid hb
  have HM1 := Lib.hid hm2
  have HK1 : Hid (Kb p k w w2) := Kb.of hk2
  clear hb hm2 hk2 HC
  go_wp2_with fail
  refine HC1.out.mono ?_
  rintro e w3 ⟨rfl, d, hw3⟩
  have hb2 := HB1.out.cmp y d
  have hm3 := HM1.out.cmp (old := old) (now := now) hp y d
  have hk3 := HK1.out.trans (Kb.cmp (old := old) (now := now) y d)
  rw [← hw3] at hb2 hm3 hk3
  have e6' : w3.cell? ⟨k, 6, none⟩ = some (.int .i64 (cmpA old now y)) := Blk.cell hb2 6
  have H1 := Lib.hid (And.intro hb2 (And.intro hm3 hk3))
  clear hw3 hb2 hm3 hk3 HB1 HM1 HK1 HC1
  go_wp2
  go_ret
  exact ⟨rfl, H1.out⟩
def TkAt (w : World) (k : Nat) (at_ cell most t stamp e : Int) (mv : Bool) : Prop := Blk w k 186 #[.int .i64 at_, .int .u64 cell, .int .u64 most, .int .u64 t, .int .u64 stamp, .int .i64 e, .bool mv]
set_option maxRecDepth 100000 in
/-- an At that looks at a stamp -/
theorem At_look (h : PaAt w k cam obj bg nn h0 iv 5 st val) (hm : Mx w0 o p w) (hp : p k) (y : Int) (hy : pk o (wr64 (h0 + 1)) = y) (hk : Ok (ld o (wr64 (h0 + 1)))) :
    Calls Try.prog 22 #[.pointer (some ⟨k, 0, none⟩), vv o] w fun e w' => e = .returned (.bool false) ∧ PaAt w' k cam obj bg nn h0 iv (if st < y then 6 else 1) st val ∧ Mx w0 (ld o (wr64 (h0 + 1))) p w' ∧ Kb p k w w' := by
  have c6 : w.cell? ⟨k, 6, none⟩ = some (.int .i64 5) := Blk.cell h 6
  have f6 := Blk.cold h 6
  have hb1 : PaAt (w.setCell ⟨k, 6, none⟩ (.int .i64 1)) k cam obj bg nn h0 iv 1 st val := (Blk.put h 6 (.int .i64 1)).eq (by simp [headC])
  have hm1 := hm.put hp 6 (.int .i64 1)
  have hK1 : Kb p k w (w.setCell ⟨k, 6, none⟩ (.int .i64 1)) := Kb.put k 6 _
  clear h hm
  go_enter Try.func22, Try.ntmps22
  go_upto_region 11 with fail
  generalize w.setCell ⟨k, 6, none⟩ (.int .i64 1) = w1 at *
  have HC := Lib.hid (hm1.drew.load (wr64 (h0 + 1)) (wr64_pos _) hk)
  rw [hy] at HC
  have HB := Lib.hid hb1
  have HK := Lib.hid hK1
  have HS : Hid (∀ wx, Kp p w1.drew wx → (wx.cell? ⟨k, 4, none⟩ = some (.int .u64 h0) ∧ wx.cell? ⟨k, 7, none⟩ = some (.int .u64 st))) := fun wx hx => by
    have hb : PaAt wx k cam obj bg nn h0 iv 1 st val := hx.blk (show PaAt w1.drew k cam obj bg nn h0 iv 1 st val from HB.out) hp
    exact ⟨Blk.cell hb 4, Blk.cell hb 7⟩
  have k0 : Kp p w1.drew w1.drew := Kp.refl _ _
  clear hb1 hm1 hK1 hk hy
  go_region_held3 (fun wx => wx.cell? ⟨k, 4, none⟩ = some (.int .u64 h0) ∧ wx.cell? ⟨k, 7, none⟩ = some (.int .u64 st))
    (exact HS.out _ (by assumption))
    (first | ((with_reducible refine HC.out.mono ?_); rintro e w2 ⟨rfl, hm2, hk2⟩))
  all_goals
    have hb2 : PaAt w2 k cam obj bg nn h0 iv 1 st val := hk2.blk (show PaAt w1.drew k cam obj bg nn h0 iv 1 st val from HB.out) hp
    have hK2 : Kb p k w w2 := HK.out.trans ⟨hk2.1, fun x hx => hk2.2 x hx.1⟩
    have e6 : w2.cell? ⟨k, 6, none⟩ = some (.int .i64 1) := Blk.cell hb2 6
    have g6 := Blk.cold hb2 6
    have H1 := Lib.hid (And.intro hb2 (And.intro hm2 hK2))
    have H2 : Hid (PaAt (w2.setCell ⟨k, 6, none⟩ (.int .i64 6)) k cam obj bg nn h0 iv 6 st val ∧ Mx w0 (ld o (wr64 (h0 + 1))) p (w2.setCell ⟨k, 6, none⟩ (.int .i64 6)) ∧ Kb p k w (w2.setCell ⟨k, 6, none⟩ (.int .i64 6))) := ⟨(Blk.put hb2 6 (.int .i64 6)).eq (by simp [headC]), hm2.put hp 6 _, hK2.trans (Kb.put k 6 _)⟩
    clear hb2 hm2 hK2 HB HK HS HC hk2 k0
    by_cases hz : st < y
    · have hz1 : decide (st < y) = true := by simpa using hz
      have e1 : (if st < y then (6 : Int) else 1) = 6 := if_pos hz
      go_wp2
      go_ret
      first | exact ⟨rfl, H2.out⟩ | (refine ⟨rfl, ?_⟩; rw [e1]; exact H2.out)
    · have hz1 : decide (st < y) = false := by simpa using hz
      have e1 : (if st < y then (6 : Int) else 1) = 1 := if_neg hz
      go_wp2
      go_ret
      first | exact ⟨rfl, H1.out⟩ | (refine ⟨rfl, ?_⟩; rw [e1]; exact H1.out)
set_option maxRecDepth 100000 in
/-- an At that goes to the older version -/
theorem At_walk (h : PaAt w k cam obj bg nn h0 iv 6 st val) (hm : Mx w0 o p w) (hp : p k) (y : Int) (hy : pk o (wr64 (h0 + 2)) = y) (hk : Ok (ld o (wr64 (h0 + 2)))) :
    Calls Try.prog 22 #[.pointer (some ⟨k, 0, none⟩), vv o] w fun e w' => e = .returned (.bool (y == 0)) ∧ PaAt w' k cam obj bg nn y iv (if y = 0 then 7 else 5) st val ∧ Mx w0 (ld o (wr64 (h0 + 2))) p w' ∧ Kb p k w w' := by
  have c6 : w.cell? ⟨k, 6, none⟩ = some (.int .i64 6) := Blk.cell h 6
  have f6 := Blk.cold h 6
  have hb1 : PaAt (w.setCell ⟨k, 6, none⟩ (.int .i64 5)) k cam obj bg nn h0 iv 5 st val := (Blk.put h 6 (.int .i64 5)).eq (by simp [headC])
  have hm1 := hm.put hp 6 (.int .i64 5)
  have hK1 : Kb p k w (w.setCell ⟨k, 6, none⟩ (.int .i64 5)) := Kb.put k 6 _
  have HC := Lib.hid (hm1.load (wr64 (h0 + 2)) (wr64_pos _) hk)
  rw [hy] at HC
  have HB := Lib.hid hb1
  have HK := Lib.hid hK1
  have d4 : (w.setCell ⟨k, 6, none⟩ (.int .i64 5)).cell? ⟨k, 4, none⟩ = some (.int .u64 h0) := Blk.cell hb1 4
  clear h hm hb1 hm1 hK1 hk hy
  go_enter Try.func22, Try.ntmps22
  go_wp2_with fail
  refine HC.out.mono ?_
  rintro e w2 ⟨rfl, hm2, hk2⟩
  have hb2 : PaAt w2 k cam obj bg nn h0 iv 5 st val := hk2.blk HB.out hp
  have hK2 : Kb p k w w2 := HK.out.trans (Kb.of hk2)
  have e4 : w2.cell? ⟨k, 4, none⟩ = some (.int .u64 h0) := Blk.cell hb2 4
  have g4 := Blk.cold hb2 4
  have hb3 : PaAt (w2.setCell ⟨k, 4, none⟩ (.int .u64 y)) k cam obj bg nn y iv 5 st val := (Blk.put hb2 4 (.int .u64 y)).eq (by simp [headC])
  have h4 : (w2.setCell ⟨k, 4, none⟩ (.int .u64 y)).cell? ⟨k, 4, none⟩ = some (.int .u64 y) := Blk.cell hb3 4
  have h6 : (w2.setCell ⟨k, 4, none⟩ (.int .u64 y)).cell? ⟨k, 6, none⟩ = some (.int .i64 5) := Blk.cell hb3 6
  have g6 := Blk.cold hb3 6
  have hm3 := hm2.put hp 4 (.int .u64 y)
  have hK3 : Kb p k w (w2.setCell ⟨k, 4, none⟩ (.int .u64 y)) := hK2.trans (Kb.put k 4 _)
  have H1 := Lib.hid (And.intro hb3 (And.intro hm3 hK3))
  have H2 : Hid (PaAt ((w2.setCell ⟨k, 4, none⟩ (.int .u64 y)).setCell ⟨k, 6, none⟩ (.int .i64 7)) k cam obj bg nn y iv 7 st val ∧ Mx w0 (ld o (wr64 (h0 + 2))) p ((w2.setCell ⟨k, 4, none⟩ (.int .u64 y)).setCell ⟨k, 6, none⟩ (.int .i64 7)) ∧ Kb p k w ((w2.setCell ⟨k, 4, none⟩ (.int .u64 y)).setCell ⟨k, 6, none⟩ (.int .i64 7))) := ⟨(Blk.put hb3 6 (.int .i64 7)).eq (by simp [headC]), hm3.put hp 6 _, hK3.trans (Kb.put k 6 _)⟩
  clear hb2 hm2 hk2 hK2 hb3 hm3 hK3 HB HC HK d4 f6 c6
  go_upto_region 16 with fail
  generalize w2.setCell ⟨k, 4, none⟩ (.int .u64 y) = w3 at *
  by_cases hz : y = 0
  · subst hz
    go_wp2
    go_ret
    exact ⟨rfl, H2.out⟩
  · have hz2 : (y == 0) = false := by simpa using hz
    have e1 : (if y = 0 then (7 : Int) else 5) = 5 := if_neg hz
    go_wp2
    go_ret
    first | exact ⟨by simp [hz], H1.out⟩ | (refine ⟨by simp [hz], ?_⟩; rw [e1]; exact H1.out)
set_option maxRecDepth 100000 in
/-- a Take reads the camera -/
theorem Take_new {most t0 sp : Int} {mv : Bool} (h : TkAt w k 0 cam most t0 sp er mv) (hm : Mx w0 o p w) (hp : p k) (hc : 0 ≤ cam) (y : Int) (hy : pk o cam = y) (hk : Ok (ld o cam)) :
    Calls Try.prog 106 #[.pointer (some ⟨k, 0, none⟩), vv o] w fun e w' => e = .returned (.bool (!decide (y < most))) ∧ TkAt w' k (if y < most then 1 else 2) cam most y sp (if y < most then er else 31) mv ∧ Mx w0 (ld o cam) p w' ∧ Kb p k w w' := by
  have c0 : w.cell? ⟨k, 0, none⟩ = some (.int .i64 0) := Blk.cell h 0
  have c1 : w.cell? ⟨k, 1, none⟩ = some (.int .u64 cam) := Blk.cell h 1
  have HC := Lib.hid (hm.load cam hc hk)
  rw [hy] at HC
  have HB := Lib.hid h
  clear h hm hk hy
  go_enter Try.func106, Try.ntmps106
  go_wp2_with fail
  refine HC.out.mono ?_
  rintro e w2 ⟨rfl, hm2, hk2⟩
  have hb2 : TkAt w2 k 0 cam most t0 sp er mv := hk2.blk HB.out hp
  have e3 : w2.cell? ⟨k, 3, none⟩ = some (.int .u64 t0) := Blk.cell hb2 3
  have g3 := Blk.cold hb2 3
  have hb3 : TkAt (w2.setCell ⟨k, 3, none⟩ (.int .u64 y)) k 0 cam most y sp er mv := Blk.put hb2 3 (.int .u64 y)
  have hm3 := hm2.put hp 3 (.int .u64 y)
  have hk3 : Kb p k w (w2.setCell ⟨k, 3, none⟩ (.int .u64 y)) := (Kb.of hk2).trans (Kb.put k 3 _)
  clear hb2 hm2 hk2 HB HC c0 c1
  go_upto_region 6 with fail
  generalize w2.setCell ⟨k, 3, none⟩ (.int .u64 y) = w3 at *
  have d3 : w3.cell? ⟨k, 3, none⟩ = some (.int .u64 y) := Blk.cell hb3 3
  have d2 : w3.cell? ⟨k, 2, none⟩ = some (.int .u64 most) := Blk.cell hb3 2
  have HD := Lib.hid (fun n => hb3.drawn n)
  have HM := Lib.hid (fun n => hm3.drewN n)
  have HK := Lib.hid (fun n => hk3.trans (Kb.drewN (p := p) (k := k) n))
  clear hb3 hm3 hk3
  go_quiet (fail)
  all_goals
    have hb4 : TkAt (w3.drewN nq) k 0 cam most y sp er mv := HD.out nq
    have hm4 := HM.out nq
    have hk4 := HK.out nq
    clear HD HM HK d3 d2 e3 g3
    generalize w3.drewN nq = w4 at *
    have s0 : w4.cell? ⟨k, 0, none⟩ = some (.int .i64 0) := Blk.cell hb4 0
    have g0 := Blk.cold hb4 0
    have s5 : w4.cell? ⟨k, 5, none⟩ = some (.int .i64 er) := Blk.cell hb4 5
    have g5 := Blk.cold hb4 5
    have q5 : TkAt (w4.setCell ⟨k, 5, none⟩ (.int .i64 31)) k 0 cam most y sp 31 mv := Blk.put hb4 5 (.int .i64 31)
    have u0 : (w4.setCell ⟨k, 5, none⟩ (.int .i64 31)).cell? ⟨k, 0, none⟩ = some (.int .i64 0) := Blk.cell q5 0
    have v0 := Blk.cold q5 0
    have H1 : Hid (TkAt (w4.setCell ⟨k, 0, none⟩ (.int .i64 1)) k 1 cam most y sp er mv ∧ Mx w0 (ld o cam) p (w4.setCell ⟨k, 0, none⟩ (.int .i64 1)) ∧ Kb p k w (w4.setCell ⟨k, 0, none⟩ (.int .i64 1))) := ⟨Blk.put hb4 0 (.int .i64 1), hm4.put hp 0 _, hk4.trans (Kb.put k 0 _)⟩
    have H2 : Hid (TkAt ((w4.setCell ⟨k, 5, none⟩ (.int .i64 31)).setCell ⟨k, 0, none⟩ (.int .i64 2)) k 2 cam most y sp 31 mv ∧ Mx w0 (ld o cam) p ((w4.setCell ⟨k, 5, none⟩ (.int .i64 31)).setCell ⟨k, 0, none⟩ (.int .i64 2)) ∧ Kb p k w ((w4.setCell ⟨k, 5, none⟩ (.int .i64 31)).setCell ⟨k, 0, none⟩ (.int .i64 2))) := ⟨Blk.put q5 0 (.int .i64 2), (hm4.put hp 5 _).put hp 0 _, (hk4.trans (Kb.put k 5 _)).trans (Kb.put k 0 _)⟩
    clear hb4 hm4 hk4 q5
    by_cases hz : y < most
    · have hz1 : decide (y < most) = true := by simpa using hz
      have e1 : (if y < most then (1 : Int) else 2) = 1 := if_pos hz
      have e2 : (if y < most then er else (31 : Int)) = er := if_pos hz
      go_wp2
      go_ret
      first | exact ⟨by simp [hz], H1.out⟩ | (refine ⟨by simp [hz], ?_⟩; rw [e1, e2]; exact H1.out)
    · have hz1 : decide (y < most) = false := by simpa using hz
      have e1 : (if y < most then (1 : Int) else 2) = 2 := if_neg hz
      have e2 : (if y < most then er else (31 : Int)) = 31 := if_neg hz
      go_wp2
      go_ret
      first | exact ⟨by simp [hz], H2.out⟩ | (refine ⟨by simp [hz], ?_⟩; rw [e1, e2]; exact H2.out)
set_option maxRecDepth 100000 in
/-- a Take turns the camera, or finds it turned -/
theorem Take_loaded {most t0 sp : Int} {mv : Bool} (b : Bool) (h : TkAt w k 1 cam most t0 sp er mv) (hm : Mx w0 o p w) (hp : p k) (hc : 0 ≤ cam) (hx : ht o cam t0 = b) (hk : Ok (cz o cam t0 (wr64 (t0 + 1)))) :
    Calls Try.prog 106 #[.pointer (some ⟨k, 0, none⟩), vv o] w fun e w' => e = .returned (.bool true) ∧ TkAt w' k 2 cam most t0 t0 er b ∧ Mx w0 (cz o cam t0 (wr64 (t0 + 1))) p w' ∧ Kb p k w w' := by
  have c0 : w.cell? ⟨k, 0, none⟩ = some (.int .i64 1) := Blk.cell h 0
  have hC := hm.drew.cas cam t0 (wr64 (t0 + 1)) hc hk
  rw [hx] at hC
  have HC := Lib.hid hC
  have HS : Hid (∀ wx mv', TkAt wx k 1 cam most t0 sp er mv' → (wx.cell? ⟨k, 1, none⟩ = some (.int .u64 cam) ∧ wx.cell? ⟨k, 3, none⟩ = some (.int .u64 t0))) := fun wx mv' hh => ⟨Blk.cell hh 1, Blk.cell hh 3⟩
  have k0 : TkAt w.drew k 1 cam most t0 sp er mv := h
  clear h hm hC hk hx
  go_enter Try.func106, Try.ntmps106
  go_upto_region 12 with fail
  go_region_held3 (fun wx => wx.cell? ⟨k, 1, none⟩ = some (.int .u64 cam) ∧ wx.cell? ⟨k, 3, none⟩ = some (.int .u64 t0))
    (first | exact HS.out _ _ k0 | exact HS.out _ _ k4 | exact HS.out _ _ k5)
    (first | ((with_reducible refine HC.out.mono ?_); rintro e w4 ⟨rfl, hm4, hk4⟩; have k4 : TkAt w4 k 1 cam most t0 sp er mv := hk4.blk k0 hp; have n6 : w4.cell? ⟨k, 6, none⟩ = some (.bool mv) := Blk.cell k4 6; have m6 := Blk.cold k4 6; have k5 : TkAt (w4.setCell ⟨k, 6, none⟩ (.bool b)) k 1 cam most t0 sp er b := Blk.put k4 6 (.bool b); have HM5 := Lib.hid (hm4.put hp 6 (.bool b)); have HK5 : Hid (Kb p k w (w4.setCell ⟨k, 6, none⟩ (.bool b))) := Kb.trans (w1 := w4) ⟨hk4.1, fun x hx => hk4.2 x hx.1⟩ (Kb.put k 6 _); clear hm4 hk4))
  all_goals
    clear HC HS k0 k4 n6 m6
    generalize w4.setCell ⟨k, 6, none⟩ (.bool b) = w5 at *
    have d3 : w5.cell? ⟨k, 3, none⟩ = some (.int .u64 t0) := Blk.cell k5 3
    have d4 : w5.cell? ⟨k, 4, none⟩ = some (.int .u64 sp) := Blk.cell k5 4
    have g4 := Blk.cold k5 4
    have k6 : TkAt (w5.setCell ⟨k, 4, none⟩ (.int .u64 t0)) k 1 cam most t0 t0 er b := Blk.put k5 4 (.int .u64 t0)
    have d0 : (w5.setCell ⟨k, 4, none⟩ (.int .u64 t0)).cell? ⟨k, 0, none⟩ = some (.int .i64 1) := Blk.cell k6 0
    have g0 := Blk.cold k6 0
    have H1 : Hid (TkAt ((w5.setCell ⟨k, 4, none⟩ (.int .u64 t0)).setCell ⟨k, 0, none⟩ (.int .i64 2)) k 2 cam most t0 t0 er b ∧ Mx w0 (cz o cam t0 (wr64 (t0 + 1))) p ((w5.setCell ⟨k, 4, none⟩ (.int .u64 t0)).setCell ⟨k, 0, none⟩ (.int .i64 2)) ∧ Kb p k w ((w5.setCell ⟨k, 4, none⟩ (.int .u64 t0)).setCell ⟨k, 0, none⟩ (.int .i64 2))) := ⟨Blk.put k6 0 (.int .i64 2), (HM5.out.put hp 4 _).put hp 0 _, (HK5.out.trans (Kb.put k 4 _)).trans (Kb.put k 0 _)⟩
    clear k5 k6 HM5 HK5
    go_wp2
    go_ret
    exact ⟨rfl, H1.out⟩
set_option maxRecDepth 100000 in
/-- a Cas that was not done looks at what is there -/
theorem Cas_look (h : CaAt w k cam obj bg nn h0 iv 5 old now n sw se er) (hm : Mx w0 o p w) (hp : p k) (ho : 0 ≤ obj) (y : Int) (hy : pk o obj = y) (hk : Ok (ld o obj)) :
    Calls Try.prog 21 #[.pointer (some ⟨k, 0, none⟩), vv o] w fun e w' => e = .returned (.bool false) ∧ ∃ i, CaAt w' k cam obj bg nn h0 iv 4 old now n sw (.pointer (some ⟨i, 0, none⟩)) er ∧ InitAt w' i cam y 0 0 ∧ Mx w0 (ld o obj) (fun x => p x ∨ x = i) w' ∧ Kb p k w w' ∧ ¬ p i := by
  have c6 : w.cell? ⟨k, 6, none⟩ = some (.int .i64 5) := Blk.cell h 6
  have hC := hm.drew.load obj ho hk
  rw [hy] at hC
  have HC := Lib.hid hC
  have HS : Hid (∀ wx se', CaAt wx k cam obj bg nn h0 iv 5 old now n sw se' er → (wx.cell? ⟨k, 0, none⟩ = some (.int .u64 cam) ∧ wx.cell? ⟨k, 1, none⟩ = some (.int .u64 obj))) := fun wx n' hh => ⟨Blk.cell hh 0, Blk.cell hh 1⟩
  have k0 : CaAt w.drew k cam obj bg nn h0 iv 5 old now n sw se er := h
  clear h hm hC hk hy
  go_enter Try.func21, Try.ntmps21
  go_upto_region 29 with fail
  have HN : Hid (∀ w5, CaAt w5 k cam obj bg nn h0 iv 5 old now n sw se er → Mx w0 (ld o obj) p w5 → Kb p k w w5 → ∀ w6, w6 = w5.alloc (.cells #[.int .u64 cam, .int .u64 y, .int .i64 0, .int .u64 0] 127) → CaAt w6 k cam obj bg nn h0 iv 5 old now n sw se er ∧ Hid (CaAt (w6.setCell ⟨k, 11, none⟩ (.pointer (some ⟨w5.heap.size, 0, none⟩))) k cam obj bg nn h0 iv 5 old now n sw (.pointer (some ⟨w5.heap.size, 0, none⟩)) er ∧ InitAt (w6.setCell ⟨k, 11, none⟩ (.pointer (some ⟨w5.heap.size, 0, none⟩))) w5.heap.size cam y 0 0 ∧ Mx w0 (ld o obj) (fun x => p x ∨ x = w5.heap.size) (w6.setCell ⟨k, 11, none⟩ (.pointer (some ⟨w5.heap.size, 0, none⟩))) ∧ Kb p k w (w6.setCell ⟨k, 11, none⟩ (.pointer (some ⟨w5.heap.size, 0, none⟩))) ∧ ¬ p w5.heap.size)) := by
    rintro w5 k5 hm5 hk5 w6 rfl
    have hb4 : CaAt (w5.alloc (.cells #[.int .u64 cam, .int .u64 y, .int .i64 0, .int .u64 0] 127)) k cam obj bg nn h0 iv 5 old now n sw se er := Blk.alloc k5 _
    have hI : InitAt (w5.alloc (.cells #[.int .u64 cam, .int .u64 y, .int .i64 0, .int .u64 0] 127)) w5.heap.size cam y 0 0 := Blk.made _ _ _
    have hm4 := hm5.alloc (.cells #[.int .u64 cam, .int .u64 y, .int .i64 0, .int .u64 0] 127)
    have hpos := hm5.pos
    have hK4 : Kb p k w (w5.alloc (.cells #[.int .u64 cam, .int .u64 y, .int .i64 0, .int .u64 0] 127)) := hk5.trans (Kb.alloc (fun x hx => (hpos x hx).2) _)
    have hkl := (hpos k hp).2
    exact ⟨hb4, (Blk.put hb4 11 _).eq (by simp [headC]), Blk.far hI (p := ⟨k, 11, none⟩) (by show w5.heap.size ≠ k; omega) _, hm4.put (.inl hp) 11 _, hK4.trans (Kb.put k 11 _), fun e => by have := (hpos _ e).2; omega⟩
  go_region_held3 (fun wx => wx.cell? ⟨k, 0, none⟩ = some (.int .u64 cam) ∧ wx.cell? ⟨k, 1, none⟩ = some (.int .u64 obj))
    (first | exact HS.out _ _ k0 | exact HS.out _ _ k5 | exact HS.out _ _ k6 | exact HS.out _ _ k7)
    (first | ((with_reducible refine HC.out.mono ?_); rintro e w5 ⟨rfl, hm5, hk5⟩; have k5 : CaAt w5 k cam obj bg nn h0 iv 5 old now n sw se er := hk5.blk k0 hp; have hK5 : Kb p k w w5 := ⟨hk5.1, fun x hx => hk5.2 x hx.1⟩) | ((with_reducible refine (NewInit_any _ _ _).mono ?_); rintro e w6 ⟨rfl, hw6⟩; obtain ⟨k6, HN6⟩ := HN.out w5 k5 hm5 hK5 w6 hw6; have n11 : w6.cell? ⟨k, 11, none⟩ = some se := Blk.cell k6 11; have m11 := Blk.cold k6 11; have k7 := HN6.out.1; clear hw6))
  all_goals
    clear HN HS k0 k6 n11 m11 hm5 hk5 hK5 HC
    have d6 : (w6.setCell ⟨k, 11, none⟩ (.pointer (some ⟨w5.heap.size, 0, none⟩))).cell? ⟨k, 6, none⟩ = some (.int .i64 5) := Blk.cell k7 6
    have g6 := Blk.cold k7 6
    clear k5
    generalize w6.setCell ⟨k, 11, none⟩ (.pointer (some ⟨w5.heap.size, 0, none⟩)) = w7 at *
    obtain ⟨q1, q2, q3, q4, q5⟩ := HN6.out
    have hik : w5.heap.size ≠ k := fun e => q5 (e ▸ hp)
    have H1 : Hid (CaAt (w7.setCell ⟨k, 6, none⟩ (.int .i64 4)) k cam obj bg nn h0 iv 4 old now n sw (.pointer (some ⟨w5.heap.size, 0, none⟩)) er ∧ InitAt (w7.setCell ⟨k, 6, none⟩ (.int .i64 4)) w5.heap.size cam y 0 0 ∧ Mx w0 (ld o obj) (fun x => p x ∨ x = w5.heap.size) (w7.setCell ⟨k, 6, none⟩ (.int .i64 4)) ∧ Kb p k w (w7.setCell ⟨k, 6, none⟩ (.int .i64 4)) ∧ ¬ p w5.heap.size) :=
      ⟨(Blk.put q1 6 (.int .i64 4)).eq (by simp [headC]), Blk.far q2 (p := ⟨k, 6, none⟩) hik _, q3.put (.inl hp) 6 _, q4.trans (Kb.put k 6 _), q5⟩
    clear q1 q2 q3 q4 q5 HN6 k7
    go_wp2
    go_ret
    exact ⟨rfl, _, H1.out⟩
end
end Go.Proofs.Ytenlgfagfpaenaa

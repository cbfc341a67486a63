/-
  What must be whatever is asked of vcas: a Cas and a Read, alone. No condition.
-/
import Derived.Test.YtenlgfagfpaenaaVcD
namespace Go.Proofs.Ytenlgfagfpaenaa
open Go Go.RowKit
set_option linter.unusedSimpArgs false
set_option linter.unusedVariables false
/-- the memory of 'live', access by access -/
def B0 : Mem := (Mem.made 128).alloc (-1) [1, 0, 0, 0]
def B1 : Mem := B0.load 0 2
def B2 : Mem := B1.alloc 0 [5, 0, 0]
def B3 : Mem := B2.cas 0 2 0 5
def B4 : Mem := B3.load 0 6
def B5 : Mem := B4.load 0 1
def B6 : Mem := B5.cas 0 6 0 1
def B7 : Mem := B6.load 0 2
def B8 : Mem := B7.load 0 6
def B9 : Mem := B8.load 0 5
theorem B_facts : (Mem.made 128).spot [1, 0, 0, 0] = 1 ∧ B0.peek 2 = 0 ∧ B1.spot [5, 0, 0] = 5 ∧ B2.hit 2 0 = true ∧ B3.peek 6 = 0 ∧ B4.peek 1 = 1 ∧ B6.peek 2 = 5 ∧ B7.peek 6 = 1 ∧ B8.peek 5 = 5 := by decide +kernel
theorem fit_of (A : Mem) (h : decide (A.cells.length ≤ 4194304 ∧ A.trace.length ≤ 1000000000 ∧ A.next ≤ A.cells.length) = true) : A.Fit := by
  have h := of_decide_eq_true h
  exact ⟨h.1, h.2.1, h.2.2⟩
theorem fit0 : B0.Fit := fit_of _ (by decide +kernel)
theorem fit1 : B1.Fit := fit_of _ (by decide +kernel)
theorem fit2 : B2.Fit := fit_of _ (by decide +kernel)
theorem fit3 : B3.Fit := fit_of _ (by decide +kernel)
theorem fit4 : B4.Fit := fit_of _ (by decide +kernel)
theorem fit5 : B5.Fit := fit_of _ (by decide +kernel)
theorem fit6 : B6.Fit := fit_of _ (by decide +kernel)
theorem fit7 : B7.Fit := fit_of _ (by decide +kernel)
theorem fit8 : B8.Fit := fit_of _ (by decide +kernel)
theorem fit9 : B9.Fit := fit_of _ (by decide +kernel)
theorem fitM : (Mem.made 128).Fit := fit_of _ (by decide +kernel)
def Vo (bm v : Nat) (A : Mem) (m : Nat) : Option Vu := some ⟨bm, v, 0, A, m⟩
section
variable {w0 w w' w1 w2 : World} {p q : Nat → Prop} {k g i bm v : Nat}
set_option maxRecDepth 100000 in
theorem memory_128 (hb : Below w0.heap.size w0 w) : Calls Try.prog 31 #[.int .i64 128] w fun e w' => ∃ bm, e = .returned (.tuple #[.pointer (some ⟨bm, 0, none⟩), .int .u64 1]) ∧ ∃ F, Own w0 w' F bm B0 := by
  have HB := Lib.hid hb
  clear hb
  go_enter Try.func31, Try.ntmps31
  go_wp2_with fail
  refine (New_128 w).mono ?_
  rintro e w1 ⟨bm, rfl, hm, hb1⟩
  obtain ⟨F, hO, hF⟩ := Own.new w0 HB.out hm hb1
  have HO := Lib.hid hO
  clear hm hb1 hO hF
  go_wp2_with fail
  refine (View_any w1 bm (-1)).mono ?_
  rintro e w2 ⟨rfl, hw2⟩
  obtain ⟨hO2, hv2, hnF, hb2⟩ := HO.out.view (-1) hw2
  have hmx : Mx w0 (some ⟨bm, w1.heap.size, -1, Mem.made 128, 0⟩) (fun _ => False) w2 := ⟨F, hO2, hv2, hnF, HO.out.size, fun k e => e.elim, fitM, (show 0 ≤ 100000000 by decide)⟩
  have hm3 := hmx.alloc (.cells (us [1, 0, 0, 0]).toArray 23)
  have hC := hm3.allocV (vs := [1, 0, 0, 0]) (.inr rfl) (Blk.made w2 _ _) (by simp) 4 ⟨fit0, (show 1 ≤ 100000000 by decide)⟩
  rw [show Go.Proofs.Ytenlgfagfpaenaa.sp (some ⟨bm, w1.heap.size, -1, Mem.made 128, 0⟩) [1, 0, 0, 0] = 1 from B_facts.1] at hC
  have HC := Lib.hid hC
  clear hw2 hO2 hv2 hnF hb2 hmx hm3 hC
  go_wp2_with fail
  refine HC.out.mono ?_
  rintro e w4 ⟨rfl, hm4, -⟩
  obtain ⟨F4, hO4, _⟩ := hm4
  have HO4 := Lib.hid hO4
  clear hO4 HC
  go_wp2
  go_ret2
  exact ⟨bm, rfl, F4, HO4.out⟩
/-- the Cas of 'live', step by step -/
def IC (w0 : World) (bm v kc kr j : Nat) (w : World) : Prop :=
  RdAt w kr 1 2 false false 0 (.pointer none) 0 0 ∧
  match j with
  | 0 => CaAt w kc 1 2 false false 0 (.pointer none) 0 0 5 0 false (.pointer none) 0 ∧ Mx w0 (Vo bm v B0 0) (fun x => x = kc ∨ x = kr) w
  | 1 => ∃ iv, CaAt w kc 1 2 true true 0 iv 2 0 5 0 false (.pointer none) 0 ∧ Mx w0 (Vo bm v B1 1) (fun x => x = kc ∨ x = kr) w
  | 2 => ∃ iv, CaAt w kc 1 2 true true 0 iv 3 0 5 5 false (.pointer none) 0 ∧ Mx w0 (Vo bm v B2 2) (fun x => x = kc ∨ x = kr) w
  | 3 => ∃ iv i, CaAt w kc 1 2 true true 0 iv 4 0 5 5 true (.pointer (some ⟨i, 0, none⟩)) 0 ∧ InitAt w i 1 5 0 0 ∧ Mx w0 (Vo bm v B3 3) (fun x => (x = kc ∨ x = kr) ∨ x = i) w ∧ i ≠ kc ∧ i ≠ kr
  | 4 => ∃ iv i, CaAt w kc 1 2 true true 0 iv 4 0 5 5 true (.pointer (some ⟨i, 0, none⟩)) 0 ∧ InitAt w i 1 5 1 0 ∧ Mx w0 (Vo bm v B4 4) (fun x => (x = kc ∨ x = kr) ∨ x = i) w ∧ i ≠ kc ∧ i ≠ kr
  | 5 => ∃ iv i, CaAt w kc 1 2 true true 0 iv 4 0 5 5 true (.pointer (some ⟨i, 0, none⟩)) 0 ∧ InitAt w i 1 5 2 1 ∧ Mx w0 (Vo bm v B5 5) (fun x => (x = kc ∨ x = kr) ∨ x = i) w ∧ i ≠ kc ∧ i ≠ kr
  | _ => ∃ iv se, CaAt w kc 1 2 true true 0 iv 7 0 5 5 true se 0 ∧ Mx w0 (Vo bm v B6 6) (fun x => x = kc ∨ x = kr) w
theorem IC_step (kc kr : Nat) (hne : kc ≠ kr) : ∀ (j : Nat) (w : World), j < 6 → IC w0 bm v kc kr j w → Calls Try.prog 21 #[.pointer (some ⟨kc, 0, none⟩), .pointer (some ⟨v, 0, none⟩)] w fun e w' => e = .returned (.bool (decide (j + 1 = 6))) ∧ IC w0 bm v kc kr (j + 1) w' := by
  intro j w hj h
  obtain ⟨hr, h⟩ := h
  have keep : ∀ {q : Nat → Prop} {w' : World}, q kr → Kb q kc w w' → RdAt w' kr 1 2 false false 0 (.pointer none) 0 0 := fun hq hk => hk.blk hr hq (Ne.symm hne)
  match j, hj with
  | 0, _ =>
    obtain ⟨h1, h2⟩ := h
    refine (Cas_0 (o := Vo bm v B0 0) h1 h2 (.inl rfl) (by decide) (by decide) B_facts.2.1 ⟨fit1, (show 1 ≤ 100000000 by decide)⟩).mono ?_
    rintro e w' ⟨rfl, iv, a, b, c⟩
    exact ⟨rfl, keep (.inr rfl) c, iv, a, b⟩
  | 1, _ =>
    obtain ⟨iv, h1, h2⟩ := h
    refine (Cas_1 (o := Vo bm v B1 1) h1 h2 (.inl rfl) (x := 5) B_facts.2.2.1 ⟨fit2, (show 2 ≤ 100000000 by decide)⟩).mono ?_
    rintro e w' ⟨rfl, a, b, c⟩
    exact ⟨rfl, keep (.inr rfl) c, iv, a, b⟩
  | 2, _ =>
    obtain ⟨iv, h1, h2⟩ := h
    refine (Cas_2 (o := Vo bm v B2 2) h1 h2 (.inl rfl) (by decide) B_facts.2.2.2.1 ⟨fit3, (show 3 ≤ 100000000 by decide)⟩).mono ?_
    rintro e w' ⟨rfl, i, a, b, c, d, e⟩
    exact ⟨rfl, keep (.inr rfl) d, iv, i, a, b, c, fun h => e (.inl h), fun h => e (.inr h)⟩
  | 3, _ =>
    obtain ⟨iv, i, h1, h2, h3, h4, h5⟩ := h
    have hI := Init_0 (o := Vo bm v B3 3) h2 h3 (.inr rfl) 0 B_facts.2.2.2.2.1 ⟨fit4, (show 4 ≤ 100000000 by decide)⟩
    refine (Cas_3 (o := Vo bm v B3 3) h1 hI (fun w' hw => hw.2.2.blk h1 (.inl (.inl rfl)) (Ne.symm h4))).mono ?_
    rintro e w' ⟨rfl, w2, ⟨a, b, c⟩, rfl⟩
    exact ⟨rfl, c.blk hr (.inl (.inr rfl)) (Ne.symm h5), iv, i, c.blk h1 (.inl (.inl rfl)) (Ne.symm h4), a, b, h4, h5⟩
  | 4, _ =>
    obtain ⟨iv, i, h1, h2, h3, h4, h5⟩ := h
    have hI := Init_1 (o := Vo bm v B4 4) h2 h3 (.inr rfl) (by decide) 1 B_facts.2.2.2.2.2.1 ⟨fit5, (show 5 ≤ 100000000 by decide)⟩
    refine (Cas_3 (o := Vo bm v B4 4) h1 hI (fun w' hw => hw.2.2.blk h1 (.inl (.inl rfl)) (Ne.symm h4))).mono ?_
    rintro e w' ⟨rfl, w2, ⟨a, b, c⟩, rfl⟩
    exact ⟨rfl, c.blk hr (.inl (.inr rfl)) (Ne.symm h5), iv, i, c.blk h1 (.inl (.inl rfl)) (Ne.symm h4), a, b, h4, h5⟩
  | 5, _ =>
    obtain ⟨iv, i, h1, h2, h3, h4, h5⟩ := h
    have hI := Init_2 (o := Vo bm v B5 5) h2 h3 (.inr rfl) ⟨fit6, (show 6 ≤ 100000000 by decide)⟩
    refine (Cas_3 (o := Vo bm v B5 5) h1 hI (fun w' hw => hw.2.2.blk h1 (.inl (.inl rfl)) (Ne.symm h4))).mono ?_
    rintro e w' ⟨rfl, w2, ⟨a, b, c⟩, rfl⟩
    have h6 := c.blk h1 (.inl (.inl rfl)) (Ne.symm h4)
    have h7 := c.blk hr (.inl (.inr rfl)) (Ne.symm h5)
    exact ⟨rfl, Blk.far h7 (p := ⟨kc, 6, none⟩) (Ne.symm hne) _, iv, .pointer (some ⟨i, 0, none⟩), (Blk.put h6 6 (.int .i64 7)).eq (by simp [headC]), (b.put (.inl (.inl rfl)) 6 _).weak fun x hx => .inl hx⟩
  | j + 6, hj => omega
/-- the Read of 'live', step by step -/
def IR (w0 : World) (bm v kr j : Nat) (w : World) : Prop :=
  match j with
  | 0 => RdAt w kr 1 2 false false 0 (.pointer none) 0 0 ∧ Mx w0 (Vo bm v B6 6) (fun x => x = kr) w
  | 1 => ∃ i, RdAt w kr 1 2 true false 5 (.pointer (some ⟨i, 0, none⟩)) 0 0 ∧ InitAt w i 1 5 0 0 ∧ Mx w0 (Vo bm v B7 7) (fun x => x = kr ∨ x = i) w ∧ i ≠ kr
  | 2 => ∃ i, RdAt w kr 1 2 true false 5 (.pointer (some ⟨i, 0, none⟩)) 1 0 ∧ Mx w0 (Vo bm v B8 8) (fun x => x = kr) w
  | _ => ∃ iv, RdAt w kr 1 2 true false 5 iv 7 5 ∧ Mx w0 (Vo bm v B9 9) (fun x => x = kr) w
theorem IR_step (kr : Nat) : ∀ (j : Nat) (w : World), j < 3 → IR w0 bm v kr j w → Calls Try.prog 20 #[.pointer (some ⟨kr, 0, none⟩), .pointer (some ⟨v, 0, none⟩)] w fun e w' => e = .returned (.bool (decide (j + 1 = 3))) ∧ IR w0 bm v kr (j + 1) w' := by
  intro j w hj h
  match j, hj with
  | 0, _ =>
    obtain ⟨h1, h2⟩ := h
    refine (Read_0 (o := Vo bm v B6 6) h1 h2 rfl (by decide) 5 B_facts.2.2.2.2.2.2.1 ⟨fit7, (show 7 ≤ 100000000 by decide)⟩).mono ?_
    rintro e w' ⟨rfl, i, a, b, c, d, e⟩
    exact ⟨rfl, i, a, b, c, e⟩
  | 1, _ =>
    obtain ⟨i, h1, h2, h3, h4⟩ := h
    have hI := Init_0 (o := Vo bm v B7 7) h2 h3 (.inr rfl) 1 B_facts.2.2.2.2.2.2.2.1 ⟨fit8, (show 8 ≤ 100000000 by decide)⟩
    refine (Read_1 (at_ := 0) (o := Vo bm v B7 7) h1 hI (fun w' hw => hw.2.2.blk h1 (.inl rfl) (Ne.symm h4))).mono ?_
    rintro e w' ⟨rfl, w2, ⟨a, b, c⟩, rfl⟩
    have h6 := c.blk h1 (.inl rfl) (Ne.symm h4)
    exact ⟨rfl, i, (Blk.put h6 6 (.int .i64 1)).eq (by simp [headC]), (b.put (.inl rfl) 6 _).weak fun x hx => .inl hx⟩
  | 2, _ =>
    obtain ⟨i, h1, h2⟩ := h
    refine (Read_2 (o := Vo bm v B8 8) h1 h2 rfl (by decide) 5 B_facts.2.2.2.2.2.2.2.2 ⟨fit9, (show 9 ≤ 100000000 by decide)⟩).mono ?_
    rintro e w' ⟨rfl, a, b, c⟩
    exact ⟨rfl, _, a, b⟩
  | j + 3, hj => omega
set_option maxHeartbeats 1000000 in
set_option maxRecDepth 100000 in
theorem live9_any (w : World) : Calls Try.prog 16 #[] w fun e w' => e = .returned (.bool true) ∧ Below w.heap.size w w' := by
  go_enter Try.func16, Try.ntmps16
  go_wp2_with fail
  refine (memory_128 (Below.refl _ w)).mono ?_
  rintro e w1 ⟨bm, rfl, F, hO⟩
  have HO := Lib.hid hO
  clear hO
  go_wp2_with fail
  refine (NewCas_any w1 1 2 0 5).mono ?_
  rintro e w2 ⟨rfl, hw2⟩
  have HW2 := Lib.hid hw2
  clear hw2
  go_wp2_with fail
  refine (NewRead_any w2 1 2).mono ?_
  rintro e w3 ⟨rfl, hw3⟩
  have HW3 := Lib.hid hw3
  clear hw3
  go_wp2_with fail
  refine (View_any w3 bm 0).mono ?_
  rintro e w4 ⟨rfl, hw4⟩
  have hS : IC w bm w3.heap.size w1.heap.size w2.heap.size 0 w4 ∧ w1.heap.size ≠ w2.heap.size := by
    have hb2 : Below w1.heap.size w1 w2 := HW2.out ▸ (Below.refl _ w1).alloc (Nat.le_refl _) _
    have hb3 : Below w2.heap.size w2 w3 := HW3.out ▸ (Below.refl _ w2).alloc (Nat.le_refl _) _
    have hz2 : w2.heap.size = w1.heap.size + 1 := by rw [HW2.out]; simp
    have hz3 : w3.heap.size = w2.heap.size + 1 := by rw [HW3.out]; simp
    have c2 : CaAt w2 w1.heap.size 1 2 false false 0 (.pointer none) 0 0 5 0 false (.pointer none) 0 := HW2.out ▸ Blk.made w1 _ _
    have r3 : RdAt w3 w2.heap.size 1 2 false false 0 (.pointer none) 0 0 := HW3.out ▸ Blk.made w2 _ _
    have O2 := HO.out.bel hb2
    have O3 := O2.bel hb3
    obtain ⟨O4, v4, n4, b4⟩ := O3.view 0 hw4
    have n1 := HO.out.mine.not (Nat.le_refl _)
    have n2 := O2.mine.not (Nat.le_refl _)
    have hs := HO.out.size
    have hz4 := b4.size
    have v4l := Blk.lt v4
    have bl : ∀ {w w' : World} {k : Nat} {t : TypeId} {cs : Array Value}, Blk w k t cs → Below w.heap.size w w' → Blk w' k t cs := fun hb h => (h.block _ hb.lt).trans hb
    have c3 : CaAt w3 w1.heap.size 1 2 false false 0 (.pointer none) 0 0 5 0 false (.pointer none) 0 := bl c2 hb3
    refine ⟨⟨bl r3 b4, bl c3 b4, F, O4, v4, n4, (show w.heap.size ≤ w3.heap.size by omega), ?_, fit0, (show 0 ≤ 100000000 by decide)⟩, by omega⟩
    rintro x (rfl | rfl)
    · exact ⟨by omega, by show _ < w4.heap.size; omega, n1, by show _ ≠ w3.heap.size; omega⟩
    · exact ⟨by omega, by show _ < w4.heap.size; omega, n2, by show _ ≠ w3.heap.size; omega⟩
  have HC := Lib.hid (Alone_Cas (IC w bm w3.heap.size w1.heap.size w2.heap.size) 6 w1.heap.size (.pointer (some ⟨w3.heap.size, 0, none⟩)) (by decide) (by decide) hS.1 (IC_step _ _ hS.2))
  have HNE := Lib.hid hS.2
  clear hS hw4 HW2 HW3 HO
  generalize w1.heap.size = kc at *
  generalize w2.heap.size = kr at *
  generalize w3.heap.size = v at *
  go_wp2_with fail
  refine HC.out.mono ?_
  rintro e w5 ⟨rfl, hr5, iv, se, hc5, hm5⟩
  have HC5 := Lib.hid (Cas_Done hc5)
  have hm5' : Mx w (Vo bm v B6 6) (fun x => x = kr) w5 := hm5.weak fun x hx => .inr hx
  obtain ⟨F5, _, v5, _⟩ := hm5'
  have HA5 := Lib.hid (Accesses_any v5)
  have HI5 : Hid (IR w bm v kr 0 w5) := ⟨hr5, hm5.weak fun x hx => .inr hx⟩
  clear hr5 hc5 hm5 v5 HC
  go_wp2_with fail
  refine HC5.out.mono ?_
  rintro e w6 ⟨rfl, rfl⟩
  go_wp2_with fail
  refine HA5.out.mono ?_
  rintro e w6 ⟨rfl, rfl⟩
  have HC := Lib.hid (Alone_Read (IR w bm v kr) 3 kr (.pointer (some ⟨v, 0, none⟩)) (by decide) (by decide) HI5.out (IR_step _))
  clear HC5 HA5 HI5
  go_wp2_with fail
  refine HC.out.mono ?_
  rintro e w7 ⟨rfl, iv', hr7, hm7⟩
  have HV7 := Lib.hid (Read_Value hr7)
  have HB7 := Lib.hid hm7.bel
  obtain ⟨F7, _, v7, _⟩ := hm7
  have HA7 := Lib.hid (Accesses_any v7)
  clear hr7 v7 HC
  go_wp2_with fail
  refine HV7.out.mono ?_
  rintro e w8 ⟨rfl, rfl⟩
  go_wp2_with fail
  refine HA7.out.mono ?_
  rintro e w8 ⟨rfl, rfl⟩
  go_wp2
  go_ret
  exact ⟨rfl, HB7.out⟩
end
end Go.Proofs.Ytenlgfagfpaenaa

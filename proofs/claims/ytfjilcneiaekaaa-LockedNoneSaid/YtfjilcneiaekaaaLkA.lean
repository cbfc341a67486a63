/-
  A store of the config that the laws use is made. No condition.
-/
import Derived.Test.YtfjilcneiaekaaaArBase
import Derived.Test.YtfjilcneiaekaaaMu
namespace Go.Proofs.Ytfjilcneiaekaaa
open Go Go.RowKit
set_option linter.unusedSimpArgs false
set_option linter.unusedVariables false
/-- a memory of the call's own and its view, and blocks p beside them -/
def Sx (w0 : World) (bm v : Nat) (A : Mem) (n : Nat) (p : Nat → Prop) (w : World) : Prop := ∃ F, Own w0 w F bm A ∧ VW w v bm (-1) n ∧ ¬ F v ∧ w0.heap.size ≤ v ∧ ∀ k, p k → w0.heap.size ≤ k ∧ k < w.heap.size ∧ ¬ F k ∧ k ≠ v
def Kp (p : Nat → Prop) (w w' : World) : Prop := w.heap.size ≤ w'.heap.size ∧ ∀ k, p k → w'.heap[k]? = w.heap[k]?
theorem res_cell2 {P : Program} {fn : Func} {a t b : Nat} {tmps : Array Value} {w : World} {ad : Addr} {x u : Value} (hr : fn.results = #[.cell a t, .tmp b]) (ha : tmps.getD a undef = .pointer (some ad)) (hb : tmps.getD b undef = u) (hl : (loadVar t ad).run P w = .ok x w) :
    (results fn tmps).run P w = .ok (.tuple #[x, u]) w := by
  have e : tmps[a]?.getD undef = .pointer (some ad) := by simpa using ha
  have e2 : tmps[b]?.getD undef = u := by simpa using hb
  simp [results, hr, ha, hb, hl, asAddr, e, e2]
section
variable {w0 w w' w1 w2 : World} {bm v n k : Nat} {A : Mem} {p q : Nat → Prop} {t : TypeId} {cs : Array Value}
theorem Kp.put (h : Kp p w w') (hk : ¬ p k) (j : Nat) (u : Value) : Kp p w (w'.setCell ⟨k, j, none⟩ u) := by
  have hf : Fr (fun b => b = k) w' (w'.setCell ⟨k, j, none⟩ u) := (Fr.refl (fun b => b = k) w').put (p := ⟨k, j, none⟩) (.inl rfl) u
  refine ⟨Nat.le_trans h.1 hf.size, fun i hi => ?_⟩
  by_cases hl : i < w'.heap.size
  · exact (hf.block i hl (by rintro rfl; exact hk hi)).trans (h.2 i hi)
  · rw [← h.2 i hi]
    have e : (w'.setCell ⟨k, j, none⟩ u).heap.size = w'.heap.size := by simp
    rw [Array.getElem?_eq_none (by omega), Array.getElem?_eq_none (by omega)]
theorem Kp.blk (h : Kp p w w') (hb : Blk w k t cs) (hp : p k) : Blk w' k t cs := (h.2 k hp).trans hb
theorem Sx.bl (h : Sx w0 bm v A n p w) (hb : Below w.heap.size w w') : Sx w0 bm v A n p w' := by
  obtain ⟨F, a, b, c, d, e⟩ := h
  exact ⟨F, a.bel hb, b.fr (Fr.of_below (S := fun _ => False) hb) (fun e => e), c, d, fun k hk => ⟨(e k hk).1, Nat.lt_of_lt_of_le (e k hk).2.1 hb.size, (e k hk).2.2⟩⟩
theorem Sx.bel (h : Sx w0 bm v A n p w) : Below w0.heap.size w0 w := let ⟨_, h, _⟩ := h; h.below
theorem Sx.weak (h : Sx w0 bm v A n p w) (hq : ∀ k, q k → p k) : Sx w0 bm v A n q w := by
  obtain ⟨F, a, b, c, d, e⟩ := h
  exact ⟨F, a, b, c, d, fun k hk => e k (hq k hk)⟩
theorem Sx.alloc (h : Sx w0 bm v A n p w) (ob : Obj) : Sx w0 bm v A n (fun k => p k ∨ k = w.heap.size) (w.alloc ob) := by
  have hb : Below w.heap.size w (w.alloc ob) := (Below.refl _ w).alloc (Nat.le_refl _) _
  have hz : (w.alloc ob).heap.size = w.heap.size + 1 := by simp
  obtain ⟨F, a, b, c, d, e⟩ := h
  refine ⟨F, a.bel hb, b.fr (Fr.of_below (S := fun _ => False) hb) (fun h => h), c, d, ?_⟩
  rintro x (hx | rfl)
  · have := e x hx; exact ⟨this.1, by omega, this.2.2⟩
  · have := a.size
    exact ⟨this, by omega, a.mine.not (Nat.le_refl _), fun e => by have := Blk.lt b; omega⟩
theorem Sx.put (h : Sx w0 bm v A n p w) (hp : p k) (j : Nat) (u : Value) : Sx w0 bm v A n p (w.setCell ⟨k, j, none⟩ u) := by
  have hf : Fr (fun b => b = k) w (w.setCell ⟨k, j, none⟩ u) := (Fr.refl (fun b => b = k) w).put (p := ⟨k, j, none⟩) (.inl rfl) u
  obtain ⟨F, a, b, c, d, e⟩ := h
  obtain ⟨e1, e2, e3, e4⟩ := e k hp
  exact ⟨F, a.fr hf (fun x hx hxk => by subst hxk; exact e3 hx) (fun x hx hxk => by omega), b.fr hf (fun h => e4 h.symm), c, d, fun x hx => ⟨(e x hx).1, Nat.lt_of_lt_of_le (e x hx).2.1 hf.size, (e x hx).2.2⟩⟩
/-- an Alloc of a row that was just made -/
theorem Sx.al (h : Sx w0 bm v A n p w) (vs : List Int) (c s : Nat) (hs : w.heap.size = s) (hl : vs.length ≤ 1000000) (hf : A.Fit) (hn : n ≤ 1000) (y : Int) (hy : A.spot vs = y) :
    Calls Try.prog 62 #[.pointer (some ⟨v, 0, none⟩), .slice (some ⟨s, 0, none⟩) vs.length c] (w.alloc (.cells (us vs).toArray 23)) fun e w' => e = .returned (.int .u64 y) ∧ Sx w0 bm v (A.alloc (-1) vs) (n + 1) p w' ∧ Kp p w w' := by
  subst hs
  have hb : Below w.heap.size w (w.alloc (.cells (us vs).toArray 23)) := (Below.refl _ w).alloc (Nat.le_refl _) _
  have hB : Blk (w.alloc (.cells (us vs).toArray 23)) w.heap.size 23 (us vs).toArray := Blk.made w _ _
  obtain ⟨F, a, b, c', d, e⟩ := h
  have hva : VA (w.alloc (.cells (us vs).toArray 23)) (.slice (some ⟨w.heap.size, 0, none⟩) vs.length c) vs := ⟨_, _, rfl, .inr ⟨_, rfl, hB.lt, fun j u hu => by
    have e2 : (⟨w.heap.size, 0, none⟩ : Addr).add j = ⟨w.heap.size, j, none⟩ := by unfold Addr.add; split <;> simp_all
    rw [e2, hB.cell]; simpa using hu⟩⟩
  have a2 := a.bel hb
  have b2 := b.fr (Fr.of_below (S := fun _ => False) hb) (fun e => e)
  refine (Alloc_o a2 b2 c' d hva (fun _ ad m c2 e2 => by injection e2 with e2 _ _; injection e2 with e2; subst e2; exact a.mine.not (Nat.le_refl _)) (by omega) hf (by omega) (by omega)).mono ?_
  rintro e' w' ⟨rfl, F', a3, b3, c3, d3, f3⟩
  have hsz : w.heap.size ≤ (w.alloc (.cells (us vs).toArray 23)).heap.size := hb.size
  refine ⟨by rw [hy], ⟨F', a3, by simpa using b3, c3, d, fun k hk => ?_⟩, Nat.le_trans hsz f3.size, fun k hk => ?_⟩
  · obtain ⟨e1, e2, e3, e4⟩ := e k hk
    exact ⟨e1, by have := f3.size; omega, d3 k (by omega) e3, e4⟩
  · obtain ⟨e1, e2, e3, e4⟩ := e k hk
    exact (f3.block k (by omega) (by rintro (h | h); exact e3 h; exact e4 h)).trans (hb.block k e2)
def K0 : Mem := Mem.made 2000
def K1 : Mem := K0.alloc (-1) [1]
def K2 : Mem := K1.alloc (-1) (List.replicate 64 0)
theorem fit_of (A : Mem) (h : decide (A.cells.length ≤ 4194304 ∧ A.trace.length ≤ 1000000000 ∧ A.next ≤ A.cells.length) = true) : A.Fit := by
  have h := of_decide_eq_true h
  exact ⟨h.1, h.2.1, h.2.2⟩
theorem fitK0 : K0.Fit := fit_of _ (by decide +kernel)
theorem fitK1 : K1.Fit := fit_of _ (by decide +kernel)
theorem fitK2 : K2.Fit := fit_of _ (by decide +kernel)
theorem spots : K0.spot [1] = 1 ∧ K1.spot (List.replicate 64 0) = 2 ∧ K2.spot [0, 0] = 66 := by decide +kernel
set_option maxRecDepth 100000 in
theorem trieMake (h : Sx w0 bm v K0 n p w) (hn : n ≤ 100) : Calls Try.prog 49 #[.pointer (some ⟨v, 0, none⟩)] w fun e w' => e = .returned (.tuple #[.agg #[.int .u64 1, .int .u64 2], .int .i64 0]) ∧ Sx w0 bm v K2 (n + 2) p w' ∧ Kp p w w' := by
  have hmk := run_zeros 64 (by decide)
  have hmk2 : ∀ u : World, (Instr.makeSlice 26 (.int .i64 64) (.int .i64 64)).run Try.prog u = .ok (.slice (some ⟨u.heap.size, 0, none⟩) 64 64) (u.alloc (.cells (us (List.replicate 64 0)).toArray 23)) := by
    intro u; exact hmk u
  clear hmk
  have h0 := h
  have h1 := h.alloc (.cells #[.int .u64 0, .int .u64 0] 100)
  have hB1 : Blk (w.alloc (.cells #[.int .u64 0, .int .u64 0] 100)) w.heap.size 100 #[.int .u64 0, .int .u64 0] := Blk.made w _ _
  have hK1 : Kp p w (w.alloc (.cells #[.int .u64 0, .int .u64 0] 100)) := by
    have hb : Below w.heap.size w (w.alloc (.cells #[.int .u64 0, .int .u64 0] 100)) := (Below.refl _ w).alloc (Nat.le_refl _) _
    obtain ⟨_, _, _, _, _, e⟩ := h
    exact ⟨hb.size, fun k hk => hb.block k (e k hk).2.1⟩
  have HC1 : Hid (Calls Try.prog 62 #[.pointer (some ⟨v, 0, none⟩), .slice (some ⟨w.heap.size + 1, 0, none⟩) 1 1] ((w.alloc (.cells #[.int .u64 0, .int .u64 0] 100)).alloc (.cells #[.int .u64 1] 23)) fun e w' => e = .returned (.int .u64 1) ∧ Sx w0 bm v K1 (n + 1) (fun k => p k ∨ k = w.heap.size) w' ∧ Kp (fun k => p k ∨ k = w.heap.size) (w.alloc (.cells #[.int .u64 0, .int .u64 0] 100)) w') :=
    h1.al [1] 1 (w.heap.size + 1) (by simp) (by simp) fitK0 (by omega) 1 spots.1
  have HB1 := Lib.hid hB1
  have HK1 := Lib.hid hK1
  clear h h1 hB1 hK1
  generalize hL : (us (List.replicate 64 0)).toArray = zs at *
  have HN : Hid (∀ k, p k → k < w.heap.size) := Lib.hid (by obtain ⟨_, _, _, _, _, e⟩ := h0; exact fun k hk => (e k hk).2.1)
  clear h0
  have HL := Lib.hid hL
  clear hL
  go_enter Try.func49, Try.ntmps49
  go_wp2_with fail
  refine HC1.out.mono ?_
  rintro e w3 ⟨rfl, h3, k3⟩
  have hB3 := k3.blk HB1.out (.inr rfl)
  have HK3 : Hid (Kp p w w3) := ⟨Nat.le_trans HK1.out.1 k3.1, fun k hk => (k3.2 k (.inl hk)).trans (HK1.out.2 k hk)⟩
  have hC2 := h3.al (List.replicate 64 0) 64 w3.heap.size rfl (by simp) fitK1 (by omega) 2 spots.2.1
  rw [HL.out, List.length_replicate] at hC2
  have HC2 := Lib.hid hC2
  have HB3 := Lib.hid hB3
  clear h3 k3 hB3 hC2 HC1 HB1 HK1
  go_wp2_with fail
  refine HC2.out.mono ?_
  rintro e w4 ⟨rfl, h4, k4⟩
  have hB4 := k4.blk HB3.out (.inr rfl)
  generalize w.heap.size = rb at *
  have c0 := hB4.cell 0
  have c1 := hB4.cell 1
  have f0 := hB4.cold 0
  have f1 := hB4.cold 1
  have e0 : w4.cell? ⟨rb, 0, none⟩ = some (.int .u64 0) := c0
  have e1 : w4.cell? ⟨rb, 1, none⟩ = some (.int .u64 0) := c1
  have H4 := Lib.hid h4
  have HB4 := Lib.hid hB4
  have HK4 : Hid (Kp p w w4) := ⟨Nat.le_trans HK3.out.1 k4.1, fun k hk => (k4.2 k (.inl hk)).trans (HK3.out.2 k hk)⟩
  clear c0 c1 h4 k4 hB4 HC2 HB3 HK3
  go_wp2
  have p1 := Sx.put (Sx.put H4.out (.inr rfl) 0 (.int .u64 1)) (.inr rfl) 1 (.int .u64 2)
  refine ⟨rfl, .tuple #[.agg #[.int .u64 1, .int .u64 2], .int .i64 0], res_cell2 rfl rfl rfl ?_, rfl, p1.weak (fun _ h => .inl h), ?_⟩
  · have q := (HB4.out.put 0 (.int .u64 1)).put 1 (.int .u64 2)
    exact run_loadVar_row _ rb 100 100 _ (0, 0) _ q Try.underlying100 rfl (by decide +kernel)
  · exact (HK4.out.put (by intro h; have := HN.out rb h; omega) 0 _).put (by intro h; have := HN.out rb h; omega) 1 _
set_option maxRecDepth 100000 in
theorem annMake (h : Sx w0 bm v K2 n p w) (hn : n ≤ 100) : Calls Try.prog 50 #[.pointer (some ⟨v, 0, none⟩), .int .u64 1, .int .i64 2, .int .u64 100] w fun e w' => e = .returned (.tuple #[.agg #[.int .u64 1, .int .u64 66, .int .i64 2, .int .u64 100], .int .i64 0]) ∧ Sx w0 bm v (K2.alloc (-1) [0, 0]) (n + 1) p w' ∧ Kp p w w' := by
  have hmk := run_zeros 2 (by decide)
  have hmk2 : ∀ u : World, (Instr.makeSlice 26 (.int .i64 2) (.int .i64 2)).run Try.prog u = .ok (.slice (some ⟨u.heap.size, 0, none⟩) 2 2) (u.alloc (.cells (us (List.replicate 2 0)).toArray 23)) := by
    intro u; exact hmk u
  clear hmk
  have h0 := h
  have h1 := h.alloc (.cells #[.int .u64 0, .int .u64 0, .int .i64 0, .int .u64 0] 104)
  have hB1 : Blk (w.alloc (.cells #[.int .u64 0, .int .u64 0, .int .i64 0, .int .u64 0] 104)) w.heap.size 104 #[.int .u64 0, .int .u64 0, .int .i64 0, .int .u64 0] := Blk.made w _ _
  have hK1 : Kp p w (w.alloc (.cells #[.int .u64 0, .int .u64 0, .int .i64 0, .int .u64 0] 104)) := by
    have hb : Below w.heap.size w (w.alloc (.cells #[.int .u64 0, .int .u64 0, .int .i64 0, .int .u64 0] 104)) := (Below.refl _ w).alloc (Nat.le_refl _) _
    obtain ⟨_, _, _, _, _, e⟩ := h
    exact ⟨hb.size, fun k hk => hb.block k (e k hk).2.1⟩
  have HC1 : Hid (Calls Try.prog 62 #[.pointer (some ⟨v, 0, none⟩), .slice (some ⟨w.heap.size + 1, 0, none⟩) 2 2] ((w.alloc (.cells #[.int .u64 0, .int .u64 0, .int .i64 0, .int .u64 0] 104)).alloc (.cells #[.int .u64 0, .int .u64 0] 23)) fun e w' => e = .returned (.int .u64 66) ∧ Sx w0 bm v (K2.alloc (-1) [0, 0]) (n + 1) (fun k => p k ∨ k = w.heap.size) w' ∧ Kp (fun k => p k ∨ k = w.heap.size) (w.alloc (.cells #[.int .u64 0, .int .u64 0, .int .i64 0, .int .u64 0] 104)) w') :=
    h1.al [0, 0] 2 (w.heap.size + 1) (by simp) (by simp) fitK2 (by omega) 66 spots.2.2
  have HN : Hid (∀ k, p k → k < w.heap.size) := Lib.hid (by obtain ⟨_, _, _, _, _, e⟩ := h0; exact fun k hk => (e k hk).2.1)
  have HB1 := Lib.hid hB1
  have HK1 := Lib.hid hK1
  clear h h0 h1 hB1 hK1
  go_enter Try.func50, Try.ntmps50
  go_wp2_with fail
  refine HC1.out.mono ?_
  rintro e w4 ⟨rfl, h4, k4⟩
  have hB4 := k4.blk HB1.out (.inr rfl)
  generalize w.heap.size = rb at *
  have c0 := hB4.cell 0
  have c1 := hB4.cell 1
  have c2 := hB4.cell 2
  have c3 := hB4.cell 3
  have f0 := hB4.cold 0
  have f1 := hB4.cold 1
  have f2 := hB4.cold 2
  have f3 := hB4.cold 3
  have e0 : w4.cell? ⟨rb, 0, none⟩ = some (.int .u64 0) := c0
  have e1 : w4.cell? ⟨rb, 1, none⟩ = some (.int .u64 0) := c1
  have e2 : w4.cell? ⟨rb, 2, none⟩ = some (.int .i64 0) := c2
  have e3 : w4.cell? ⟨rb, 3, none⟩ = some (.int .u64 0) := c3
  have H4 := Lib.hid h4
  have HB4 := Lib.hid hB4
  have HK4 : Hid (Kp p w w4) := ⟨Nat.le_trans HK1.out.1 k4.1, fun k hk => (k4.2 k (.inl hk)).trans (HK1.out.2 k hk)⟩
  clear c0 c1 c2 c3 h4 k4 hB4 HC1 HB1 HK1
  go_wp2
  have p1 := Sx.put (Sx.put (Sx.put (Sx.put H4.out (.inr rfl) 0 (.int .u64 1)) (.inr rfl) 1 (.int .u64 66)) (.inr rfl) 2 (.int .i64 2)) (.inr rfl) 3 (.int .u64 100)
  refine ⟨rfl, .tuple #[.agg #[.int .u64 1, .int .u64 66, .int .i64 2, .int .u64 100], .int .i64 0], res_cell2 rfl rfl rfl ?_, rfl, p1.weak (fun _ h => .inl h), ?_⟩
  · have q := (((HB4.out.put 0 (.int .u64 1)).put 1 (.int .u64 66)).put 2 (.int .i64 2)).put 3 (.int .u64 100)
    exact run_loadVar_row _ rb 104 104 _ (0, 0) _ q Try.underlying104 rfl (by decide +kernel)
  · have hnp : ¬ p rb := by intro h; have := HN.out rb h; omega
    exact ((((HK4.out.put hnp 0 _).put hnp 1 _).put hnp 2 _).put hnp 3 _)
end
end Go.Proofs.Ytfjilcneiaekaaa

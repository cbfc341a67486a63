/-
  The laws' memory; what is known of a run from its start to its end; what versions tell. No condition.
-/
import Derived.Test.YtenlgfagfpaenaaVrG
import Derived.Test.YtenlgfagfpaenaaVrVers
import Derived.Test.YtenlgfagfpaenaaVrQ
namespace Go.Proofs.Ytenlgfagfpaenaa
open Go Go.RowKit
set_option linter.unusedSimpArgs false
set_option linter.unusedVariables false
def A0 : Mem := (Mem.made 16384).alloc (-1) [1, 0, 0, 0]
theorem made_sane : (Mem.made 16384).Sane := by
  refine ⟨fun c hc => ?_, ?_, ?_⟩
  · have : c = 0 := List.eq_of_mem_replicate hc
    omega
  · show 1 ≤ (List.replicate 16384 (0 : Int)).length; rw [List.length_replicate]; omega
  · show (List.replicate 16384 (0 : Int)).length ≤ _; rw [List.length_replicate]; omega
theorem A0_fits : (Mem.made 16384).fits [1, 0, 0, 0] = true := by
  unfold Mem.fits
  have : (Mem.made 16384).cells.length = 16384 := List.length_replicate
  rw [decide_eq_true_iff, this]
  exact ⟨by simp, by show 1 + 4 ≤ 16384; decide⟩
theorem A0_spot : (Mem.made 16384).spot [1, 0, 0, 0] = 1 := by unfold Mem.spot; rw [if_pos A0_fits]; rfl
theorem alloc_cells (A : Mem) (t : Int) (vs : List Int) (h : A.fits vs = true) : (A.alloc t vs).cells = A.cells.take A.next ++ (vs ++ A.cells.drop (A.next + vs.length)) ∧ (A.alloc t vs).next = A.next + vs.length := by
  have e : (A.alloc t vs).cells = (if A.fits vs then A.laid vs else A).cells := rfl
  have e2 : (A.alloc t vs).next = (if A.fits vs then A.laid vs else A).next := rfl
  rw [if_pos h] at e e2
  exact ⟨e, e2⟩
theorem made_cells (n : Nat) : (Mem.made n).cells = List.replicate n 0 ∧ (Mem.made n).next = 1 := ⟨rfl, rfl⟩
theorem A0_cells : A0.cells = (List.replicate 16384 (0 : Int)).take 1 ++ ([1, 0, 0, 0] ++ (List.replicate 16384 (0 : Int)).drop 5) := by
  unfold A0
  rw [(alloc_cells _ _ _ A0_fits).1, (made_cells 16384).1, (made_cells 16384).2]
  congr 1
theorem A0_next : A0.next = 5 := by
  unfold A0
  rw [(alloc_cells _ _ _ A0_fits).2, (made_cells 16384).2]
  rfl
theorem A0_len : A0.cells.length = 16384 := by
  rw [A0_cells]
  simp only [List.length_append, List.length_take, List.length_drop, List.length_replicate, List.length_cons, List.length_nil]
  omega
theorem A0_sane : A0.Sane := made_sane.alloc _ (by intro v hv; simp at hv; rcases hv with rfl | rfl | rfl | rfl <;> decide)
theorem A0_trace : A0.trace.length = 1 := tr_alloc _
theorem A0_peek {o : Int} (ho : Ob o) : A0.peek o = 0 := by
  unfold Mem.peek
  rw [A0_cells, List.getD_eq_getElem?_getD]
  have h1 : ((List.replicate 16384 (0 : Int)).take 1).length = 1 := by rw [List.length_take, List.length_replicate]; rfl
  rw [List.getElem?_append_right (by rw [h1]; rcases ho with rfl | rfl | rfl <;> decide), h1, List.getElem?_append_left (by rcases ho with rfl | rfl | rfl <;> decide)]
  rcases ho with rfl | rfl | rfl <;> rfl
theorem fit_A0 : A0.Fit := ⟨by rw [A0_len]; decide, by rw [A0_trace]; decide, by rw [A0_next, A0_len]; decide⟩
theorem fit_made : (Mem.made 16384).Fit := made_sane.fit (by show 0 ≤ _; decide)
section
variable {W w0 w w' : World} {F : Nat → Prop} {bm k : Nat} {A : Mem} {L : Int → List Int} {cls : List (List Cl)} {pl : List (List PC)} {s : Sv} {x : Int}
set_option maxRecDepth 100000 in
theorem memory_big (hb : Below w0.heap.size w0 w) : Calls Try.prog 31 #[.int .i64 16384] w fun e w' => ∃ bm, e = .returned (.tuple #[.pointer (some ⟨bm, 0, none⟩), .int .u64 1]) ∧ (∃ F, Own w0 w' F bm A0 ∧ ∀ b, F b → w.heap.size ≤ b) ∧ Below w.heap.size w w' := by
  have hN := New_plain w 16384 (by decide) (by decide)
  have HN := Lib.hid hN
  have HB := Lib.hid hb
  clear hb hN
  go_enter Try.func31, Try.ntmps31
  go_wp2_with fail
  refine HN.out.mono ?_
  rintro e w1 ⟨bm, rfl, hm, hb1⟩
  obtain ⟨F, hO, hF⟩ := Own.new w (Below.refl _ _) hm hb1
  have HO := Lib.hid hO
  clear hm hb1 hO hF
  go_wp2_with fail
  refine (View_any w1 bm (-1)).mono ?_
  rintro e w2 ⟨rfl, hw2⟩
  obtain ⟨hO2, hv2, hnF, hb2⟩ := HO.out.view (-1) hw2
  have hmx : Mx w (some ⟨bm, w1.heap.size, -1, Mem.made 16384, 0⟩) (fun _ => False) w2 := ⟨F, hO2, hv2, hnF, HO.out.size, fun k e => e.elim, fit_made, (show 0 ≤ 100000000 by decide)⟩
  have hm3 := hmx.alloc (.cells (us [1, 0, 0, 0]).toArray 23)
  have hC := hm3.allocV (vs := [1, 0, 0, 0]) (.inr rfl) (Blk.made w2 _ _) (by simp) 4 ⟨fit_A0, (show 1 ≤ 100000000 by decide)⟩
  rw [show Go.Proofs.Ytenlgfagfpaenaa.sp (some ⟨bm, w1.heap.size, -1, Mem.made 16384, 0⟩) [1, 0, 0, 0] = 1 from A0_spot] at hC
  have HC := Lib.hid hC
  clear hw2 hO2 hv2 hnF hb2 hmx hm3 hC
  go_wp2_with fail
  refine HC.out.mono ?_
  rintro e w4 ⟨rfl, hm4, -⟩
  obtain ⟨F4, hO4, _⟩ := hm4
  have HO4 := Lib.hid hO4
  clear hO4 HC
  go_wp2
  go_ret2
  have h4 : Own w w4 F4 bm A0 := HO4.out
  exact ⟨bm, rfl, ⟨F4, ⟨⟨h4.mine.1, fun b hb => ⟨Nat.le_trans HB.out.size (h4.mine.2 b hb).1, (h4.mine.2 b hb).2⟩⟩, HB.out.trans (h4.below.mono HB.out.size)⟩, fun b hb => (h4.mine.2 b hb).1⟩, h4.below⟩
theorem Gv.zero (pl : List (List PC)) (cls : List (List Cl)) : Gv cls (Sv.zero A0 pl) (fun _ => []) := by
  have hnew : ∀ t j st, at2 ((Sv.zero A0 pl).th.map (·.ss)) t j = some st → st = .new := by
    intro t j st h2
    unfold at2 Sv.zero at h2
    simp only [List.getElem?_map] at h2
    cases hpl : pl[t]? with
    | none => rw [hpl] at h2; cases h2
    | some row =>
      rw [hpl] at h2
      simp only [Option.map_some, List.getElem?_map] at h2
      cases hr : row[j]? with
      | none => rw [hr] at h2; cases h2
      | some z => rw [hr] at h2; injection h2 with h2; exact h2.symm
  refine ⟨⟨A0_sane, A0_len, ⟨by show 5 ≤ A0.next; rw [A0_next]; exact Nat.le_refl _, by show ((A0.next : Int) - 5) % 3 = 0; rw [A0_next]; rfl⟩, fun o ho => A0_peek ho, fun o ho n hn => (by cases hn), fun o ho i n hi => (by simp at hi), fun o ho => List.Pairwise.nil, fun o ho n hn => (by cases hn)⟩, fun t j c st _ h => ?_, fun t j t' j' h n h' q1 q2 => ?_⟩
  · rw [hnew t j st h]; trivial
  · exact absurd (hnew _ _ _ q1) (by intro e; cases e)
theorem Gv.many (hc : ∀ l ∈ cls, ∀ c ∈ l, ClOK c ∧ Ob c.obj) : ∀ (l : List Int) {s : Sv} {n : Nat} {L : Int → List Int}, Gv cls s L → s.Ok cls n → ∃ L', Gv cls (s.many 1 cls l) L'
  | [], s, n, L, h, _ => ⟨L, h⟩
  | x :: l, s, n, L, h, ok => by
    obtain ⟨L1, h1⟩ := h.one ok hc x
    exact Gv.many hc l h1 (ok.one (cam := 1) (fun l hl c hcx => (hc l hl c hcx).1) x)
theorem vat_L (h : Inv A L) {o : Int} (ho : Ob o) : ∀ i, i ≤ (L o).length → vat A o i = ((L o)[i]?).getD 0
  | 0, _ => by
    show A.peek o = _
    rw [h.hd o ho]
    cases L o <;> rfl
  | i + 1, hi => by
    show A.peek (vat A o i + 2) = _
    rw [vat_L h ho i (by omega)]
    obtain ⟨n, hn⟩ : ∃ n, (L o)[i]? = some n := ⟨_, List.getElem?_eq_getElem (by omega)⟩
    rw [hn]
    exact h.ch o ho i n hn
theorem desc_len : ∀ (l : List Int) (B : Nat), l.Pairwise (· > ·) → (∀ x ∈ l, 0 ≤ x ∧ x < B) → l.length ≤ B
  | [], _, _, _ => Nat.zero_le _
  | x :: l, B, hp, hb => by
    obtain ⟨h1, h2⟩ := List.pairwise_cons.1 hp
    obtain ⟨a, b⟩ := hb x List.mem_cons_self
    have := desc_len l x.toNat h2 (fun y hy => ⟨(hb y (List.mem_cons_of_mem _ hy)).1, by have h3 : x > y := h1 y hy; omega⟩)
    simp only [List.length_cons]
    omega
theorem Vend_L (h : Inv A L) {o : Int} (ho : Ob o) : Vend A o (L o).length := by
  have hl : (L o).length ≤ 16384 := desc_len _ _ (h.lt o ho) fun n hn => by have := (h.al o ho n hn).lt h; omega
  refine ⟨hl, fun j hj => ?_, .inl fun hv => ?_⟩
  · rw [vat_L h ho j (by omega)]
    obtain ⟨n, hn⟩ : ∃ n, (L o)[j]? = some n := ⟨_, List.getElem?_eq_getElem hj⟩
    rw [hn]
    have := (h.al o ho n (List.mem_of_getElem? hn)).lt h
    exact ⟨by show n ≠ 0; omega, by show n + 2 < 16384; omega⟩
  · rw [vat_L h ho _ (Nat.le_refl _), List.getElem?_eq_none (Nat.le_refl _)] at hv
    exact hv.1 rfl
theorem verC_at (A : Mem) (o : Int) : ∀ (k j : Nat), j < k → (verC A o k)[j * 2]? = some (.int .u64 (A.peek (vat A o j))) ∧ (verC A o k)[j * 2 + 1]? = some (.int .u64 (A.peek (vat A o j + 1)))
  | 0, j, h => by omega
  | k + 1, j, h => by
    have hl := verC_len A o k
    by_cases hj : j < k
    · obtain ⟨a, b⟩ := verC_at A o k j hj
      exact ⟨by show (verC A o k ++ _)[j * 2]? = _; rw [List.getElem?_append_left (by omega)]; exact a, by show (verC A o k ++ _)[j * 2 + 1]? = _; rw [List.getElem?_append_left (by omega)]; exact b⟩
    · obtain rfl : j = k := by omega
      exact ⟨by show (verC A o j ++ _)[j * 2]? = _; rw [List.getElem?_append_right (by omega), hl, Nat.sub_self]; rfl, by show (verC A o j ++ _)[j * 2 + 1]? = _; rw [List.getElem?_append_right (by omega), hl, show j * 2 + 1 - j * 2 = 1 by omega]; rfl⟩
/-- what an object's versions tell -/
def valsOf (A : Mem) (l : List Int) : List Int := l.map A.peek
theorem Versions_L (hO : Own W w F bm A) (hf : A.Fit) (h : Inv A L) {o : Int} (ho : Ob o) :
    Calls Try.prog 15 #[.pointer (some ⟨bm, 0, none⟩), .int .u64 o] w fun e w' => ∃ p c, e = .returned (.slice p (L o).length c) ∧ (∀ j n, (L o)[j]? = some n → ∃ g, p = some ⟨g, 0, none⟩ ∧ w'.cell? ⟨g, j * 2, none⟩ = some (.int .u64 (A.peek n)) ∧ w'.cell? ⟨g, j * 2 + 1, none⟩ = some (.int .u64 (A.peek (n + 1)))) ∧ Below w.heap.size w w' := by
  refine (Versions_any hO hf h.len h.sane.pos (by rcases ho with rfl | rfl | rfl <;> decide)).mono ?_
  · rintro e w' ⟨k, v, rfl, hv, hown, hb⟩
    obtain rfl := hv.eq (Vend_L h ho)
    obtain ⟨p, c, rfl, _, hc⟩ := own_at hown
    refine ⟨p, c, rfl, fun j n hj => ?_, hb⟩
    have hjl := (List.getElem?_eq_some_iff.1 hj).1
    obtain ⟨a, b⟩ := verC_at A o _ j hjl
    rw [vat_L h ho j (by omega), hj] at a b
    obtain ⟨g, e1, _, c1⟩ := hc _ _ a
    obtain ⟨g2, e2, _, c2⟩ := hc _ _ b
    subst e1
    injection e2 with e2
    injection e2 with e2
    subst e2
    exact ⟨g, rfl, c1, c2⟩
end
end Go.Proofs.Ytenlgfagfpaenaa

/-
  VcasVersions: any cells, and any address as an object. No condition.
-/
import Derived.Test.YtenlgfagfpaenaaVcV
namespace Go.Proofs.Ytenlgfagfpaenaa
open Go Go.RowKit
set_option linter.unusedSimpArgs false
set_option linter.unusedVariables false
/-- the cells, stored one by one -/
def AV (cs : List Int) : Nat → Mem
  | 0 => Mem.made 256
  | i + 1 => (AV cs i).store 0 i (cs.getD i 0)
theorem AV_facts (cs : List Int) (hc : ∀ c ∈ cs, 0 ≤ c) : ∀ i, (AV cs i).cells.length = 256 ∧ (AV cs i).trace.length = i ∧ (AV cs i).next = 1 ∧ (AV cs i).Pos
  | 0 => ⟨(show (List.replicate 256 (0 : Int)).length = 256 from List.length_replicate), rfl, rfl, fun c h => by have h : c ∈ List.replicate 256 (0 : Int) := h; rw [List.mem_replicate] at h; omega⟩
  | i + 1 => by
    obtain ⟨a, b, c, d⟩ := AV_facts cs hc i
    refine ⟨by simp [AV, Mem.store, Mem.note, Mem.put, a], by simp [AV, Mem.store, Mem.note, Mem.put, b], by simp [AV, Mem.store, Mem.note, Mem.put, c], fun y hy => ?_⟩
    have hy : y ∈ ((AV cs i).cells.set ((i : Int)).toNat (cs.getD i 0)) := hy
    rcases List.mem_or_eq_of_mem_set hy with h | h
    · exact d y h
    · subst h
      rw [List.getD_eq_getElem?_getD]
      cases he : cs[i]? with
      | none => exact Int.le_refl _
      | some z => exact hc z (List.mem_of_getElem? he)
theorem AV_fit (cs : List Int) (hc : ∀ c ∈ cs, 0 ≤ c) (i : Nat) (hi : i ≤ 1000) : (AV cs i).Fit := by
  obtain ⟨a, b, c, _⟩ := AV_facts cs hc i
  exact ⟨by omega, by omega, by omega⟩
section
variable {w0 w w' w1 w2 : World} {F G : Nat → Prop} {bm rm v k i : Nat} {A : Mem} {x : Int} {cs : List Int} {p : Option Addr} {c : Nat}
theorem RM.tight (h : RM w F rm false A) : RM w (fun b => F b ∧ b < w.heap.size) rm false A := by
  obtain ⟨r, tv, rows, h⟩ := h
  refine ⟨r, tv, rows, h.bM, h.bR, h.own, h.fst, fun x hx => ?_, ⟨h.fM, h.bM.lt⟩, ⟨h.fR, h.bR.lt⟩, fun g e => ⟨h.fT g e, own_lt h.own e⟩⟩
  rcases h.vals x hx with h0 | ⟨h0, h1⟩
  · exact .inl h0
  · exact .inr ⟨h0, fun g e => ⟨⟨(h1 g e).1, own_lt h0 e⟩, (h1 g e).2⟩⟩
/-- both memories, side by side -/
def SV (w0 : World) (bm v rm : Nat) (A : Mem) (made : Nat) (w : World) : Prop := ∃ F G, Own w0 w F bm A ∧ VW w v bm 0 made ∧ ¬ F v ∧ w0.heap.size ≤ v ∧ RM w G rm false A ∧ ∀ k, G k → w0.heap.size ≤ k ∧ k < w.heap.size ∧ ¬ F k ∧ k ≠ v
/-- the program's has stored -/
def SH (w0 : World) (bm v rm : Nat) (A A' : Mem) (made : Nat) (w : World) : Prop := ∃ F G, Own w0 w F bm A' ∧ VW w v bm 0 made ∧ ¬ F v ∧ w0.heap.size ≤ v ∧ RM w G rm false A ∧ ∀ k, G k → w0.heap.size ≤ k ∧ k < w.heap.size ∧ ¬ F k ∧ k ≠ v
theorem SV.storeP (h : SV w0 bm v rm A i w) (ht : A.Fit) (hi : i ≤ 1000) (y u : Int) (hy : 0 ≤ y) : Calls Try.prog 13 #[.pointer (some ⟨v, 0, none⟩), .int .u64 y, .int .u64 u] w fun e w' => e = .returned (.tuple #[]) ∧ SH w0 bm v rm A (A.store 0 y u) (i + 1) w' := by
  obtain ⟨F, G, a, b, c, d, e, f⟩ := h
  refine (Store_o a b c d y u hy ht (by omega) (by omega)).mono ?_
  rintro e1 w' ⟨rfl, F', a', b', c', d', f'⟩
  refine ⟨rfl, F', G, a', by simpa using b', c', d, e.fr f' (fun k hk hs => ?_), fun k hk => ?_⟩
  · rcases hs with hs | hs
    · exact (f k hk).2.2.1 hs
    · exact (f k hk).2.2.2 hs
  · obtain ⟨f1, f2, f3, f4⟩ := f k hk
    exact ⟨f1, Nat.lt_of_lt_of_le f2 f'.size, d' k f2 f3, f4⟩
theorem SH.storeR {A' : Mem} (h : SH w0 bm v rm A A' i w) (ht : A.Fit) (y u : Int) (hy : 0 ≤ y) (hA : A' = A.store 0 y u) : Calls Try.prog 14 #[.pointer (some ⟨rm, 0, none⟩), .int .i64 0, .int .u64 y, .int .u64 u] w fun e w' => e = .returned (.tuple #[]) ∧ SV w0 bm v rm A' i w' := by
  obtain ⟨F, G, a, b, c, d, ⟨r, tv, rows, e⟩, f⟩ := h
  refine (RStore_x e 0 y u hy ht.n ht.t).mono ?_
  rintro e1 w' ⟨rfl, e', f'⟩
  have hFl : ∀ k, F k → k < w.heap.size := fun k hk => (a.mine.2 k hk).2
  refine ⟨rfl, F, fun k => Ext G w k ∧ k < w'.heap.size, a.fr f' (fun k hk hg => (f k hg).2.2.1 hk) (fun k hk hg => by have := (f k hg).1; omega), b.fr f' (fun hg => (f v hg).2.2.2 rfl), c, d, by rw [hA]; exact e'.tight, ?_⟩
  rintro k ⟨hk | hk, hl⟩
  · obtain ⟨f1, f2, f3, f4⟩ := f k hk
    exact ⟨f1, hl, f3, f4⟩
  · have hk : w.heap.size ≤ k := hk
    have := a.size
    exact ⟨by omega, hl, fun hF => by have := hFl k hF; omega, fun e => by have := Blk.lt b; omega⟩
theorem VAat {p : Option Addr} {n c : Nat} (h : VA w (.slice p n c) cs) {j : Nat} {y : Int} (hj : cs[j]? = some y) : ∃ b o, p = some ⟨b, o, none⟩ ∧ b < w.heap.size ∧ w.cell? ⟨b, o + j, none⟩ = some (.int .u64 y) := by
  have hlt := (List.getElem?_eq_some_iff.1 hj).1
  obtain ⟨p', c', e, h0⟩ := h
  injection e with e1 _ e3
  subst e1 e3
  obtain ⟨ad, rfl, hbl, hc⟩ := h0.resolve_left (by rintro rfl; simp at hlt)
  obtain ⟨ab, ao, spot⟩ := ad
  have hspot : spot = none := by
    obtain ⟨y0, hy0⟩ : ∃ y, cs[0]? = some y := ⟨_, List.getElem?_eq_getElem (by omega)⟩
    have hc0 := hc 0 (.int .u64 y0) (by simp [us, hy0])
    simpa [Addr.add] using World.cell?_spot hc0
  subst hspot
  have ea : (⟨ab, ao, none⟩ : Addr).add j = ⟨ab, ao + j, none⟩ := by unfold Addr.add; split <;> simp_all
  have := hc j (.int .u64 y) (by simp [us, hj])
  rw [ea] at this
  exact ⟨ab, ao, rfl, hbl, this⟩
set_option maxHeartbeats 1000000 in
set_option maxRecDepth 100000 in
theorem SameV_yes {u z : Value} {n B B' : Nat} (hu : w.ownsRow B 69 2 u n (verC A x n)) (hz : w.ownsRow B' 69 2 z n (verC A x n)) (hn : n ≤ 1000) : Calls Try.prog 17 #[u, z] w fun e w' => e = .returned (.bool true) ∧ ∃ d, w' = w.drewN d := by
  have hcell : ∀ (n k : Nat), k < n → (verC A x n)[k * 2]? = some (.int .u64 (A.peek (vat A x k))) ∧ (verC A x n)[k * 2 + 1]? = some (.int .u64 (A.peek (vat A x k + 1))) := by
    intro n
    induction n with
    | zero => intro k h; omega
    | succ n ih =>
      intro k h
      have hl := verC_len A x n
      rcases Nat.lt_or_ge k n with h1 | h1
      · obtain ⟨a, b⟩ := ih k h1
        simp only [verC]
        rw [List.getElem?_append_left (by omega), List.getElem?_append_left (by omega)]
        exact ⟨a, b⟩
      · obtain rfl : k = n := by omega
        simp only [verC]
        rw [List.getElem?_append_right (by omega), List.getElem?_append_right (by omega), hl]
        simp
  have H1 : Hid (∀ k, k < n → ∃ g g' c c', u = .slice (some ⟨g, 0, none⟩) n c ∧ z = .slice (some ⟨g', 0, none⟩) n c' ∧ w.cell? ⟨g, k * 2, none⟩ = some (.int .u64 (A.peek (vat A x k))) ∧ w.cell? ⟨g, k * 2 + 1, none⟩ = some (.int .u64 (A.peek (vat A x k + 1))) ∧ w.cell? ⟨g', k * 2, none⟩ = some (.int .u64 (A.peek (vat A x k))) ∧ w.cell? ⟨g', k * 2 + 1, none⟩ = some (.int .u64 (A.peek (vat A x k + 1)))) := by
    intro k hk
    obtain ⟨q1, q2⟩ := hcell n k hk
    have form : ∀ {v : Value} {B : Nat}, w.ownsRow B 69 2 v n (verC A x n) → ∃ g c, v = .slice (some ⟨g, 0, none⟩) n c := by
      intro v B h
      rcases h.2 with ⟨_, h0⟩ | ⟨g, cap, cur, h1, _⟩
      · omega
      · exact ⟨g, cap, h1⟩
    obtain ⟨g, c, rfl⟩ := form hu
    obtain ⟨g', c', rfl⟩ := form hz
    exact ⟨g, g', c, c', rfl, rfl, own_cell hu q1, own_cell hu q2, own_cell hz q1, own_cell hz q2⟩
  obtain ⟨pu, cu, rfl⟩ := bk_form5 hu
  obtain ⟨pz, cz', rfl⟩ := bk_form5 hz
  clear hu hz hcell
  go_enter Try.func17, Try.ntmps17
  go_wp2_with fail
  go_loopw [5] (fun i5 wr => ∃ k : Nat, i5 = .int .i64 k ∧ k ≤ n ∧ ∃ d, wr = w.drewN d) (fun i5 _ => n - (intOf i5).toNat)
  case atStart => exact ⟨0, rfl, Nat.zero_le _, 0, rfl⟩
  case round =>
    obtain ⟨k, rfl, hk, d, rfl⟩ := hrel
    by_cases hlt : k < n
    · obtain ⟨g, g', c, c', e1, e2, a0, a1, b0, b1⟩ := H1.out k hlt
      injection e1 with e1 e1n e1c
      injection e2 with e2 e2n e2c
      subst e1 e2 e1c e2c
      clear e1n e2n
      have a0 : (w.drewN d).cell? ⟨g, k * 2, none⟩ = some (.int .u64 (A.peek (vat A x k))) := a0
      have a1 : (w.drewN d).cell? ⟨g, k * 2 + 1, none⟩ = some (.int .u64 (A.peek (vat A x k + 1))) := a1
      have b0 : (w.drewN d).cell? ⟨g', k * 2, none⟩ = some (.int .u64 (A.peek (vat A x k))) := b0
      have b1 : (w.drewN d).cell? ⟨g', k * 2 + 1, none⟩ = some (.int .u64 (A.peek (vat A x k + 1))) := b1
      generalize A.peek (vat A x k) = y1 at *
      generalize A.peek (vat A x k + 1) = y2 at *
      generalize hwd : w.drewN d = wd at *
      have HW := Lib.hid hwd
      clear hwd
      go_wp2_with fail
      go_quiet (fail)
      go_wp2_with fail
      go_roundw
      case rel => exact ⟨k + 1, by go_num, by omega, _, by rw [← HW.out, World.drewN_drewN]⟩
      case measure => simp [intOf]; omega
    · go_wp2
      go_ret
      exact ⟨rfl, d, rfl⟩
end
end Go.Proofs.Ytenlgfagfpaenaa

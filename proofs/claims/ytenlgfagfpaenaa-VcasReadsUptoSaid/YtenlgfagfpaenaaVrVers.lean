/-
  Versions of a memory of 16384 cells. No condition.
-/
import Derived.Test.YtenlgfagfpaenaaVcE
import Derived.Test.YtenlgfagfpaenaaTrace
namespace Go.Proofs.Ytenlgfagfpaenaa
open Go Go.RowKit
set_option linter.unusedSimpArgs false
set_option linter.unusedVariables false
/-- the versions' addresses, the newest first -/
def vat (A : Mem) (x : Int) : Nat → Int
  | 0 => A.peek x
  | k + 1 => A.peek (vat A x k + 2)
def Vok (a : Int) : Prop := a ≠ 0 ∧ a + 2 < 16384
def verC (A : Mem) (x : Int) : Nat → List Value
  | 0 => []
  | k + 1 => verC A x k ++ [.int .u64 (A.peek (vat A x k)), .int .u64 (A.peek (vat A x k + 1))]
/-- how many there are -/
structure Vend (A : Mem) (x : Int) (k : Nat) : Prop where
  le : k ≤ 16384
  ok : ∀ j, j < k → Vok (vat A x j)
  no : ¬ Vok (vat A x k) ∨ k = 16384
theorem Vend.eq {A : Mem} {x : Int} {k l : Nat} (h : Vend A x k) (h2 : Vend A x l) : k = l := by
  rcases Nat.lt_trichotomy k l with h3 | h3 | h3
  · rcases h.no with h4 | h4
    · exact absurd (h2.ok k h3) h4
    · have := h2.le; omega
  · exact h3
  · rcases h2.no with h4 | h4
    · exact absurd (h.ok l h3) h4
    · have := h.le; omega
theorem verC_len (A : Mem) (x : Int) (k : Nat) : (verC A x k).length = k * 2 := by
  induction k with
  | zero => rfl
  | succ k ih => simp only [verC, List.length_append, ih, List.length_cons, List.length_nil]; omega
def Mem.Pos (A : Mem) : Prop := ∀ c ∈ A.cells, 0 ≤ c
theorem Mem.Pos.peek {A : Mem} (h : A.Pos) (x : Int) : 0 ≤ A.peek x := by
  unfold Mem.peek
  rw [List.getD_eq_getElem?_getD]
  cases hc : A.cells[x.toNat]? with
  | none => exact Int.le_refl _
  | some c => exact h c (List.mem_of_getElem? hc)
theorem vat_pos {A : Mem} (h : A.Pos) (x : Int) (k : Nat) : 0 ≤ vat A x k := by cases k <;> exact h.peek _
theorem infoV : (Try.prog.info? 69).map (fun i => (i.zero, i.size, i.bytes)) = some (some (.agg #[.int .u64 0, .int .u64 0]), 2, 16) := by kernel_rfl
theorem bk_form5 {w : World} {B n size : Nat} {e : TypeId} {v : Value} {xs : List Value} (h : w.ownsRow B e size v n xs) : ∃ p c, v = .slice p n c := by
  rcases h.2 with ⟨h1, h0⟩ | ⟨g, cap, cur, h1, _⟩
  · exact ⟨none, 0, by rw [h1, h0]⟩
  · exact ⟨_, _, h1⟩
section
variable {w0 w w' w1 w2 : World} {F : Nat → Prop} {bm rm k : Nat} {A : Mem} {x : Int}
theorem Cells_o (h : Own w0 w F bm A) : Calls Try.prog 53 #[.pointer (some ⟨bm, 0, none⟩)] w fun e w' => e = .returned (.int .i64 A.cells.length) ∧ w = w' := by
  obtain ⟨q, r, tv, rows, hx⟩ := h.mine.1
  exact Cells_any hx
set_option maxHeartbeats 2000000 in
set_option maxRecDepth 100000 in
theorem Versions_any (hO : Own w0 w F bm A) (hf : A.Fit) (hA : A.cells.length = 16384) (hp : A.Pos) (hx : 0 ≤ x) :
    Calls Try.prog 15 #[.pointer (some ⟨bm, 0, none⟩), .int .u64 x] w fun e w' => ∃ k v, e = .returned v ∧ Vend A x k ∧ w'.ownsRow w.heap.size 69 2 v k (verC A x k) ∧ Below w.heap.size w w' := by
  have HC := Lib.hid (fun wx (hb : Below w.heap.size w wx) => Cells_o (hO.bel hb))
  have HP := Lib.hid (fun wx (hb : Below w.heap.size w wx) y (hy : 0 ≤ y) => peek_o (hO.bel hb) y hy hf)
  rw [hA] at HC
  have HPOS := Lib.hid hp
  obtain ⟨i0, hi, hz0, hz1, hz2⟩ := info_parts infoV
  have b0 : Below w.heap.size w w := Below.refl _ _
  clear hO hf hA hp
  go_enter Try.func15, Try.ntmps15
  go_wp2_with fail
  refine (HC.out w b0).mono ?_
  rintro e w' ⟨rfl, rfl⟩
  go_wp2_with fail
  refine (HP.out w b0 x hx).mono ?_
  rintro e w' ⟨rfl, rfl⟩
  go_wp2_with fail
  go_loopw [5, 7] (fun i5 i7 wr => ∃ (k : Nat) (p : Option Addr) (c : Nat), i7 = .int .u64 (vat A x k) ∧ i5 = .slice p k c ∧ k ≤ 16384 ∧ Hid (∀ j, j < k → Vok (vat A x j)) ∧ Hid (wr.ownsRow w.heap.size 69 2 (.slice p k c) k (verC A x k)) ∧ Hid (Below w.heap.size w wr)) (fun i5 _ _ => 16384 - (match i5 with | .slice _ n _ => n | _ => 0))
  case atStart => exact ⟨0, none, 0, rfl, rfl, Nat.zero_le _, Lib.hid (fun j hj => by omega), Lib.hid (World.ownsRow_nil _ _ _ _), b0⟩
  case round =>
    clear b0
    obtain ⟨k, p, c, rfl, rfl, hk, HOK, HO, HB⟩ := hrel
    have ha0 := vat_pos HPOS.out x k
    have HEND : Hid (¬ Vok (vat A x k) ∨ k = 16384 → ∃ k' v, Value.slice p k c = v ∧ Vend A x k' ∧ wr.ownsRow w.heap.size 69 2 v k' (verC A x k') ∧ Below w.heap.size w wr) := fun h => ⟨k, _, rfl, ⟨hk, HOK.out, h⟩, HO.out, HB.out⟩
    by_cases h1 : vat A x k = 0
    · have HE := Lib.hid (HEND.out (.inl fun h => h.1 h1))
      rw [h1]
      go_wp2
      go_ret
      obtain ⟨k', v, e, a, b, d⟩ := HE.out
      subst e
      exact ⟨k', _, rfl, a, b, d⟩
    · have h1b : (vat A x k != 0) = true := by simpa using h1
      have HPA := Lib.hid (HPOS.out)
      by_cases h2 : vat A x k < 16384
      · have h2b : decide (vat A x k < 16384) = true := by simpa using h2
        have hw1 : IntKind.u64.wrap (16384 - vat A x k) = 16384 - vat A x k := by rw [IntKind.wrap_u64]; omega
        by_cases h3 : vat A x k < 16382
        · have h3b : decide (2 < 16384 - vat A x k) = true := by simp; omega
          by_cases h4 : k < 16384
          · have hw2 : IntKind.u64.wrap (vat A x k + 1) = vat A x k + 1 := by rw [IntKind.wrap_u64]; omega
            have hw3 : IntKind.u64.wrap (vat A x k + 2) = vat A x k + 2 := by rw [IntKind.wrap_u64]; omega
            have HC1 := Lib.hid (HC.out wr HB.out)
            have HP1 := Lib.hid (HP.out wr HB.out (vat A x k) ha0)
            have HP2 := Lib.hid (HP.out wr HB.out (vat A x k + 1) (by omega))
            have HV : Hid (vat A x (k + 1) = A.peek (vat A x k + 2) ∧ verC A x (k + 1) = verC A x k ++ [.int .u64 (A.peek (vat A x k)), .int .u64 (A.peek (vat A x k + 1))]) := ⟨rfl, rfl⟩
            have HVK : Hid (∀ j, j < k + 1 → Vok (vat A x j)) := fun j hj => by
              rcases Nat.lt_or_ge j k with h | h
              · exact HOK.out j h
              · obtain rfl : j = k := by omega
                exact ⟨h1, by omega⟩
            have HPB := Lib.hid (fun wx (hb : Below w.heap.size w wx) => HP.out wx hb (vat A x k + 2) (by omega))
            have hsz := HB.out.size
            clear HEND HOK HPA HP HC
            generalize hva2 : vat A x (k + 1) = a2 at *
            have HA2 := Lib.hid hva2
            clear hva2
            generalize vat A x k = a at *
            generalize hvl2 : verC A x (k + 1) = l2 at *
            have HL2 := Lib.hid hvl2
            clear hvl2
            have hll := verC_len A x k
            generalize verC A x k = l1 at *
            generalize A.peek a = y1 at *
            generalize A.peek (a + 1) = y2 at *
            have HOA : Hid ((wr.alloc (.cells #[.int .u64 y1, .int .u64 y2] 69)).ownsRow w.heap.size 69 2 (.slice p k c) k l1) := own_fr HO.out ((Fr.refl (fun _ => False) wr).alloc _) (fun _ _ e => e)
            have HBA : Hid (∀ w', (wr.alloc (.cells #[.int .u64 y1, .int .u64 y2] 69)).grownBy w' (Value.slice p k c).ownBlock → Below w.heap.size w w') := fun w' hg => (HB.out.alloc hsz _).grown hg (by simp; omega) (fun g hg => (HO.out.lt g hg).1)
            have hsz2 : w.heap.size ≤ (wr.alloc (.cells #[.int .u64 y1, .int .u64 y2] 69)).heap.size := by simp; omega
            clear HO
            go_wp2_with fail
            refine HC1.out.mono ?_
            rintro e w' ⟨rfl, rfl⟩
            go_wp2_with fail
            refine HP1.out.mono ?_
            rintro e w' ⟨rfl, rfl⟩
            go_wp2_with fail
            refine HP2.out.mono ?_
            rintro e w' ⟨rfl, rfl⟩
            go_wp2_with (at_builtin; refine wpList_append_own _ rfl _ _ 35 rfl w.heap.size 69 i0 _ 2 16 Try.underlying35 hi hz0 hz1 hz2 rfl (by decide) _ k _ rfl HOA.out ⟨wr.heap.size, 0, none⟩ 1 1 [.int .u64 y1, .int .u64 y2] rfl rfl (World.news_of_block (heap_alloc_new _ _)) (by simp [Value.oneCell']) (by unfold maxLen; omega) (by omega) hsz2 ?_; intro v' w5 hown5 hgrow5 _; obtain ⟨vp, vc, rfl⟩ := bk_form5 hown5)
            have hb5 := HBA.out _ hgrow5
            have HP5 := Lib.hid (HPB.out w5 hb5)
            have HO5 : Hid (w5.ownsRow w.heap.size 69 2 (.slice vp (k + 1) vc) (k + 1) l2) := by rw [HV.out.2]; exact hown5
            have HB5 := Lib.hid hb5
            clear hown5 hgrow5 hb5 HOA HBA
            go_wp2_with fail
            refine HP5.out.mono ?_
            rintro e w' ⟨rfl, rfl⟩
            go_wp2_with fail
            go_roundw
            case rel => exact ⟨k + 1, vp, vc, by rw [HA2.out, HV.out.1], rfl, by omega, HVK, by rw [HL2.out]; exact HO5, HB5⟩
            case measure => simp only; omega
          · obtain rfl : k = 16384 := by omega
            have HE := Lib.hid (HEND.out (.inr rfl))
            have HC1 := Lib.hid (HC.out wr HB.out)
            generalize vat A x 16384 = a at *
            go_wp2_with fail
            refine HC1.out.mono ?_
            rintro e w' ⟨rfl, rfl⟩
            go_wp2
            go_ret
            obtain ⟨k', v, e, a1, b, d⟩ := HE.out
            subst e
            exact ⟨k', _, rfl, a1, b, d⟩
        · have h3b : decide (2 < 16384 - vat A x k) = false := by simp; omega
          have HE := Lib.hid (HEND.out (.inl fun h => h3 (by have := h.2; omega)))
          generalize vat A x k = a at *
          go_wp2
          go_ret
          obtain ⟨k', v, e, a1, b, d⟩ := HE.out
          subst e
          exact ⟨k', _, rfl, a1, b, d⟩
      · have h2b : decide (vat A x k < 16384) = false := by simpa using h2
        have HE := Lib.hid (HEND.out (.inl fun h => h2 (by have := h.2; omega)))
        generalize vat A x k = a at *
        go_wp2
        go_ret
        obtain ⟨k', v, e, a1, b, d⟩ := HE.out
        subst e
        exact ⟨k', _, rfl, a1, b, d⟩
end
end Go.Proofs.Ytenlgfagfpaenaa

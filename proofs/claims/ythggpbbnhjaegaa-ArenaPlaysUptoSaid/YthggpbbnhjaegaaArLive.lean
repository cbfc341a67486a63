/-
  What must be whatever is asked of the arena; nil memories and views. No condition.
-/
import Derived.Test.YthggpbbnhjaegaaArBase
namespace Go.Proofs.Ythggpbbnhjaegaa
open Go Go.RowKit
set_option linter.unusedSimpArgs false
set_option linter.unusedVariables false
section
variable {w w' w1 w0 : World} {F G S : Nat → Prop} {bm q r v p B : Nat} {A : Mem} {th made : Int} {tv av : Value} {rows : List (Acc × Value)} {vs : List Int}
def K0 : Mem := Mem.made 128
def K1 : Mem := K0.alloc 3 [7, 8]
def K2 : Mem := K1.load 3 2
def K3 : Mem := K2.cas 3 2 8 5
def K4 : Mem := K3.add 3 2 10
theorem fit_of {A : Mem} (h : decide (A.cells.length ≤ 4194304) && decide (A.trace.length ≤ 1000000000) && decide (A.next ≤ A.cells.length) = true) : A.Fit := by
  simp at h; exact ⟨h.1.1, h.1.2, h.2⟩
theorem K0_fit : K0.Fit := fit_of (by decide +kernel)
theorem K1_fit : K1.Fit := fit_of (by decide +kernel)
theorem K2_fit : K2.Fit := fit_of (by decide +kernel)
theorem K3_fit : K3.Fit := fit_of (by decide +kernel)
theorem K4_fit : K4.Fit := fit_of (by decide +kernel)
theorem K_spot : K0.spot [7, 8] = 1 := by decide +kernel
theorem K_load : K1.peek 2 = 8 := by decide +kernel
theorem K_cas : K2.hit 2 8 = true := by decide +kernel
theorem K_add : K3.peek 2 = 5 := by decide +kernel
theorem K_peek : K4.peek 2 = 15 := by decide +kernel
theorem K_len : K4.trace.length = 4 := by decide +kernel
theorem K_vals : ∀ x ∈ K4.trace, x.vals.length ≤ 1000000000 := by decide +kernel
theorem built_VA {g' : Nat} (h : Blk w g' 33 (us vs).toArray) {c : Nat} : VA w (.slice (some ⟨g', 0, none⟩) vs.length c) vs := by
  refine ⟨_, _, rfl, .inr ⟨_, rfl, Blk.lt h, fun j u hu => ?_⟩⟩
  have e : ((⟨g', 0, none⟩ : Addr).add j) = ⟨g', j, none⟩ := by unfold Addr.add; split <;> simp_all
  rw [e, h.cell j]
  simpa using hu
set_option maxRecDepth 100000 in
theorem live3_any (w : World) : Calls Try.prog 6 #[] w fun e w' => e = .returned (.bool true) ∧ Below w.heap.size w w' := by
  go_enter Try.func6, Try.ntmps6
  go_wp2_with fail
  refine (New_128 w).mono ?_
  rintro e w1 ⟨bm, rfl, hm, hb⟩
  obtain ⟨F, O, hFl⟩ := Own.new w (Below.refl _ _) hm hb
  change Own w w1 F bm K0 at O
  clear hm hb
  obtain ⟨q, r, tv, rows, hx⟩ := O.mine.1
  have HL := Lib.hid (Left_any hx K0_fit.x K0_fit.n)
  rw [show ((K0.cells.length : Int) - (K0.next : Int)) = 127 from by decide +kernel] at HL
  go_wp2_with fail
  refine HL.out.mono ?_
  rintro e w2 ⟨rfl, k, rfl⟩
  have O2 := O.drawn k
  clear O hx HL
  go_wp2_with fail
  refine (View_any (w1.drewN k) bm 3).mono ?_
  rintro e w3 ⟨rfl, hw3⟩
  obtain ⟨O3, v3, n3, b3⟩ := O2.view 3 hw3
  have hs2 := O2.size
  generalize (w1.drewN k).heap.size = v at *
  have hvl := Blk.lt v3
  clear hw3 O2 b3
  go_wp2_with fail
  have hrow : Blk (w3.alloc (Obj.cells #[Value.int IntKind.u64 7, Value.int IntKind.u64 8] 33)) w3.heap.size 33 (us [7, 8]).toArray := Blk.made w3 _ _
  have b4 : Below w3.heap.size w3 (w3.alloc (Obj.cells #[Value.int IntKind.u64 7, Value.int IntKind.u64 8] 33)) := (Below.refl _ w3).alloc (Nat.le_refl _) _
  have O4 := O3.bel b4
  have v4 := VW.fr v3 (Fr.of_below (S := fun _ => False) b4) (fun e => e)
  have ha := built_VA (vs := [7, 8]) hrow (c := 2)
  have ho : Off (.slice (some ⟨w3.heap.size, 0, none⟩) 2 2) F := by
    intro ad n c e hk
    injection e with e1 _ _
    injection e1 with e1
    subst e1
    exact O3.mine.not (Nat.le_refl _) hk
  have hA := Alloc_o O4 v4 n3 hs2 ha (fun _ => ho) (by decide) K0_fit (by decide) (by decide)
  rw [K_spot] at hA
  have HA := Lib.hid hA
  clear hA ha ho O4 v4 b4 hrow v3
  generalize w3.alloc _ = w4 at *
  clear O3
  refine HA.out.mono ?_
  rintro e w5 ⟨rfl, F5, O5, v5, n5, _, _⟩
  change Own w w5 F5 bm K1 at O5
  have h5 := Load_o O5 v5 n5 hs2 2 (by decide) K1_fit (by decide) (by decide)
  rw [K_load] at h5
  have H5 := Lib.hid h5
  clear HA h5
  go_wp2_with fail
  refine H5.out.mono ?_
  rintro e w6 ⟨rfl, F6, O6, v6, n6, _, _⟩
  change Own w w6 F6 bm K2 at O6
  have h6 := Cas_o O6 v6 n6 hs2 2 8 5 (by decide) K2_fit (by decide) (by decide)
  rw [K_cas] at h6
  have H6 := Lib.hid h6
  clear H5 h6 O5 v5 n5
  go_wp2_with fail
  refine H6.out.mono ?_
  rintro e w7 ⟨rfl, F7, O7, v7, n7, _, _⟩
  change Own w w7 F7 bm K3 at O7
  have h7 := Add_o O7 v7 n7 hs2 2 10 (by decide) K3_fit (by decide) (by decide)
  rw [K_add] at h7
  have H7 := Lib.hid h7
  clear H6 h7 O6 v6 n6
  go_wp2_with fail
  refine H7.out.mono ?_
  rintro e w8 ⟨rfl, F8, O8, v8, n8, _, _⟩
  change Own w w8 F8 bm K4 at O8
  have h8 := peek_o O8 2 (by decide) K4_fit
  rw [K_peek] at h8
  have H8 := Lib.hid h8
  clear H7 h8 O7 v7 n7
  go_wp2_with fail
  refine H8.out.mono ?_
  rintro e w9 ⟨rfl, rfl⟩
  obtain ⟨q2, r2, tv2, rows2, hx2⟩ := O8.mine.1
  have h9 := Trace_x hx2 K4_fit.t K_vals
  rw [K_len] at h9
  have H9 := Lib.hid h9
  clear H8 h9 hx2
  go_wp2_with fail
  refine H9.out.mono ?_
  rintro e w9 ⟨p9, c9, rfl, _, b9⟩
  have v9 := VW.fr v8 (Fr.of_below (S := fun _ => False) b9) (fun e => e)
  have O9 := O8.bel b9
  clear H9 O8 v8 b9
  go_wp2_with fail
  refine (Accesses_any v9).mono ?_
  rintro e w10 ⟨rfl, rfl⟩
  go_wp2_with fail
  refine (Thread_any v9).mono ?_
  rintro e w10 ⟨rfl, rfl⟩
  go_wp2
  go_ret
  exact ⟨rfl, O9.below⟩
end
end Go.Proofs.Ythggpbbnhjaegaa

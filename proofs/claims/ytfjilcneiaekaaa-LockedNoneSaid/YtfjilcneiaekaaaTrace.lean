/-
  What a memory tells: the trace, and what is in it; the copies that are handed out. No condition.
-/
import Derived.Test.YtfjilcneiaekaaaMade
import Derived.Maps.AppendAt
import Derived.Lib.SliceRun
namespace Go.Proofs.Ytfjilcneiaekaaa
open Go Go.RowKit
set_option linter.unusedSimpArgs false
set_option linter.unusedVariables false
section
variable {w w' : World} {F G S : Nat → Prop} {bm q r v : Nat} {tv : Value} {rows : List (Acc × Value)} {A : Mem} {vs : List Int}
theorem accC_len (x : Acc × Value) : (accC x).length = 8 := rfl
theorem flat_len : ∀ rows : List (Acc × Value), (rows.flatMap accC).length = rows.length * 8
  | [] => rfl
  | y :: l => by rw [List.flatMap_cons, List.length_append, flat_len l, accC_len, List.length_cons]; omega
theorem add_block (a : Addr) (n : Nat) : (a.add n).block = a.block := by unfold Addr.add; split <;> rfl
theorem flat_at : ∀ (rows : List (Acc × Value)) (i j : Nat) (x : Acc × Value), rows[i]? = some x → j < 8 → (rows.flatMap accC)[i * 8 + j]? = (accC x)[j]?
  | [], i, j, x, h, _ => by simp at h
  | y :: l, 0, j, x, h, hj => by
    obtain rfl : y = x := by simpa using h
    rw [List.flatMap_cons, List.getElem?_append_left (by rw [accC_len]; omega)]
    simp
  | y :: l, i + 1, j, x, h, hj => by
    have h' : l[i]? = some x := by simpa using h
    rw [List.flatMap_cons, List.getElem?_append_right (by rw [accC_len]; omega), accC_len, show (i + 1) * 8 + j - 8 = i * 8 + j from by omega]
    exact flat_at l i j x h' hj
/-- a slice reads as these accesses -/
def TR (w : World) (p : Option Addr) (rows : List (Acc × Value)) : Prop :=
  rows = [] ∨ ∃ g, p = some ⟨g, 0, none⟩ ∧ g < w.heap.size ∧ ∀ i x, rows[i]? = some x → ∀ j u, (accC x)[j]? = some u → w.cell? ⟨g, i * 8 + j, none⟩ = some u
theorem TR_own {p : Option Addr} {n c : Nat} (h : w.ownsRow 0 152 8 (.slice p n c) n (rows.flatMap accC)) : TR w p rows := by
  rcases List.eq_nil_or_concat rows with rfl | ⟨_, _, rfl⟩
  · exact .inl rfl
  · right
    have hl := h.1
    rw [flat_len] at hl
    obtain ⟨g, cap, hv, _, hlt⟩ := h.form (by simp at hl; omega)
    obtain ⟨rfl, _, rfl⟩ : p = some ⟨g, 0, none⟩ ∧ n = n ∧ c = cap := by injection hv with a b c; exact ⟨a, b, c⟩
    refine ⟨g, rfl, hlt, fun i x hx j u hu => ?_⟩
    have hj : j < 8 := by have := (List.getElem?_eq_some_iff.1 hu).1; simpa [accC_len] using this
    exact own_cell h ((flat_at _ i j x hx hj).trans hu)
theorem Vals.some_slice (h : Vals w F r tv vs) : ∃ p c, tv = .slice p vs.length c := by
  rcases h with ⟨p, c, rfl, rfl⟩ | ⟨h, _⟩
  · exact ⟨p, c, rfl⟩
  · rcases h.2 with ⟨rfl, h0⟩ | ⟨g, cap, cur, rfl, _⟩
    · exact ⟨none, 0, by rw [h0]⟩
    · exact ⟨_, _, rfl⟩
set_option maxRecDepth 100000 in
theorem CloneU_nil (w : World) : Calls Try.prog 70 #[.slice none 0 0] w fun e w' => e = .returned (.slice none 0 0) ∧ w = w' := by
  have heq := fun (w : World) (a : Option Addr) (n c n' c' : Nat) => Lib.run_eql_slice_nil (P := Try.prog) w 26 23 a n c n' c' Try.underlying26
  go_enter Try.func70, Try.ntmps70
  go_wp2
  go_ret
  exact ⟨rfl, rfl⟩
theorem emp_own (w : World) (e : TypeId) (size : Nat) : (w.alloc (.cells #[] e)).ownsRow w.heap.size e size (.slice (some ⟨w.heap.size, 0, none⟩) 0 0) 0 [] :=
  ⟨by simp, .inr ⟨w.heap.size, 0, #[], rfl, Nat.le_refl _, heap_alloc_new w _, Nat.le_refl _, by simp [maxLen], by simp, by simp⟩⟩
set_option maxRecDepth 100000 in
theorem CloneU_some (w : World) (ad : Addr) (n c : Nat) (xs : List Int) (hl : (us xs).length = n) (hn : n ≤ 1000000000) (hc' : ∀ o j u, (us xs)[j]? = some u → (w.alloc o).cell? (ad.add j) = some u) :
    Calls Try.prog 70 #[.slice (some ad) n c] w fun e w' => ∃ v', e = .returned v' ∧ w'.ownsRow w.heap.size 23 1 v' n (us xs) ∧ Below w.heap.size w w' := by
  obtain ⟨i0, hi, hz0, hz1, hz2⟩ := info_parts infoU
  have h1 : ∀ u ∈ (us xs), u.oneCell' = true := by
    intro u hu
    obtain ⟨y, _, rfl⟩ := List.mem_map.1 hu; rfl
  have HC := Lib.hid hc'
  have H1 := Lib.hid h1
  have HE := Lib.hid (emp_own w 23 1)
  have HL := Lib.hid hl
  clear hc' h1 hl
  have heq := fun (w : World) (a : Option Addr) (n c n' c' : Nat) => Lib.run_eql_slice_nil (P := Try.prog) w 26 23 a n c n' c' Try.underlying26
  go_enter Try.func70, Try.ntmps70
  go_wp2_with (at_builtin; refine wpList_append_own _ rfl _ _ 26 rfl w.heap.size 23 i0 _ 1 8 Try.underlying26 hi hz0 hz1 hz2 rfl (by decide) _ _ _ rfl HE.out ad n c (us xs) rfl (by rw [HL.out]; omega) (HC.out _) H1.out (by unfold maxLen; omega) (by omega) (by simp) ?_; intro v' w' hown' hgrow _)
  have hB : Below w.heap.size w w' := ((Below.refl _ w).alloc (Nat.le_refl _) _).grown hgrow (by simp) (by intro k hk; have hk' : some w.heap.size = some k := hk; injection hk' with e; omega)
  go_ret
  exact ⟨_, rfl, by simpa using hown', hB⟩
/-- a value reads as this list of numbers -/
def VR (w : World) (v : Value) (vs : List Int) : Prop :=
  (∃ p c, v = .slice p 0 c ∧ vs = []) ∨ ∃ g c, v = .slice (some ⟨g, 0, none⟩) vs.length c ∧ g < w.heap.size ∧ ∀ j u, (us vs)[j]? = some u → w.cell? ⟨g, j, none⟩ = some u
theorem VR_of (h : Vals w F r tv vs) : VR w tv vs := by
  rcases h with h | ⟨h, _⟩
  · exact .inl h
  · rcases h.2 with ⟨rfl, h0⟩ | ⟨g, cap, cur, rfl, _, hh, _⟩
    · exact .inl ⟨none, 0, rfl, List.length_eq_zero_iff.1 h0⟩
    · exact .inr ⟨g, cap, rfl, Blk.lt (t := 23) hh, fun j u hu => own_cell h hu⟩
theorem VR.below (h : VR w tv vs) (hb : Below w.heap.size w w') : VR w' tv vs := by
  rcases h with h | ⟨g, c, rfl, hl, hc⟩
  · exact .inl h
  · exact .inr ⟨g, c, rfl, Nat.lt_of_lt_of_le hl hb.size, fun j u hu => (hb.cell (p := ⟨g, j, none⟩) hl).trans (hc j u hu)⟩
theorem VR.put (h : VR w tv vs) {g i : Nat} {t : TypeId} {cs : Array Value} (u : Value) (hg : vs = [] ∨ ∀ k, tv.ownBlock = some k → k ≠ g) : VR (w.setCell ⟨g, i, none⟩ u) tv vs := by
  rcases h with h | ⟨k, c, rfl, hl, hc⟩
  · exact .inl h
  · refine .inr ⟨k, c, rfl, by simpa [World.setCell] using hl, fun j x hx => ?_⟩
    rcases hg with rfl | hg
    · simp [us] at hx
    rw [World.cell?_setCell_other w _ _ u (fun e => by injection e with e; exact hg k rfl e.symm)]
    exact hc j x hx
theorem VR.form (h : VR w tv vs) : ∃ p n c, tv = .slice p n c := by
  rcases h with ⟨p, c, rfl, _⟩ | ⟨g, c, rfl, _⟩
  · exact ⟨_, _, _, rfl⟩
  · exact ⟨_, _, _, rfl⟩
theorem VR.one (h : VR w tv vs) : tv.oneCell' = true := by
  rcases h with ⟨p, c, rfl, _⟩ | ⟨g, c, rfl, _⟩ <;> rfl
/-- a copy of a list of numbers: a row of its own -/
theorem CloneU_any (h : VR w tv vs) (hn : vs.length ≤ 1000000000) : Calls Try.prog 70 #[tv] w fun e w' => ∃ v', e = .returned v' ∧ VR w' v' vs ∧ (∀ k, v'.ownBlock = some k → w.heap.size ≤ k ∧ k < w'.heap.size) ∧ Below w.heap.size w w' := by
  have fin : ∀ (ad : Addr) (c : Nat), tv = .slice (some ad) vs.length c → (∀ o j u, (us vs)[j]? = some u → (w.alloc o).cell? (ad.add j) = some u) →
      Calls Try.prog 70 #[tv] w fun e w' => ∃ v', e = .returned v' ∧ VR w' v' vs ∧ (∀ k, v'.ownBlock = some k → w.heap.size ≤ k ∧ k < w'.heap.size) ∧ Below w.heap.size w w' := by
    rintro ad c rfl hc
    refine (CloneU_some w ad vs.length c vs (by simp [us]) hn hc).mono ?_
    rintro e w' ⟨v', rfl, ho, hb⟩
    refine ⟨v', rfl, VR_of (F := fun _ => True) (r := w'.heap.size) (.inr ⟨ho.2.elim (fun h => ⟨ho.1, .inl h⟩) (fun ⟨g, cap, cur, h1, _, h2⟩ => ⟨ho.1, .inr ⟨g, cap, cur, h1, Nat.zero_le _, h2⟩⟩), fun g e => ⟨trivial, by have := own_lt ho e; omega⟩⟩), fun k e => ⟨?_, own_lt ho e⟩, hb⟩
    rcases ho.2 with ⟨rfl, _⟩ | ⟨g, cap, cur, rfl, hg, _⟩
    · cases e
    · have : g = k := by simpa [Value.ownBlock] using e
      omega
  rcases h with ⟨p, c, rfl, rfl⟩ | ⟨g, c, rfl, hl, hc⟩
  · cases p with
    | none =>
      have heq := fun (w : World) (a : Option Addr) (n c n' c' : Nat) => Lib.run_eql_slice_nil (P := Try.prog) w 26 23 a n c n' c' Try.underlying26
      clear fin
      go_enter Try.func70, Try.ntmps70
      go_wp2
      go_ret
      exact ⟨_, rfl, .inl ⟨none, 0, rfl, rfl⟩, (by intro k e; cases e), Below.refl _ _⟩
    | some ad => exact fin ad c rfl (by intro o j u hu; simp [us] at hu)
  · refine fin ⟨g, 0, none⟩ c rfl fun o j u hu => ?_
    have e : ((⟨g, 0, none⟩ : Addr).add j) = ⟨g, j, none⟩ := by unfold Addr.add; split <;> simp_all
    rw [e, World.cell?_alloc_lt w o _ hl]
    exact hc j u hu
theorem flat_set : ∀ (rows : List (Acc × Value)) (i : Nat) (x : Acc × Value) (u : Value), rows[i]? = some x → (rows.flatMap accC).set (i * 8 + 5) u = (rows.set i (x.1, u)).flatMap accC
  | [], i, x, u, h => by simp at h
  | y :: l, 0, x, u, h => by
    obtain rfl : y = x := by simpa using h
    simp [List.flatMap_cons, accC]
  | y :: l, i + 1, x, u, h => by
    have h' : l[i]? = some x := by simpa using h
    rw [List.flatMap_cons, List.set_append_right _ _ (by rw [accC_len]; omega), accC_len, show (i + 1) * 8 + 5 - 8 = i * 8 + 5 from by omega, flat_set l i x u h', List.set_cons_succ, List.flatMap_cons]
theorem own_cold {base : Nat} {e : TypeId} {size n c g : Nat} {xs : List Value} (h : w.ownsRow base e size (.slice (some ⟨g, 0, none⟩) n c) n xs) (j : Nat) : w.frozen? ⟨g, j, none⟩ = false := by
  rcases h.2 with ⟨h0, _⟩ | ⟨g', cap, cur, hv, hb, hh, _⟩
  · cases h0
  · obtain rfl : g' = g := by injection hv with a b c; injection a with a; injection a with a; exact a.symm
    exact Blk.cold (t := e) hh j
theorem own_put {base : Nat} {e : TypeId} {size n c g j : Nat} {xs : List Value} (h : w.ownsRow base e size (.slice (some ⟨g, 0, none⟩) n c) n xs) (hj : j < n * size) (u : Value) :
    (w.setCell ⟨g, j, none⟩ u).ownsRow base e size (.slice (some ⟨g, 0, none⟩) n c) n (xs.set j u) := by
  refine ⟨by simpa using h.1, ?_⟩
  rcases h.2 with ⟨h0, _⟩ | ⟨g', cap, cur, hv, hb, hh, h1, h2, h3, h4⟩
  · cases h0
  · obtain ⟨rfl, rfl⟩ : g' = g ∧ cap = c := by injection hv with a b c; injection a with a; injection a with a; exact ⟨a.symm, c.symm⟩
    refine .inr ⟨g', cap, cur.setIfInBounds j u, rfl, hb, ?_, h1, h2, by simpa using h3, ?_⟩
    · exact Blk.put (t := e) hh j u
    · rw [← h4, Array.toList_setIfInBounds, List.take_set]
/-- a told list: its rows, and what lies in them -/
structure Told (w : World) (B : Nat) (v : Value) (tr : List Acc) : Prop where
  out : ∃ rows : List (Acc × Value), rows.map (·.1) = tr ∧ w.ownsRow B 152 8 v rows.length (rows.flatMap accC) ∧ ∀ x ∈ rows, VR w x.2 x.1.vals
end
end Go.Proofs.Ytfjilcneiaekaaa

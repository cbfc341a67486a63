/-
  What a memory tells: the trace, and what is in it; the copies that are handed out. No condition.
-/
import Derived.Test.YtenlgfagfpaenaaMade
import Derived.Maps.AppendAt
import Derived.Lib.SliceRun
namespace Go.Proofs.Ytenlgfagfpaenaa
open Go Go.RowKit
set_option linter.unusedSimpArgs false
set_option linter.unusedVariables false
section
variable {w w' : World} {F G S : Nat → Prop} {bm q r v : Nat} {tv : Value} {rows : List (Acc × Value)} {A : Mem} {vs : List Int}
theorem accC_len (x : Acc × Value) : (accC x).length = 8 := rfl
theorem flat_len : ∀ rows : List (Acc × Value), (rows.flatMap accC).length = rows.length * 8
  | [] => rfl
  | y :: l => by rw [List.flatMap_cons, List.length_append, flat_len l, accC_len, List.length_cons]; omega
theorem add_block (a : Addr) (n : Nat) : (a.add n).block = a.block := by unfold Addr.add; split <;> rfl
theorem flat_at : ∀ (rows : List (Acc × Value)) (i j : Nat) (x : Acc × Value), rows[i]? = some x → j < 8 → (rows.flatMap accC)[i * 8 + j]? = (accC x)[j]?
  | [], i, j, x, h, _ => by simp at h
  | y :: l, 0, j, x, h, hj => by
    obtain rfl : y = x := by simpa using h
    rw [List.flatMap_cons, List.getElem?_append_left (by rw [accC_len]; omega)]
    simp
  | y :: l, i + 1, j, x, h, hj => by
    have h' : l[i]? = some x := by simpa using h
    rw [List.flatMap_cons, List.getElem?_append_right (by rw [accC_len]; omega), accC_len, show (i + 1) * 8 + j - 8 = i * 8 + j from by omega]
    exact flat_at l i j x h' hj
/-- a slice reads as these accesses -/
def TR (w : World) (p : Option Addr) (rows : List (Acc × Value)) : Prop :=
  rows = [] ∨ ∃ g, p = some ⟨g, 0, none⟩ ∧ g < w.heap.size ∧ ∀ i x, rows[i]? = some x → ∀ j u, (accC x)[j]? = some u → w.cell? ⟨g, i * 8 + j, none⟩ = some u
theorem TR_own {p : Option Addr} {n c : Nat} (h : w.ownsRow 0 124 8 (.slice p n c) n (rows.flatMap accC)) : TR w p rows := by
  rcases List.eq_nil_or_concat rows with rfl | ⟨_, _, rfl⟩
  · exact .inl rfl
  · right
    have hl := h.1
    rw [flat_len] at hl
    obtain ⟨g, cap, hv, _, hlt⟩ := h.form (by simp at hl; omega)
    obtain ⟨rfl, _, rfl⟩ : p = some ⟨g, 0, none⟩ ∧ n = n ∧ c = cap := by injection hv with a b c; exact ⟨a, b, c⟩
    refine ⟨g, rfl, hlt, fun i x hx j u hu => ?_⟩
    have hj : j < 8 := by have := (List.getElem?_eq_some_iff.1 hu).1; simpa [accC_len] using this
    exact own_cell h ((flat_at _ i j x hx hj).trans hu)
theorem Vals.some_slice (h : Vals w F r tv vs) : ∃ p c, tv = .slice p vs.length c := by
  rcases h with ⟨p, c, rfl, rfl⟩ | ⟨h, _⟩
  · exact ⟨p, c, rfl⟩
  · rcases h.2 with ⟨rfl, h0⟩ | ⟨g, cap, cur, rfl, _⟩
    · exact ⟨none, 0, by rw [h0]⟩
    · exact ⟨_, _, rfl⟩
set_option maxRecDepth 100000 in
theorem CloneU_nil (w : World) : Calls Try.prog 72 #[.slice none 0 0] w fun e w' => e = .returned (.slice none 0 0) ∧ w = w' := by
  have heq := fun (w : World) (a : Option Addr) (n c n' c' : Nat) => Lib.run_eql_slice_nil (P := Try.prog) w 22 23 a n c n' c' Try.underlying22
  go_enter Try.func72, Try.ntmps72
  go_wp2
  go_ret
  exact ⟨rfl, rfl⟩
set_option maxRecDepth 100000 in
theorem CloneA_nil (w : World) : Calls Try.prog 71 #[.slice none 0 0] w fun e w' => e = .returned (.slice none 0 0) ∧ w = w' := by
  have heq := fun (w : World) (a : Option Addr) (n c n' c' : Nat) => Lib.run_eql_slice_nil (P := Try.prog) w 94 124 a n c n' c' Try.underlying94
  go_enter Try.func71, Try.ntmps71
  go_wp2
  go_ret
  exact ⟨rfl, rfl⟩
theorem emp_own (w : World) (e : TypeId) (size : Nat) : (w.alloc (.cells #[] e)).ownsRow w.heap.size e size (.slice (some ⟨w.heap.size, 0, none⟩) 0 0) 0 [] :=
  ⟨by simp, .inr ⟨w.heap.size, 0, #[], rfl, Nat.le_refl _, heap_alloc_new w _, Nat.le_refl _, by simp [maxLen], by simp, by simp⟩⟩
set_option maxRecDepth 100000 in
theorem CloneU_some (w : World) (ad : Addr) (n c : Nat) (xs : List Int) (hl : (us xs).length = n) (hn : n ≤ 1000000000) (hc' : ∀ o j u, (us xs)[j]? = some u → (w.alloc o).cell? (ad.add j) = some u) :
    Calls Try.prog 72 #[.slice (some ad) n c] w fun e w' => ∃ v', e = .returned v' ∧ w'.ownsRow w.heap.size 23 1 v' n (us xs) ∧ Below w.heap.size w w' := by
  obtain ⟨i0, hi, hz0, hz1, hz2⟩ := info_parts infoU
  have h1 : ∀ u ∈ (us xs), u.oneCell' = true := by
    intro u hu
    obtain ⟨y, _, rfl⟩ := List.mem_map.1 hu; rfl
  have HC := Lib.hid hc'
  have H1 := Lib.hid h1
  have HE := Lib.hid (emp_own w 23 1)
  have HL := Lib.hid hl
  clear hc' h1 hl
  have heq := fun (w : World) (a : Option Addr) (n c n' c' : Nat) => Lib.run_eql_slice_nil (P := Try.prog) w 22 23 a n c n' c' Try.underlying22
  go_enter Try.func72, Try.ntmps72
  go_wp2_with (at_builtin; refine wpList_append_own _ rfl _ _ 22 rfl w.heap.size 23 i0 _ 1 8 Try.underlying22 hi hz0 hz1 hz2 rfl (by decide) _ _ _ rfl HE.out ad n c (us xs) rfl (by rw [HL.out]; omega) (HC.out _) H1.out (by unfold maxLen; omega) (by omega) (by simp) ?_; intro v' w' hown' hgrow _)
  have hB : Below w.heap.size w w' := ((Below.refl _ w).alloc (Nat.le_refl _) _).grown hgrow (by simp) (by intro k hk; have hk' : some w.heap.size = some k := hk; injection hk' with e; omega)
  go_ret
  exact ⟨_, rfl, by simpa using hown', hB⟩
set_option maxRecDepth 100000 in
theorem CloneA_some (w : World) (ad : Addr) (n c : Nat) (rows : List (Acc × Value)) (hl : (rows.flatMap accC).length = n * 8) (hn : n ≤ 1000000000) (hc : ∀ j u, (rows.flatMap accC)[j]? = some u → w.cell? (ad.add j) = some u) (hb : ad.block < w.heap.size) (ho : ∀ x ∈ rows, x.2.oneCell' = true) :
    Calls Try.prog 71 #[.slice (some ad) n c] w fun e w' => ∃ v', e = .returned v' ∧ w'.ownsRow w.heap.size 124 8 v' n (rows.flatMap accC) ∧ Below w.heap.size w w' := by
  obtain ⟨i0, hi, hz0, hz1, hz2⟩ := info_parts infoA
  have hc' : ∀ o j u, (rows.flatMap accC)[j]? = some u → (w.alloc o).cell? (ad.add j) = some u := by
    intro o j u hu
    rw [World.cell?_alloc_lt w o _ (by rw [add_block]; exact hb)]
    exact hc j u hu
  have h1 : ∀ u ∈ (rows.flatMap accC), u.oneCell' = true := by
    intro u hu
    obtain ⟨y, hy, hu⟩ := List.mem_flatMap.1 hu
    have := ho y hy
    simp [accC] at hu
    rcases hu with rfl | rfl | rfl | rfl | rfl | rfl | rfl | rfl <;> first | rfl | exact this
  have HC := Lib.hid hc'
  have H1 := Lib.hid h1
  have HE := Lib.hid (emp_own w 124 8)
  have HL := Lib.hid hl
  clear hc hc' h1 hl
  have heq := fun (w : World) (a : Option Addr) (n c n' c' : Nat) => Lib.run_eql_slice_nil (P := Try.prog) w 94 124 a n c n' c' Try.underlying94
  go_enter Try.func71, Try.ntmps71
  go_wp2_with (at_builtin; refine wpList_append_own _ rfl _ _ 94 rfl w.heap.size 124 i0 _ 8 80 Try.underlying94 hi hz0 hz1 hz2 rfl (by decide) _ _ _ rfl HE.out ad n c (rows.flatMap accC) rfl HL.out (HC.out _) H1.out (by unfold maxLen; omega) (by omega) (by simp) ?_; intro v' w' hown' hgrow _)
  have hB : Below w.heap.size w w' := ((Below.refl _ w).alloc (Nat.le_refl _) _).grown hgrow (by simp) (by intro k hk; have hk' : some w.heap.size = some k := hk; injection hk' with e; omega)
  go_ret
  exact ⟨_, rfl, by simpa using hown', hB⟩
/-- a value reads as this list of numbers -/
def VR (w : World) (v : Value) (vs : List Int) : Prop :=
  (∃ p c, v = .slice p 0 c ∧ vs = []) ∨ ∃ g c, v = .slice (some ⟨g, 0, none⟩) vs.length c ∧ g < w.heap.size ∧ ∀ j u, (us vs)[j]? = some u → w.cell? ⟨g, j, none⟩ = some u
theorem VR_of (h : Vals w F r tv vs) : VR w tv vs := by
  rcases h with h | ⟨h, _⟩
  · exact .inl h
  · rcases h.2 with ⟨rfl, h0⟩ | ⟨g, cap, cur, rfl, _, hh, _⟩
    · exact .inl ⟨none, 0, rfl, List.length_eq_zero_iff.1 h0⟩
    · exact .inr ⟨g, cap, rfl, Blk.lt (t := 23) hh, fun j u hu => own_cell h hu⟩
theorem VR.below (h : VR w tv vs) (hb : Below w.heap.size w w') : VR w' tv vs := by
  rcases h with h | ⟨g, c, rfl, hl, hc⟩
  · exact .inl h
  · exact .inr ⟨g, c, rfl, Nat.lt_of_lt_of_le hl hb.size, fun j u hu => (hb.cell (p := ⟨g, j, none⟩) hl).trans (hc j u hu)⟩
theorem VR.put (h : VR w tv vs) {g i : Nat} {t : TypeId} {cs : Array Value} (u : Value) (hg : vs = [] ∨ ∀ k, tv.ownBlock = some k → k ≠ g) : VR (w.setCell ⟨g, i, none⟩ u) tv vs := by
  rcases h with h | ⟨k, c, rfl, hl, hc⟩
  · exact .inl h
  · refine .inr ⟨k, c, rfl, by simpa [World.setCell] using hl, fun j x hx => ?_⟩
    rcases hg with rfl | hg
    · simp [us] at hx
    rw [World.cell?_setCell_other w _ _ u (fun e => by injection e with e; exact hg k rfl e.symm)]
    exact hc j x hx
theorem VR.form (h : VR w tv vs) : ∃ p n c, tv = .slice p n c := by
  rcases h with ⟨p, c, rfl, _⟩ | ⟨g, c, rfl, _⟩
  · exact ⟨_, _, _, rfl⟩
  · exact ⟨_, _, _, rfl⟩
theorem VR.one (h : VR w tv vs) : tv.oneCell' = true := by
  rcases h with ⟨p, c, rfl, _⟩ | ⟨g, c, rfl, _⟩ <;> rfl
/-- a copy of a list of numbers: a row of its own -/
theorem CloneU_any (h : VR w tv vs) (hn : vs.length ≤ 1000000000) : Calls Try.prog 72 #[tv] w fun e w' => ∃ v', e = .returned v' ∧ VR w' v' vs ∧ (∀ k, v'.ownBlock = some k → w.heap.size ≤ k ∧ k < w'.heap.size) ∧ Below w.heap.size w w' := by
  have fin : ∀ (ad : Addr) (c : Nat), tv = .slice (some ad) vs.length c → (∀ o j u, (us vs)[j]? = some u → (w.alloc o).cell? (ad.add j) = some u) →
      Calls Try.prog 72 #[tv] w fun e w' => ∃ v', e = .returned v' ∧ VR w' v' vs ∧ (∀ k, v'.ownBlock = some k → w.heap.size ≤ k ∧ k < w'.heap.size) ∧ Below w.heap.size w w' := by
    rintro ad c rfl hc
    refine (CloneU_some w ad vs.length c vs (by simp [us]) hn hc).mono ?_
    rintro e w' ⟨v', rfl, ho, hb⟩
    refine ⟨v', rfl, VR_of (F := fun _ => True) (r := w'.heap.size) (.inr ⟨ho.2.elim (fun h => ⟨ho.1, .inl h⟩) (fun ⟨g, cap, cur, h1, _, h2⟩ => ⟨ho.1, .inr ⟨g, cap, cur, h1, Nat.zero_le _, h2⟩⟩), fun g e => ⟨trivial, by have := own_lt ho e; omega⟩⟩), fun k e => ⟨?_, own_lt ho e⟩, hb⟩
    rcases ho.2 with ⟨rfl, _⟩ | ⟨g, cap, cur, rfl, hg, _⟩
    · cases e
    · have : g = k := by simpa [Value.ownBlock] using e
      omega
  rcases h with ⟨p, c, rfl, rfl⟩ | ⟨g, c, rfl, hl, hc⟩
  · cases p with
    | none =>
      have heq := fun (w : World) (a : Option Addr) (n c n' c' : Nat) => Lib.run_eql_slice_nil (P := Try.prog) w 22 23 a n c n' c' Try.underlying22
      clear fin
      go_enter Try.func72, Try.ntmps72
      go_wp2
      go_ret
      exact ⟨_, rfl, .inl ⟨none, 0, rfl, rfl⟩, (by intro k e; cases e), Below.refl _ _⟩
    | some ad => exact fin ad c rfl (by intro o j u hu; simp [us] at hu)
  · refine fin ⟨g, 0, none⟩ c rfl fun o j u hu => ?_
    have e : ((⟨g, 0, none⟩ : Addr).add j) = ⟨g, j, none⟩ := by unfold Addr.add; split <;> simp_all
    rw [e, World.cell?_alloc_lt w o _ hl]
    exact hc j u hu
theorem flat_set : ∀ (rows : List (Acc × Value)) (i : Nat) (x : Acc × Value) (u : Value), rows[i]? = some x → (rows.flatMap accC).set (i * 8 + 5) u = (rows.set i (x.1, u)).flatMap accC
  | [], i, x, u, h => by simp at h
  | y :: l, 0, x, u, h => by
    obtain rfl : y = x := by simpa using h
    simp [List.flatMap_cons, accC]
  | y :: l, i + 1, x, u, h => by
    have h' : l[i]? = some x := by simpa using h
    rw [List.flatMap_cons, List.set_append_right _ _ (by rw [accC_len]; omega), accC_len, show (i + 1) * 8 + 5 - 8 = i * 8 + 5 from by omega, flat_set l i x u h', List.set_cons_succ, List.flatMap_cons]
theorem own_cold {base : Nat} {e : TypeId} {size n c g : Nat} {xs : List Value} (h : w.ownsRow base e size (.slice (some ⟨g, 0, none⟩) n c) n xs) (j : Nat) : w.frozen? ⟨g, j, none⟩ = false := by
  rcases h.2 with ⟨h0, _⟩ | ⟨g', cap, cur, hv, hb, hh, _⟩
  · cases h0
  · obtain rfl : g' = g := by injection hv with a b c; injection a with a; injection a with a; exact a.symm
    exact Blk.cold (t := e) hh j
theorem own_put {base : Nat} {e : TypeId} {size n c g j : Nat} {xs : List Value} (h : w.ownsRow base e size (.slice (some ⟨g, 0, none⟩) n c) n xs) (hj : j < n * size) (u : Value) :
    (w.setCell ⟨g, j, none⟩ u).ownsRow base e size (.slice (some ⟨g, 0, none⟩) n c) n (xs.set j u) := by
  refine ⟨by simpa using h.1, ?_⟩
  rcases h.2 with ⟨h0, _⟩ | ⟨g', cap, cur, hv, hb, hh, h1, h2, h3, h4⟩
  · cases h0
  · obtain ⟨rfl, rfl⟩ : g' = g ∧ cap = c := by injection hv with a b c; injection a with a; injection a with a; exact ⟨a.symm, c.symm⟩
    refine .inr ⟨g', cap, cur.setIfInBounds j u, rfl, hb, ?_, h1, h2, by simpa using h3, ?_⟩
    · exact Blk.put (t := e) hh j u
    · rw [← h4, Array.toList_setIfInBounds, List.take_set]
/-- a told list: its rows, and what lies in them -/
structure Told (w : World) (B : Nat) (v : Value) (tr : List Acc) : Prop where
  out : ∃ rows : List (Acc × Value), rows.map (·.1) = tr ∧ w.ownsRow B 124 8 v rows.length (rows.flatMap accC) ∧ ∀ x ∈ rows, VR w x.2 x.1.vals
theorem Trace_clone (h : PMx w F bm q r tv rows A) (ht : A.trace.length ≤ 1000000000) :
    Calls Try.prog 71 #[tv] w fun e w' => ∃ p cap, e = .returned (.slice p A.trace.length cap) ∧ ∃ rows' : List (Acc × Value), rows'.map (·.1) = A.trace ∧ w'.ownsRow w.heap.size 124 8 (.slice p A.trace.length cap) A.trace.length (rows'.flatMap accC) ∧ (∀ x ∈ rows', VR w' x.2 x.1.vals) ∧ (∀ x ∈ rows', x.1.vals = [] ∨ ∀ k, x.2.ownBlock = some k → k < w.heap.size) ∧ Below w.heap.size w w' := by
  have hl := h.len
  rcases h.own.2 with ⟨rfl, h0⟩ | ⟨g, cap, cur, rfl, _, hh, _⟩
  · refine (CloneA_nil w).mono ?_
    rintro e w' ⟨rfl, rfl⟩
    obtain rfl := List.length_eq_zero_iff.1 h0
    have h2 : A.trace = [] := by rw [← h.fst]; rfl
    rw [h2]
    exact ⟨none, 0, rfl, [], rfl, World.ownsRow_nil _ _ _ _, (by intro x hx; cases hx), (by intro x hx; cases hx), Below.refl _ _⟩
  · refine (CloneA_some w ⟨g, 0, none⟩ rows.length cap rows (flat_len rows) (by omega) ?_ (Blk.lt (t := 124) hh) (fun x hx => (h.vals x hx).one)).mono ?_
    · intro j u hu
      have e : ((⟨g, 0, none⟩ : Addr).add j) = ⟨g, j, none⟩ := by unfold Addr.add; split <;> simp_all
      rw [e]; exact own_cell h.own hu
    · rintro e w' ⟨v', rfl, ho, hb⟩
      rw [hl] at ho
      obtain ⟨p, c, rfl⟩ : ∃ p c, v' = .slice p A.trace.length c := by
        rcases ho.2 with ⟨rfl, h0⟩ | ⟨g', cap', cur', rfl, _⟩
        · exact ⟨none, 0, by rw [h0]⟩
        · exact ⟨_, _, rfl⟩
      refine ⟨p, c, rfl, rows, h.fst, ho, fun x hx => (VR_of (h.vals x hx)).below hb, fun x hx => ?_, hb⟩
      rcases h.vals x hx with ⟨p, c, h4, h5⟩ | ⟨h4, _⟩
      · exact .inl h5
      · exact .inr fun k hk => own_lt h4 hk
set_option maxRecDepth 100000 in
theorem Trace_x (h : PMx w F bm q r tv rows A) (ht : A.trace.length ≤ 1000000000) (hvs : ∀ x ∈ A.trace, x.vals.length ≤ 1000000000) :
    Calls Try.prog 45 #[.pointer (some ⟨bm, 0, none⟩)] w fun e w' => ∃ p cap, e = .returned (.slice p A.trace.length cap) ∧ Told w' w.heap.size (.slice p A.trace.length cap) A.trace ∧ Below w.heap.size w w' := by
  have c1 : w.cell? ⟨bm, 2, none⟩ = some tv := h.bM.cell 2
  have HA := Lib.hid (Trace_clone h ht)
  clear h
  generalize htr : A.trace = tr at *
  clear htr
  have Hvs := Lib.hid hvs
  clear hvs
  generalize hnn : tr.length = n at *
  have Hn := Lib.hid hnn
  clear hnn
  go_enter Try.func45, Try.ntmps45
  go_wp2_with fail
  refine HA.out.mono ?_
  rintro e w1 ⟨p, cap, rfl, rows1, hf1, ho1, hv1, hd1, hb1⟩
  have hsz := hb1.size
  go_wp2_with fail
  go_loopw [14] (fun i wr => ∃ (k : Nat) (rows2 : List (Acc × Value)), i = .int .i64 k ∧ k ≤ n ∧ rows2.map (·.1) = tr ∧ wr.ownsRow w.heap.size 124 8 (.slice p n cap) n (rows2.flatMap accC) ∧ (∀ x ∈ rows2, VR wr x.2 x.1.vals) ∧ (∀ x ∈ rows2, x.1.vals = [] ∨ ∀ g, x.2.ownBlock = some g → some g ≠ (Value.slice p n cap).ownBlock) ∧ Below w.heap.size w wr ∧ (∀ g, (Value.slice p n cap).ownBlock = some g → g < wr.heap.size)) (fun i _ => n - (intOf i).toNat)
  case atStart =>
    refine ⟨0, rows1, rfl, Nat.zero_le _, hf1, ho1, hv1, fun x hx => ?_, hb1, fun g e => own_lt ho1 e⟩
    rcases hd1 x hx with h0 | h0
    · exact .inl h0
    · refine .inr fun g e e' => ?_
      have := h0 g e
      rcases ho1.2 with ⟨e2, _⟩ | ⟨g', cap', cur', e2, hg', _⟩
      · rw [e2] at e'; cases e'
      · rw [e2] at e'
        have : g = g' := by simpa [Value.ownBlock] using e'
        omega
  case round =>
    obtain ⟨k, rows2, rfl, hk, hf2, ho2, hv2, hd2, hb2, hg2⟩ := hrel
    by_cases hlt : k < n
    · have hlr : rows2.length = n := by have := congrArg List.length hf2; rw [List.length_map] at this; rw [this]; exact Hn.out
      obtain ⟨x, hx⟩ : ∃ x, rows2[k]? = some x := ⟨rows2[k], List.getElem?_eq_getElem (by omega)⟩
      have hxm : x ∈ rows2 := List.mem_of_getElem? hx
      obtain ⟨g, cap', hv, hbase, hgl⟩ := ho2.form (by omega)
      obtain ⟨rfl, rfl⟩ : p = some ⟨g, 0, none⟩ ∧ cap = cap' := by injection hv with a b c; exact ⟨a, c⟩
      clear hv
      have d1 : wr.cell? ⟨g, k * 8 + 5, none⟩ = some x.2 := own_cell ho2 ((flat_at rows2 k 5 x hx (by omega)).trans rfl)
      have hxv := hv2 x hxm
      have hlen : x.1.vals.length ≤ 1000000000 := Hvs.out _ (by rw [← hf2]; exact List.mem_map.2 ⟨x, hxm, rfl⟩)
      have HC := Lib.hid (CloneU_any hxv hlen)
      have HX := Lib.hid hx
      have HLR := Lib.hid hlr
      have HF := Lib.hid hf2
      have HV := Lib.hid hv2
      have HD := Lib.hid hd2
      have HG := Lib.hid hg2
      clear hx hlr hf2 hv2 hd2 hg2 hxv hlen hv1 hd1 hf1 ho1
      generalize hu : x.2 = u at d1 HC
      have HU := Lib.hid hu
      clear hu
      go_wp2_with fail
      refine HC.out.mono ?_
      rintro e w2 ⟨v', rfl, hv', hnew, hbb⟩
      obtain ⟨p', n', c', rfl⟩ := hv'.form
      have ho3 := own_fr ho2 (Fr.of_below (S := fun _ => False) hbb) (fun _ _ e => e)
      have d2 : w2.cell? ⟨g, k * 8 + 5, none⟩ = some u := (hbb.cell (p := ⟨g, k * 8 + 5, none⟩) hgl).trans d1
      have f2 := own_cold ho3 (k * 8 + 5)
      have hb3 : Below w.heap.size w (w2.setCell ⟨g, k * 8 + 5, none⟩ (.slice p' n' c')) := (hb2.trans (hbb.mono hb2.size)).setCell (p := ⟨g, k * 8 + 5, none⟩) hbase (.slice p' n' c')
      have HB := Lib.hid hb3
      have HB2 := Lib.hid hbb
      have HV' := Lib.hid hv'
      have HN' := Lib.hid hnew
      have ho4 := own_put ho3 (j := k * 8 + 5) (by omega) (.slice p' n' c')
      rw [flat_set rows2 k x (.slice p' n' c') HX.out] at ho4
      have HO := Lib.hid ho4
      have hsz2 := hbb.size
      clear d1 hb3 hbb hv' hnew ho4 ho3 hb2 ho2
      go_wp2_with fail
      go_roundw
      case rel =>
        refine ⟨k + 1, rows2.set k (x.1, (.slice p' n' c')), by go_num, by omega, ?_, HO.out, ?_, ?_, HB.out, ?_⟩
        · have hkl : k < rows2.length := by rw [HLR.out]; exact hlt
          have hx' : rows2[k] = x := by have := HX.out; rw [List.getElem?_eq_getElem hkl] at this; injection this
          rw [List.map_set, ← HF.out]
          apply List.ext_getElem?
          intro i
          rw [List.getElem?_set]
          split
          · rename_i e; subst e; simp [hkl, hx']
          · rfl
        · intro y hy
          rcases List.mem_or_eq_of_mem_set hy with hy | rfl
          · have h2 := (HV.out y hy).below HB2.out
            exact h2.put (g := g) (i := k * 8 + 5) (t := 124) (cs := #[]) (.slice p' n' c') (by
              rcases HD.out y hy with h0 | h0
              · exact .inl h0
              · exact .inr fun j hj e => h0 j hj (by rw [e]; rfl))
          · refine VR.put (HV'.out) (t := 124) (cs := #[]) (.slice p' n' c') (.inr fun j hj e => ?_)
            have := (HN'.out j hj).1
            omega
        · intro y hy
          rcases List.mem_or_eq_of_mem_set hy with hy | rfl
          · exact HD.out y hy
          · refine .inr fun j hj e => ?_
            have := (HN'.out j hj).1
            have e : j = g := by simpa [Value.ownBlock] using e
            omega
        · intro j e
          have := HG.out j e
          simp [World.setCell]; omega
      case measure => simp [intOf]; omega
    · go_wp2
      go_ret
      have hkn : k = n := by omega
      refine ⟨p, cap, rfl, ⟨rows2, hf2, ?_, hv2⟩, hb2⟩
      have hlr : rows2.length = n := by have := congrArg List.length hf2; rw [List.length_map] at this; rw [this]; exact Hn.out
      rw [hlr]; exact ho2
end
end Go.Proofs.Ytenlgfagfpaenaa

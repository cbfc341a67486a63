/-
  StArgs, RMem: the texts of the proof, merged. No condition.
-/
import Derived.Test.YtkaplifhaafpdaaM07
import Derived.Deep.Slices
import Derived.Deep.Fields
import Derived.ChangeSame
import Derived.Lib.SmallJoins
import Derived.ProofKit
import Derived.OpenShut
import Derived.Test.YtkaplifhaafpdaaM02
section
/-
  What an argument holds: rows of ints. No condition.
-/
namespace Go.Proofs.Ytkaplifhaafpdaa.sargs
open Go Go.Joins Go.ChangeShapes Go.WideShapes Go.RowKit Go.Deep
set_option linter.unusedVariables false
set_option maxRecDepth 100000
theorem one_le {H : Type} (d : DataW H) : 1 ≤ Rows.uptoBulk d := by
  cases d with
  | lit l => cases l <;> simp [Rows.uptoBulk]
  | nil => simp [Rows.uptoBulk]
  | ptr d => simp [Rows.uptoBulk]
  | slice elems spare => simp [Rows.uptoBulk]
  | agg parts => simp [Rows.uptoBulk]
  | iface t d => simp [Rows.uptoBulk]
  | map entries => simp [Rows.uptoBulk]
  | held h => simp [Rows.uptoBulk]
theorem part_le {H : Type} {d : DataW H} {l : List (DataW H)} (h : d ∈ l) : Rows.uptoBulk d ≤ Rows.uptoBulkAll l := by
  induction l with
  | nil => cases h
  | cons x r ih =>
    simp only [Rows.uptoBulkAll]
    cases List.mem_cons.1 h with
    | inl e => subst e; omega
    | inr e => have := ih e; omega
theorem length_le {H : Type} (l : List (DataW H)) : l.length ≤ Rows.uptoBulkAll l := by
  induction l with
  | nil => simp [Rows.uptoBulkAll]
  | cons x r ih => have := one_le x; simp only [Rows.uptoBulkAll, List.length_cons]; omega
section
variable {H : Type} {enc : TypeId × Value → H} {P : Program} {w : World} {base : Nat} {spare : Nat → Bool} {held : Bool}
theorem open_slice_fields {t e : TypeId} {fs : Array Field} {fuel : Nat} {cs : List Value} {x : DataW H × List MemPlace} (ht : P.underlying t = some (.slice e)) (he : P.underlying e = some (.struct fs))
    (hone : oneCellFields P fs = true) (hC : P.cellsOf e = fs.size) (h : DataW.trod enc P w base spare held fuel t cs = some x) :
    (cs = [.slice none 0 0] ∧ x = (.nil, [])) ∨
    ∃ (a : Addr) (len cap m : Nat) (D : Nat → DataW H) (Pl : Nat → List MemPlace), cs = [.slice (some a) len cap] ∧ base ≤ a.block ∧ len ≤ cap ∧ cap ≤ maxLen ∧ m = (if spare a.block then cap else len) ∧
      x = (.slice ((List.range len).map D) ((List.range (m - len)).map fun j => D (len + j)), MemPlace.row a (m * fs.size) ++ (List.range m).flatMap Pl) ∧
      ∀ i, i < m → ∃ (ys : List (DataW H × List MemPlace)) (n : Nat), D i = .agg (ys.map (·.1)) ∧ Pl i = ys.flatMap (·.2) ∧ ys.length = fs.size ∧
        ∀ (j : Nat) (f : Field), fs[j]? = some f → ∃ (v : Value) (y : DataW H × List MemPlace), w.cell? (a.add (i * fs.size + j)) = some v ∧ ys[j]? = some y ∧ DataW.trod enc P w base spare held n f.type [v] = some y := by
  rcases open_slice ht h with h0 | ⟨a, len, cap, m, n, D, Pl, hcs, hb, hl, hm, hmm, hx, hi⟩
  · exact .inl h0
  · refine .inr ⟨a, len, cap, m, D, Pl, hcs, hb, hl, hm, hmm, by rw [hC] at hx; exact hx, fun i him => ?_⟩
    obtain ⟨cs', hc, ht'⟩ := hi i him
    rw [hC] at hc
    obtain ⟨ys, n', hn', hy, hlen, hyl, hf⟩ := DataW.trod_struct he ht'
    obtain ⟨_, hcl, hat⟩ := World.cells?_some hc
    simp only [Prod.mk.injEq] at hy
    refine ⟨ys, n', hy.1, hy.2, hyl, fun j f hj => ?_⟩
    obtain ⟨ho, hk⟩ := hone_of hone j f hj
    have hjl : j < fs.size := (Array.getElem?_eq_some_iff.1 hj).1
    have hcell := hat j hjl
    have hv : cs'[j]? = some (cs'[j]'(by omega)) := List.getElem?_eq_getElem (by omega)
    have h1 := hf j f hj
    rw [ho, hk] at h1
    have hone' : (cs'.drop j).take 1 = [cs'[j]'(by omega)] := by
      rw [List.drop_eq_getElem_cons (by omega)]
      rfl
    rw [hone'] at h1
    have hys : ys[j]? = some (ys[j]'(by omega)) := List.getElem?_eq_getElem (by omega)
    refine ⟨_, _, ?_, hys, h1.trans hys⟩
    rw [← Go.Deep.add_add, hcell, hv]
end
theorem add_none (b o i : Nat) : (⟨b, o, none⟩ : Addr).add i = ⟨b, o + i, none⟩ := by
  unfold Addr.add; split <;> simp_all
theorem cell_form {w : World} {a : Addr} {v : Value} (h : w.cell? a = some v) : a = ⟨a.block, a.off, none⟩ ∧ a.block < w.heap.size := by
  refine ⟨?_, ?_⟩
  · obtain ⟨b, o, s⟩ := a
    have hs : s = none := by simpa using World.cell?_spot h
    subst hs; rfl
  · rcases Nat.lt_or_ge a.block w.heap.size with h1 | h1
    · exact h1
    · simp [World.cell?, Array.getElem?_eq_none h1] at h
theorem choose_list {α : Type} {n : Nat} {Q : Nat → α → Prop} (h : ∀ i, i < n → ∃ x, Q i x) : ∃ L : List α, L.length = n ∧ ∀ (i : Nat) (x : α), L[i]? = some x → Q i x := by
  induction n with
  | zero => exact ⟨[], rfl, fun i x hx => by simp at hx⟩
  | succ n ih =>
    obtain ⟨L, hl, hL⟩ := ih (fun i hi => h i (by omega))
    obtain ⟨x, hx⟩ := h n (by omega)
    refine ⟨L ++ [x], by simp [hl], fun i y hy => ?_⟩
    by_cases hi : i < n
    · rw [List.getElem?_append_left (by omega)] at hy
      exact hL i y hy
    · have := (List.getElem?_eq_some_iff.1 hy).1
      obtain rfl : i = n := by simp at this; omega
      rw [List.getElem?_append_right (by omega), hl] at hy
      simp at hy
      subst hy; exact hx
section
variable {H : Type} {enc : TypeId × Value → H} {W : World}
theorem ints_words {n : Nat} {u : Value} {x : DataW H × List MemPlace} (h : DataW.trod enc Try.prog W 0 (fun _ => true) true n 46 [u] = some x) : ∃ vs : List Int, Reads W u (is64 vs) ∧ vs.length + 1 ≤ Rows.uptoBulk x.1 ∧ ∀ y ∈ vs, -9223372036854775808 ≤ y ∧ y ≤ 9223372036854775807 := by
  rcases open_ints Try.underlying46 Try.underlying3 (by kernel_rfl) h with ⟨hu, rfl⟩ | ⟨a, len, cap, zs, hu, _, hl, _, hz, rfl, hcell, hwf⟩
  · injection hu with hu; subst hu
    exact ⟨[], ⟨none, 0, rfl, fun _ => rfl, fun j x hx => by simp [is64] at hx⟩, by simp [Rows.uptoBulk], by intro y hy; cases hy⟩
  · injection hu with hu; subst hu
    simp only [if_true] at hz
    refine ⟨zs.take len, ⟨some a, cap, by simp [is64]; omega, (by intro e; cases e), ?_⟩, ?_, ?_⟩
    · intro j v hj
      have hjl := (List.getElem?_eq_some_iff.1 hj).1
      simp [is64] at hjl
      have hc := hcell j (by omega)
      have hc0 := hcell 0 (by omega)
      obtain ⟨ea, hbl⟩ := cell_form (show W.cell? a = _ from by simpa [Addr.add] using hc0)
      refine ⟨a.block, a.off, by rw [← ea], hbl, ?_⟩
      rw [← add_none, ← ea, hc, ← hj]
      simp [is64, List.getD_eq_getElem?_getD, List.getElem?_take_of_lt (show j < len by omega), show j < zs.length by omega]
    · have := length_le (lits (H := H) .i64 (zs.take len))
      simp only [Rows.uptoBulk]
      simp only [lits, List.length_map, List.length_take] at this ⊢
      omega
    · intro y hy
      have := hwf y (List.mem_of_mem_take hy)
      simp [Lit.wf, IntKind.min, IntKind.max, IntKind.bits, IntKind.signed] at this
      omega
end
end Go.Proofs.Ytkaplifhaafpdaa.sargs
end
section
/-
  The document's memory in the heap; its note: an access is written down, if it is not a live one. No condition.
-/
namespace Go.Proofs.Ytkaplifhaafpdaa
open Go Go.RowKit
set_option linter.unusedSimpArgs false
set_option linter.unusedVariables false
/-- the document's memory lies at rm, all of it within F -/
structure RMx (w : World) (F : Nat → Prop) (rm r : Nat) (tv : Value) (rows : List (Acc × Value)) (lv : Bool) (A : Mem) : Prop where
  bM : Blk w rm 87 #[.slice (some ⟨r, 0, none⟩) A.cells.length A.cells.length, .int .i64 A.next, tv, .bool lv]
  bR : Blk w r 22 (us A.cells).toArray
  own : w.ownsRow 0 120 8 tv rows.length (rows.flatMap accC)
  fst : rows.map (·.1) = A.trace
  vals : ∀ x ∈ rows, Vals w F r x.2 x.1.vals
  fM : F rm
  fR : F r
  fT : ∀ g, tv.ownBlock = some g → F g
def RM (w : World) (F : Nat → Prop) (rm : Nat) (lv : Bool) (A : Mem) : Prop := ∃ r tv rows, RMx w F rm r tv rows lv A
/-- what a call leaves -/
def RDid (w w' : World) (F : Nat → Prop) (rm : Nat) (lv : Bool) (A : Mem) : Prop := RM w' (Ext F w) rm lv A ∧ Fr F w w'
section
variable {w w' : World} {F G S : Nat → Prop} {rm r : Nat} {tv v : Value} {rows : List (Acc × Value)} {A : Mem} {vs : List Int} {lv : Bool}
theorem RMx.wide (h : RMx w F rm r tv rows lv A) (hF : ∀ k, F k → G k) : RMx w G rm r tv rows lv A :=
  ⟨h.bM, h.bR, h.own, h.fst, fun x hx => (h.vals x hx).wide hF, hF _ h.fM, hF _ h.fR, fun g e => hF g (h.fT g e)⟩
theorem RMx.fr (h : RMx w F rm r tv rows lv A) (hf : Fr S w w') (hS : ∀ k, F k → ¬ S k) : RMx w' F rm r tv rows lv A :=
  ⟨h.bM.fr hf (hS _ h.fM), h.bR.fr hf (hS _ h.fR), own_fr h.own hf fun g e => hS g (h.fT g e), h.fst, fun x hx => (h.vals x hx).fr hf fun k hk _ _ => hS k hk, h.fM, h.fR, h.fT⟩
theorem RM.wide (h : RM w F rm lv A) (hF : ∀ k, F k → G k) : RM w G rm lv A := by
  obtain ⟨r, tv, rows, h⟩ := h
  exact ⟨r, tv, rows, h.wide hF⟩
theorem RM.fr (h : RM w F rm lv A) (hf : Fr S w w') (hS : ∀ k, F k → ¬ S k) : RM w' F rm lv A := by
  obtain ⟨r, tv, rows, h⟩ := h
  exact ⟨r, tv, rows, h.fr hf hS⟩
theorem RMx.len (h : RMx w F rm r tv rows lv A) : rows.length = A.trace.length := by rw [← h.fst]; simp
theorem RDid.pre {w1 : World} (h : RDid w1 w' F rm lv A) (hf : Fr F w w1) : RDid w w' F rm lv A :=
  ⟨h.1.wide (fun k hk => by rcases hk with hk | hk; exact .inl hk; exact .inr (Nat.le_trans hf.size hk)), hf.trans h.2⟩
theorem RMx.rowcell (h : RMx w F rm r tv rows lv A) {i : Nat} (hi : i < A.cells.length) : w.cell? ⟨r, i, none⟩ = some (.int .u64 (A.cells.getD i 0)) := by
  rw [h.bR.cell i]; simp [us, hi, List.getD_eq_getElem?_getD]
theorem RMx.put (h : RMx w F rm r tv rows lv A) (i : Nat) (u : Int) : RMx (w.setCell ⟨r, i, none⟩ (.int .u64 u)) F rm r tv rows lv (A.put i u) ∧ Fr F w (w.setCell ⟨r, i, none⟩ (.int .u64 u)) := by
  have f : Fr (fun b => b = r) w (w.setCell ⟨r, i, none⟩ (.int .u64 u)) := (Fr.refl (fun b => b = r) w).put (p := ⟨r, i, none⟩) (.inl rfl) _
  refine ⟨⟨?_, (h.bR.put i _).eq ?_, own_fr h.own f ?_, h.fst, ?_, h.fM, h.fR, h.fT⟩, f.mono ?_⟩
  · have := h.bM.fr f (Blk.ne h.bM h.bR (by decide))
    simpa [Mem.put] using this
  · simp [Mem.put, us, List.map_set]
  · intro g e hg; subst hg; exact own_ne h.own h.bR (by decide) e
  · intro y hy
    exact (h.vals y hy).fr f fun k _ hk _ e => hk e
  · rintro k _ rfl; exact h.fR
theorem rnote_end {x : Acc} {u : Value} {w1 w2 : World} {o : Obj} {g cap : Nat} (h : RMx w F rm r tv rows false A) (hu : Vals w F r u x.vals)
    (hfr : Fr (fun _ => False) w w1)
    (hown : w2.ownsRow 0 120 8 (.slice (some ⟨g, 0, none⟩) (rows.length + 1) cap) (rows.length + 1) (rows.flatMap accC ++ accC (x, u)))
    (hgrow : (w1.alloc o).drew.grownBy w2 tv.ownBlock) (hat : tv.ownBlock = some g ∨ g = (w1.alloc o).drew.heap.size) :
    RDid w (w2.setCell ⟨rm, 2, none⟩ (.slice (some ⟨g, 0, none⟩) (rows.length + 1) cap)) F rm false (A.note x) := by
  have hnb : some rm ≠ tv.ownBlock := fun e => own_ne h.own h.bM (by decide) e.symm
  have hM1 : Blk w1 rm 87 _ := h.bM.fr hfr (fun e => e)
  have hM2 : Blk w2 rm 87 _ := (show Blk ((w1.alloc o).drew) rm 87 _ from hM1.alloc _).grown hgrow hnb
  have f1 : Fr (fun b => tv.ownBlock = some b ∨ b = rm) w ((w1.alloc o).drew) := ((hfr.mono (fun k _ hk => hk.elim)).alloc o).drawn 1
  have f2 := (f1.grown hgrow (fun k hk => .inl (.inl hk))).put (p := ⟨rm, 2, none⟩) (.inl (.inr rfl)) (.slice (some ⟨g, 0, none⟩) (rows.length + 1) cap)
  have hsz : w.heap.size ≤ (w1.alloc o).drew.heap.size := f1.size
  have hgb : g ≠ rm := fun e => by subst e; exact own_ne hown hM2 (by decide) rfl
  have hF : ∀ b, F b → Ext F w b := fun b hb => .inl hb
  refine ⟨⟨r, _, rows ++ [(x, u)], ⟨(hM2.put 2 _).eq rfl, h.bR.fr f2 ?_, ?_, by simp [h.fst, Mem.note], ?_, .inl h.fM, .inl h.fR, ?_⟩⟩, f2.mono ?_⟩
  · rintro (e | e)
    · exact own_ne h.own h.bR (by decide) e
    · exact Blk.ne h.bR h.bM (by decide) e
  · have := own_fr hown ((Fr.refl (fun b => b = rm) w2).put (p := ⟨rm, 2, none⟩) (.inl rfl) (.slice (some ⟨g, 0, none⟩) (rows.length + 1) cap)) (by intro g' e; simp [Value.ownBlock] at e; subst e; exact hgb)
    simpa using this
  · have hT : ∀ k, (∃ cs, Blk w k 22 cs) → ¬ (tv.ownBlock = some k ∨ k = rm) := by
      rintro k ⟨cs, hk⟩ (e | e)
      · exact own_ne h.own hk (by decide) e
      · exact Blk.ne hk h.bM (by decide) e
    intro y hy
    rw [List.mem_append] at hy
    rcases hy with hy | hy
    · exact ((h.vals y hy).fr f2 fun k _ _ hk => hT k hk).wide hF
    · rw [List.mem_singleton] at hy; subst hy
      exact (hu.fr f2 fun k _ _ hk => hT k hk).wide hF
  · intro g' e
    have e : g = g' := by simpa [Value.ownBlock] using e
    subst e
    rcases hat with hat | hat
    · exact .inl (h.fT g hat)
    · right; omega
  · rintro k _ (e | e)
    · exact h.fT k e
    · subst e; exact h.fM
set_option maxHeartbeats 1000000 in
set_option maxRecDepth 100000 in
theorem rnote_any (h : RMx w F rm r tv rows false A) (x : Acc) (u : Value) (hu : Vals w F r u x.vals) (hn : rows.length ≤ 1000000000) :
    Calls Try.prog 78 #[.pointer (some ⟨rm, 0, none⟩), .agg (accC (x, u)).toArray] w fun e w' => e = .returned (.tuple #[]) ∧ RDid w w' F rm false (A.note x) := by
  have h1 := hu.one
  have HE := @rnote_end w F rm r tv rows A x u
  have d1 : w.cell? ⟨rm, 3, none⟩ = some (.bool false) := h.bM.cell 3
  have hlm := Blk.lt h.bM
  have HE' := Lib.hid (fun w1 w2 o g cap => @HE w1 w2 o g cap h hu)
  clear HE
  have hfr := (Fr.refl (fun _ => False) w).alloc (Obj.cells (accC (x, u)).toArray 120)
  have hb := Blk.made w 120 (accC (x, u)).toArray
  have hown1 := own_fr h.own hfr (by intro g hg e; exact e)
  have hbm : Blk (w.alloc (Obj.cells (accC (x, u)).toArray 120)) rm 87 _ := h.bM.alloc _
  have hbv : w.heap.size ≠ rm := by omega
  have hnx : some w.heap.size ≠ tv.ownBlock := fun e => by have := own_lt h.own e.symm; omega
  have hnb : some rm ≠ tv.ownBlock := fun e => own_ne h.own h.bM (by decide) e.symm
  simp only [accC] at *
  go_enter Try.func78, Try.ntmps78
  go_wp2_with fail
  generalize w.alloc _ = w1 at *
  have hb' := hb
  have e2 : w1.cell? ⟨rm, 2, none⟩ = some tv := hbm.cell 2
  have n2 : ∀ o, (w1.alloc o).cell? ⟨rm, 2, none⟩ = some tv := fun o => (Blk.alloc hbm o).cell 2
  generalize hbb : w.heap.size = bx at hb hb' hnx hbv ⊢
  obtain ⟨i0, hi, hz0, hz1, hz2⟩ := info_parts infoA
  have SX : ∀ w' cb, Blk w' bx 120 cb → cb = #[.int .i64 x.thread, .int .u8 x.kind, .int .u64 x.addr, .int .u64 x.a, .int .u64 x.b, u, .int .u64 x.got, .bool x.ok] →
     w'.cell? ⟨bx, 0, none⟩ = some (.int .i64 x.thread) ∧ w'.cell? ⟨bx, 1, none⟩ = some (.int .u8 x.kind) ∧ w'.cell? ⟨bx, 2, none⟩ = some (.int .u64 x.addr) ∧ w'.cell? ⟨bx, 3, none⟩ = some (.int .u64 x.a) ∧
     w'.cell? ⟨bx, 4, none⟩ = some (.int .u64 x.b) ∧ w'.cell? ⟨bx, 5, none⟩ = some u ∧ w'.cell? ⟨bx, 6, none⟩ = some (.int .u64 x.got) ∧ w'.cell? ⟨bx, 7, none⟩ = some (.bool x.ok) := by
    intro w' cb h3 h4
    subst h4
    exact ⟨h3.cell 0, h3.cell 1, h3.cell 2, h3.cell 3, h3.cell 4, h3.cell 5, h3.cell 6, h3.cell 7⟩
  have HSX := Lib.hid SX
  have Hfr := Lib.hid hfr
  clear SX hfr hb hbb d1
  refine wp_region_held_drew (S := (fun w' => w'.cell? ⟨bx, 0, none⟩ = some (.int .i64 x.thread) ∧ w'.cell? ⟨bx, 1, none⟩ = some (.int .u8 x.kind) ∧ w'.cell? ⟨bx, 2, none⟩ = some (.int .u64 x.addr) ∧ w'.cell? ⟨bx, 3, none⟩ = some (.int .u64 x.a) ∧
     w'.cell? ⟨bx, 4, none⟩ = some (.int .u64 x.b) ∧ w'.cell? ⟨bx, 5, none⟩ = some u ∧ w'.cell? ⟨bx, 6, none⟩ = some (.int .u64 x.got) ∧ w'.cell? ⟨bx, 7, none⟩ = some (.bool x.ok))) (by kernel_rfl) (HSX.out _ _ (show Blk w1.drew bx 120 _ from hb') rfl) (fun hHeld => ?_)
  refine wpAnyH_take (i := 0) (v := ?vv1) rfl (by kernel_rfl) (by kernel_rfl) (by kernel_rfl) (fun _ _ _ h => h) (Or.inl ⟨by rfl, ?hy1⟩) hHeld ?rest1
  case hy1 => first | (intro w hSw; (try dsimp only at hSw); go_simp; done) | (intro w hSw; (try dsimp only at hSw); go_simp; with_reducible rfl)
  try simp only [Act.put, List.setIfInBounds_toArray, List.set_cons_zero, List.set_cons_succ]
  refine wpAnyH_take (i := 1) (v := ?vv2) rfl (by kernel_rfl) (by kernel_rfl) (by kernel_rfl) (fun _ _ _ h => h) (Or.inl ⟨by rfl, ?hy2⟩) hHeld ?rest2
  case hy2 => first | (intro w hSw; (try dsimp only at hSw); go_simp; done) | (intro w hSw; (try dsimp only at hSw); go_simp; with_reducible rfl)
  try simp only [Act.put, List.setIfInBounds_toArray, List.set_cons_zero, List.set_cons_succ]
  refine wpAnyH_take (i := 2) (v := ?vv3) rfl (by kernel_rfl) (by kernel_rfl) (by kernel_rfl) (fun _ _ _ h => h) (Or.inl ⟨by rfl, ?hy3⟩) hHeld ?rest3
  case hy3 => first | (intro w hSw; (try dsimp only at hSw); go_simp; done) | (intro w hSw; (try dsimp only at hSw); go_simp; with_reducible rfl)
  try simp only [Act.put, List.setIfInBounds_toArray, List.set_cons_zero, List.set_cons_succ]
  refine wpAnyH_take (i := 3) (v := ?vv4) rfl (by kernel_rfl) (by kernel_rfl) (by kernel_rfl) (fun _ _ _ h => h) (Or.inl ⟨by rfl, ?hy4⟩) hHeld ?rest4
  case hy4 => first | (intro w hSw; (try dsimp only at hSw); go_simp; done) | (intro w hSw; (try dsimp only at hSw); go_simp; with_reducible rfl)
  try simp only [Act.put, List.setIfInBounds_toArray, List.set_cons_zero, List.set_cons_succ]
  refine wpAnyH_take (i := 5) (v := ?vv5) rfl (by kernel_rfl) (by kernel_rfl) (by kernel_rfl) (fun _ _ _ h => h) (Or.inl ⟨by rfl, ?hy5⟩) hHeld ?rest5
  case hy5 => first | (intro w hSw; (try dsimp only at hSw); go_simp; done) | (intro w hSw; (try dsimp only at hSw); go_simp; with_reducible rfl)
  try simp only [Act.put, List.setIfInBounds_toArray, List.set_cons_zero, List.set_cons_succ]
  refine wpAnyH_ready (rs := [4, 6]) (by kernel_rfl) (by simp) ?_
  refine AllReadyH.cons rfl (fun K hK => ?_) (AllReadyH.cons rfl (fun K hK => ?_) AllReadyH.nil)
  · go_simp
    refine hK.out _ _ hHeld (fun hHeld => ?_)
    clear hK K
    refine wpAnyH_ready (rs := [6]) (by kernel_rfl) (by simp) ?_
    refine AllReadyH.cons rfl (fun K hK => ?_) AllReadyH.nil
    go_simp
    refine hK.out _ _ (HSX.out _ _ (Blk.alloc hb' _) rfl) (fun hHeld => ?_)
    clear hK K
    refine wpAnyH_ready (rs := [7]) (by kernel_rfl) (by simp) ?_
    refine AllReadyH.cons rfl (fun K hK => ?_) AllReadyH.nil
    refine step_append_lies _ rfl _ _ 84 rfl 0 120 i0 _ 8 80 Try.underlying84 hi hz0 hz1 hz2 rfl (by decide) _ _ _ rfl (hown1.alloc _) ⟨w1.heap.size, 0, none⟩ 1 1 [.int .i64 x.thread, .int .u8 x.kind, .int .u64 x.addr, .int .u64 x.a, .int .u64 x.b, u, .int .u64 x.got, .bool x.ok] rfl rfl (World.news_of_block (heap_alloc_new _ _)) (by simpa [Value.oneCell'] using h1) (by decide) (by unfold maxLen;omega) (by omega) (Nat.zero_le _) _ rfl ?_
    intro g cap w2 hown2 hgrow hat hlt
    replace hgrow : (w1.alloc _).drew.grownBy w2 tv.ownBlock := hgrow
    replace hat : tv.ownBlock = some g ∨ g = _ := hat
    have q0 := (show Blk ((w1.alloc _).drew) rm 87 _ from hbm.alloc _).grown hgrow hnb
    have q1 : w2.cell? ⟨rm, 2, none⟩ = some tv := q0.cell 2
    have q2 := q0.cold 2
    have q4 := (show Blk ((w1.alloc _).drew) bx 120 _ from Blk.alloc hb' _).grown hgrow hnx
    have HH := Lib.hid (HE'.out _ _ _ _ _ Hfr.out hown2 hgrow hat)
    refine hK.out _ _ (HSX.out _ _ q4 rfl) (fun hHeld => ?_)
    clear hK K
    refine wpAnyH_take (i := 8) (v := ?vv6) rfl (by kernel_rfl) (by kernel_rfl) (by kernel_rfl) (fun _ _ _ h => h) (Or.inl ⟨by rfl, ?hy6⟩) hHeld ?rest6
    case hy6 => first | (intro w hSw; (try dsimp only at hSw); go_simp; done) | (intro w hSw; (try dsimp only at hSw); go_simp; with_reducible rfl)
    try simp only [Act.put, List.setIfInBounds_toArray, List.set_cons_zero, List.set_cons_succ]
    refine wpAnyH_take (i := 9) (v := ?vv7) rfl (by kernel_rfl) (by kernel_rfl) (by kernel_rfl) (fun _ _ _ h => h) (Or.inl ⟨by rfl, ?hy7⟩) hHeld ?rest7
    case hy7 => first | (intro w hSw; (try dsimp only at hSw); go_simp; done) | (intro w hSw; (try dsimp only at hSw); go_simp; with_reducible rfl)
    try simp only [Act.put, List.setIfInBounds_toArray, List.set_cons_zero, List.set_cons_succ]
    refine wpAnyH_ready (rs := [10]) (by kernel_rfl) (by simp) ?_
    refine AllReadyH.cons rfl (fun K hK => ?_) AllReadyH.nil
    go_simp
    refine hK.out _ _ (HSX.out _ _ (Blk.far q4 hbv _) rfl) (fun hHeld => ?_)
    clear hK K
    refine wpAnyH_done (by kernel_rfl) ?_ _
    go_end0
    exact ⟨rfl, HH.out⟩
  · go_simp
    refine hK.out _ _ (HSX.out _ _ (Blk.alloc hb' _) rfl) (fun hHeld => ?_)
    clear hK K
    refine wpAnyH_ready (rs := [4]) (by kernel_rfl) (by simp) ?_
    refine AllReadyH.cons rfl (fun K hK => ?_) AllReadyH.nil
    go_simp
    refine hK.out _ _ (hHeld) (fun hHeld => ?_)
    clear hK K
    refine wpAnyH_ready (rs := [7]) (by kernel_rfl) (by simp) ?_
    refine AllReadyH.cons rfl (fun K hK => ?_) AllReadyH.nil
    refine step_append_lies _ rfl _ _ 84 rfl 0 120 i0 _ 8 80 Try.underlying84 hi hz0 hz1 hz2 rfl (by decide) _ _ _ rfl (hown1.alloc _) ⟨w1.heap.size, 0, none⟩ 1 1 [.int .i64 x.thread, .int .u8 x.kind, .int .u64 x.addr, .int .u64 x.a, .int .u64 x.b, u, .int .u64 x.got, .bool x.ok] rfl rfl (World.news_of_block (heap_alloc_new _ _)) (by simpa [Value.oneCell'] using h1) (by decide) (by unfold maxLen;omega) (by omega) (Nat.zero_le _) _ rfl ?_
    intro g cap w2 hown2 hgrow hat hlt
    replace hgrow : (w1.alloc _).drew.grownBy w2 tv.ownBlock := hgrow
    replace hat : tv.ownBlock = some g ∨ g = _ := hat
    have q0 := (show Blk ((w1.alloc _).drew) rm 87 _ from hbm.alloc _).grown hgrow hnb
    have q1 : w2.cell? ⟨rm, 2, none⟩ = some tv := q0.cell 2
    have q2 := q0.cold 2
    have q4 := (show Blk ((w1.alloc _).drew) bx 120 _ from Blk.alloc hb' _).grown hgrow hnx
    have HH := Lib.hid (HE'.out _ _ _ _ _ Hfr.out hown2 hgrow hat)
    refine hK.out _ _ (HSX.out _ _ q4 rfl) (fun hHeld => ?_)
    clear hK K
    refine wpAnyH_take (i := 8) (v := ?vv8) rfl (by kernel_rfl) (by kernel_rfl) (by kernel_rfl) (fun _ _ _ h => h) (Or.inl ⟨by rfl, ?hy8⟩) hHeld ?rest8
    case hy8 => first | (intro w hSw; (try dsimp only at hSw); go_simp; done) | (intro w hSw; (try dsimp only at hSw); go_simp; with_reducible rfl)
    try simp only [Act.put, List.setIfInBounds_toArray, List.set_cons_zero, List.set_cons_succ]
    refine wpAnyH_take (i := 9) (v := ?vv9) rfl (by kernel_rfl) (by kernel_rfl) (by kernel_rfl) (fun _ _ _ h => h) (Or.inl ⟨by rfl, ?hy9⟩) hHeld ?rest9
    case hy9 => first | (intro w hSw; (try dsimp only at hSw); go_simp; done) | (intro w hSw; (try dsimp only at hSw); go_simp; with_reducible rfl)
    try simp only [Act.put, List.setIfInBounds_toArray, List.set_cons_zero, List.set_cons_succ]
    refine wpAnyH_ready (rs := [10]) (by kernel_rfl) (by simp) ?_
    refine AllReadyH.cons rfl (fun K hK => ?_) AllReadyH.nil
    go_simp
    refine hK.out _ _ (HSX.out _ _ (Blk.far q4 hbv _) rfl) (fun hHeld => ?_)
    clear hK K
    refine wpAnyH_done (by kernel_rfl) ?_ _
    go_end0
    exact ⟨rfl, HH.out⟩
end
end Go.Proofs.Ytkaplifhaafpdaa
end

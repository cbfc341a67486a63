/-
  RMem, RView: the texts of the proof, merged. No condition.
-/
import Derived.Test.YtkaplifhaafpdaaGreatM01
section
/-
  The document's memory in the heap; its note: an access is written down, if it is not a live one. No condition.
-/
namespace Go.Proofs.YtkaplifhaafpdaaGreat
open Go Go.RowKit
set_option linter.unusedSimpArgs false
set_option linter.unusedVariables false
/-- the document's memory lies at rm, all of it within F -/
structure RMx (w : World) (F : Nat → Prop) (rm r : Nat) (tv : Value) (rows : List (Acc × Value)) (lv : Bool) (A : Mem) : Prop where
  bM : Blk w rm 112 #[.slice (some ⟨r, 0, none⟩) A.cells.length A.cells.length, .int .i64 A.next, tv, .bool lv]
  bR : Blk w r 72 (us A.cells).toArray
  own : w.ownsRow 0 152 8 tv rows.length (rows.flatMap accC)
  fst : rows.map (·.1) = A.trace
  vals : ∀ x ∈ rows, Vals w F r x.2 x.1.vals
  fM : F rm
  fR : F r
  fT : ∀ g, tv.ownBlock = some g → F g
def RM (w : World) (F : Nat → Prop) (rm : Nat) (lv : Bool) (A : Mem) : Prop := ∃ r tv rows, RMx w F rm r tv rows lv A
/-- what a call leaves -/
def RDid (w w' : World) (F : Nat → Prop) (rm : Nat) (lv : Bool) (A : Mem) : Prop := RM w' (Ext F w) rm lv A ∧ Fr F w w'
section
variable {w w' : World} {F G S : Nat → Prop} {rm r : Nat} {tv v : Value} {rows : List (Acc × Value)} {A : Mem} {vs : List Int} {lv : Bool}
theorem RMx.wide (h : RMx w F rm r tv rows lv A) (hF : ∀ k, F k → G k) : RMx w G rm r tv rows lv A :=
  ⟨h.bM, h.bR, h.own, h.fst, fun x hx => (h.vals x hx).wide hF, hF _ h.fM, hF _ h.fR, fun g e => hF g (h.fT g e)⟩
theorem RMx.fr (h : RMx w F rm r tv rows lv A) (hf : Fr S w w') (hS : ∀ k, F k → ¬ S k) : RMx w' F rm r tv rows lv A :=
  ⟨h.bM.fr hf (hS _ h.fM), h.bR.fr hf (hS _ h.fR), own_fr h.own hf fun g e => hS g (h.fT g e), h.fst, fun x hx => (h.vals x hx).fr hf fun k hk _ _ => hS k hk, h.fM, h.fR, h.fT⟩
theorem RM.wide (h : RM w F rm lv A) (hF : ∀ k, F k → G k) : RM w G rm lv A := by
  obtain ⟨r, tv, rows, h⟩ := h
  exact ⟨r, tv, rows, h.wide hF⟩
theorem RM.fr (h : RM w F rm lv A) (hf : Fr S w w') (hS : ∀ k, F k → ¬ S k) : RM w' F rm lv A := by
  obtain ⟨r, tv, rows, h⟩ := h
  exact ⟨r, tv, rows, h.fr hf hS⟩
theorem RMx.len (h : RMx w F rm r tv rows lv A) : rows.length = A.trace.length := by rw [← h.fst]; simp
theorem RDid.pre {w1 : World} (h : RDid w1 w' F rm lv A) (hf : Fr F w w1) : RDid w w' F rm lv A :=
  ⟨h.1.wide (fun k hk => by rcases hk with hk | hk; exact .inl hk; exact .inr (Nat.le_trans hf.size hk)), hf.trans h.2⟩
theorem RMx.rowcell (h : RMx w F rm r tv rows lv A) {i : Nat} (hi : i < A.cells.length) : w.cell? ⟨r, i, none⟩ = some (.int .u64 (A.cells.getD i 0)) := by
  rw [h.bR.cell i]; simp [us, hi, List.getD_eq_getElem?_getD]
theorem RMx.put (h : RMx w F rm r tv rows lv A) (i : Nat) (u : Int) : RMx (w.setCell ⟨r, i, none⟩ (.int .u64 u)) F rm r tv rows lv (A.put i u) ∧ Fr F w (w.setCell ⟨r, i, none⟩ (.int .u64 u)) := by
  have f : Fr (fun b => b = r) w (w.setCell ⟨r, i, none⟩ (.int .u64 u)) := (Fr.refl (fun b => b = r) w).put (p := ⟨r, i, none⟩) (.inl rfl) _
  refine ⟨⟨?_, (h.bR.put i _).eq ?_, own_fr h.own f ?_, h.fst, ?_, h.fM, h.fR, h.fT⟩, f.mono ?_⟩
  · have := h.bM.fr f (Blk.ne h.bM h.bR (by decide))
    simpa [Mem.put] using this
  · simp [Mem.put, us, List.map_set]
  · intro g e hg; subst hg; exact own_ne h.own h.bR (by decide) e
  · intro y hy
    exact (h.vals y hy).fr f fun k _ hk _ e => hk e
  · rintro k _ rfl; exact h.fR
theorem rnote_end {x : Acc} {u : Value} {w1 w2 : World} {o : Obj} {g cap : Nat} (h : RMx w F rm r tv rows false A) (hu : Vals w F r u x.vals)
    (hfr : Fr (fun _ => False) w w1)
    (hown : w2.ownsRow 0 152 8 (.slice (some ⟨g, 0, none⟩) (rows.length + 1) cap) (rows.length + 1) (rows.flatMap accC ++ accC (x, u)))
    (hgrow : (w1.alloc o).drew.grownBy w2 tv.ownBlock) (hat : tv.ownBlock = some g ∨ g = (w1.alloc o).drew.heap.size) :
    RDid w (w2.setCell ⟨rm, 2, none⟩ (.slice (some ⟨g, 0, none⟩) (rows.length + 1) cap)) F rm false (A.note x) := by
  have hnb : some rm ≠ tv.ownBlock := fun e => own_ne h.own h.bM (by decide) e.symm
  have hM1 : Blk w1 rm 112 _ := h.bM.fr hfr (fun e => e)
  have hM2 : Blk w2 rm 112 _ := (show Blk ((w1.alloc o).drew) rm 112 _ from hM1.alloc _).grown hgrow hnb
  have f1 : Fr (fun b => tv.ownBlock = some b ∨ b = rm) w ((w1.alloc o).drew) := ((hfr.mono (fun k _ hk => hk.elim)).alloc o).drawn 1
  have f2 := (f1.grown hgrow (fun k hk => .inl (.inl hk))).put (p := ⟨rm, 2, none⟩) (.inl (.inr rfl)) (.slice (some ⟨g, 0, none⟩) (rows.length + 1) cap)
  have hsz : w.heap.size ≤ (w1.alloc o).drew.heap.size := f1.size
  have hgb : g ≠ rm := fun e => by subst e; exact own_ne hown hM2 (by decide) rfl
  have hF : ∀ b, F b → Ext F w b := fun b hb => .inl hb
  refine ⟨⟨r, _, rows ++ [(x, u)], ⟨(hM2.put 2 _).eq rfl, h.bR.fr f2 ?_, ?_, by simp [h.fst, Mem.note], ?_, .inl h.fM, .inl h.fR, ?_⟩⟩, f2.mono ?_⟩
  · rintro (e | e)
    · exact own_ne h.own h.bR (by decide) e
    · exact Blk.ne h.bR h.bM (by decide) e
  · have := own_fr hown ((Fr.refl (fun b => b = rm) w2).put (p := ⟨rm, 2, none⟩) (.inl rfl) (.slice (some ⟨g, 0, none⟩) (rows.length + 1) cap)) (by intro g' e; simp [Value.ownBlock] at e; subst e; exact hgb)
    simpa using this
  · have hT : ∀ k, (∃ cs, Blk w k 72 cs) → ¬ (tv.ownBlock = some k ∨ k = rm) := by
      rintro k ⟨cs, hk⟩ (e | e)
      · exact own_ne h.own hk (by decide) e
      · exact Blk.ne hk h.bM (by decide) e
    intro y hy
    rw [List.mem_append] at hy
    rcases hy with hy | hy
    · exact ((h.vals y hy).fr f2 fun k _ _ hk => hT k hk).wide hF
    · rw [List.mem_singleton] at hy; subst hy
      exact (hu.fr f2 fun k _ _ hk => hT k hk).wide hF
  · intro g' e
    have e : g = g' := by simpa [Value.ownBlock] using e
    subst e
    rcases hat with hat | hat
    · exact .inl (h.fT g hat)
    · right; omega
  · rintro k _ (e | e)
    · exact h.fT k e
    · subst e; exact h.fM
set_option maxHeartbeats 1000000 in
set_option maxRecDepth 100000 in
theorem rnote_any (h : RMx w F rm r tv rows false A) (x : Acc) (u : Value) (hu : Vals w F r u x.vals) (hn : rows.length ≤ 1000000000) :
    Calls Tryz.prog 71 #[.pointer (some ⟨rm, 0, none⟩), .agg (accC (x, u)).toArray] w fun e w' => e = .returned (.tuple #[]) ∧ RDid w w' F rm false (A.note x) := by
  have h1 := hu.one
  have HE := @rnote_end w F rm r tv rows A x u
  have d1 : w.cell? ⟨rm, 3, none⟩ = some (.bool false) := h.bM.cell 3
  have hlm := Blk.lt h.bM
  have HE' := Lib.hid (fun w1 w2 o g cap => @HE w1 w2 o g cap h hu)
  clear HE
  have hfr := (Fr.refl (fun _ => False) w).alloc (Obj.cells (accC (x, u)).toArray 152)
  have hb := Blk.made w 152 (accC (x, u)).toArray
  have hown1 := own_fr h.own hfr (by intro g hg e; exact e)
  have hbm : Blk (w.alloc (Obj.cells (accC (x, u)).toArray 152)) rm 112 _ := h.bM.alloc _
  have hbv : w.heap.size ≠ rm := by omega
  have hnx : some w.heap.size ≠ tv.ownBlock := fun e => by have := own_lt h.own e.symm; omega
  have hnb : some rm ≠ tv.ownBlock := fun e => own_ne h.own h.bM (by decide) e.symm
  simp only [accC] at *
  go_enter Tryz.func71, Tryz.ntmps71
  go_wp2_with fail
  generalize w.alloc _ = w1 at *
  have hb' := hb
  have e2 : w1.cell? ⟨rm, 2, none⟩ = some tv := hbm.cell 2
  have n2 : ∀ o, (w1.alloc o).cell? ⟨rm, 2, none⟩ = some tv := fun o => (Blk.alloc hbm o).cell 2
  generalize hbb : w.heap.size = bx at hb hb' hnx hbv ⊢
  obtain ⟨i0, hi, hz0, hz1, hz2⟩ := info_parts infoA
  have SX : ∀ w' cb, Blk w' bx 152 cb → cb = #[.int .i64 x.thread, .int .u8 x.kind, .int .u64 x.addr, .int .u64 x.a, .int .u64 x.b, u, .int .u64 x.got, .bool x.ok] →
     w'.cell? ⟨bx, 0, none⟩ = some (.int .i64 x.thread) ∧ w'.cell? ⟨bx, 1, none⟩ = some (.int .u8 x.kind) ∧ w'.cell? ⟨bx, 2, none⟩ = some (.int .u64 x.addr) ∧ w'.cell? ⟨bx, 3, none⟩ = some (.int .u64 x.a) ∧
     w'.cell? ⟨bx, 4, none⟩ = some (.int .u64 x.b) ∧ w'.cell? ⟨bx, 5, none⟩ = some u ∧ w'.cell? ⟨bx, 6, none⟩ = some (.int .u64 x.got) ∧ w'.cell? ⟨bx, 7, none⟩ = some (.bool x.ok) := by
    intro w' cb h3 h4
    subst h4
    exact ⟨h3.cell 0, h3.cell 1, h3.cell 2, h3.cell 3, h3.cell 4, h3.cell 5, h3.cell 6, h3.cell 7⟩
  have HSX := Lib.hid SX
  have Hfr := Lib.hid hfr
  clear SX hfr hb hbb d1
  refine wp_region_held_drew (S := (fun w' => w'.cell? ⟨bx, 0, none⟩ = some (.int .i64 x.thread) ∧ w'.cell? ⟨bx, 1, none⟩ = some (.int .u8 x.kind) ∧ w'.cell? ⟨bx, 2, none⟩ = some (.int .u64 x.addr) ∧ w'.cell? ⟨bx, 3, none⟩ = some (.int .u64 x.a) ∧
     w'.cell? ⟨bx, 4, none⟩ = some (.int .u64 x.b) ∧ w'.cell? ⟨bx, 5, none⟩ = some u ∧ w'.cell? ⟨bx, 6, none⟩ = some (.int .u64 x.got) ∧ w'.cell? ⟨bx, 7, none⟩ = some (.bool x.ok))) (by kernel_rfl) (HSX.out _ _ (show Blk w1.drew bx 152 _ from hb') rfl) (fun hHeld => ?_)
  refine wpAnyH_take (i := 0) (v := ?vv1) rfl (by kernel_rfl) (by kernel_rfl) (by kernel_rfl) (fun _ _ _ h => h) (Or.inl ⟨by rfl, ?hy1⟩) hHeld ?rest1
  case hy1 => first | (intro w hSw; (try dsimp only at hSw); go_simp; done) | (intro w hSw; (try dsimp only at hSw); go_simp; with_reducible rfl)
  try simp only [Act.put, List.setIfInBounds_toArray, List.set_cons_zero, List.set_cons_succ]
  refine wpAnyH_take (i := 1) (v := ?vv2) rfl (by kernel_rfl) (by kernel_rfl) (by kernel_rfl) (fun _ _ _ h => h) (Or.inl ⟨by rfl, ?hy2⟩) hHeld ?rest2
  case hy2 => first | (intro w hSw; (try dsimp only at hSw); go_simp; done) | (intro w hSw; (try dsimp only at hSw); go_simp; with_reducible rfl)
  try simp only [Act.put, List.setIfInBounds_toArray, List.set_cons_zero, List.set_cons_succ]
  refine wpAnyH_take (i := 2) (v := ?vv3) rfl (by kernel_rfl) (by kernel_rfl) (by kernel_rfl) (fun _ _ _ h => h) (Or.inl ⟨by rfl, ?hy3⟩) hHeld ?rest3
  case hy3 => first | (intro w hSw; (try dsimp only at hSw); go_simp; done) | (intro w hSw; (try dsimp only at hSw); go_simp; with_reducible rfl)
  try simp only [Act.put, List.setIfInBounds_toArray, List.set_cons_zero, List.set_cons_succ]
  refine wpAnyH_take (i := 3) (v := ?vv4) rfl (by kernel_rfl) (by kernel_rfl) (by kernel_rfl) (fun _ _ _ h => h) (Or.inl ⟨by rfl, ?hy4⟩) hHeld ?rest4
  case hy4 => first | (intro w hSw; (try dsimp only at hSw); go_simp; done) | (intro w hSw; (try dsimp only at hSw); go_simp; with_reducible rfl)
  try simp only [Act.put, List.setIfInBounds_toArray, List.set_cons_zero, List.set_cons_succ]
  refine wpAnyH_take (i := 5) (v := ?vv5) rfl (by kernel_rfl) (by kernel_rfl) (by kernel_rfl) (fun _ _ _ h => h) (Or.inl ⟨by rfl, ?hy5⟩) hHeld ?rest5
  case hy5 => first | (intro w hSw; (try dsimp only at hSw); go_simp; done) | (intro w hSw; (try dsimp only at hSw); go_simp; with_reducible rfl)
  try simp only [Act.put, List.setIfInBounds_toArray, List.set_cons_zero, List.set_cons_succ]
  refine wpAnyH_ready (rs := [4, 6]) (by kernel_rfl) (by simp) ?_
  refine AllReadyH.cons rfl (fun K hK => ?_) (AllReadyH.cons rfl (fun K hK => ?_) AllReadyH.nil)
  · go_simp
    refine hK.out _ _ hHeld (fun hHeld => ?_)
    clear hK K
    refine wpAnyH_ready (rs := [6]) (by kernel_rfl) (by simp) ?_
    refine AllReadyH.cons rfl (fun K hK => ?_) AllReadyH.nil
    go_simp
    refine hK.out _ _ (HSX.out _ _ (Blk.alloc hb' _) rfl) (fun hHeld => ?_)
    clear hK K
    refine wpAnyH_ready (rs := [7]) (by kernel_rfl) (by simp) ?_
    refine AllReadyH.cons rfl (fun K hK => ?_) AllReadyH.nil
    refine step_append_lies _ rfl _ _ 110 rfl 0 152 i0 _ 8 80 Tryz.underlying110 hi hz0 hz1 hz2 rfl (by decide) _ _ _ rfl (hown1.alloc _) ⟨w1.heap.size, 0, none⟩ 1 1 [.int .i64 x.thread, .int .u8 x.kind, .int .u64 x.addr, .int .u64 x.a, .int .u64 x.b, u, .int .u64 x.got, .bool x.ok] rfl rfl (World.news_of_block (heap_alloc_new _ _)) (by simpa [Value.oneCell'] using h1) (by decide) (by unfold maxLen;omega) (by omega) (Nat.zero_le _) _ rfl ?_
    intro g cap w2 hown2 hgrow hat hlt
    replace hgrow : (w1.alloc _).drew.grownBy w2 tv.ownBlock := hgrow
    replace hat : tv.ownBlock = some g ∨ g = _ := hat
    have q0 := (show Blk ((w1.alloc _).drew) rm 112 _ from hbm.alloc _).grown hgrow hnb
    have q1 : w2.cell? ⟨rm, 2, none⟩ = some tv := q0.cell 2
    have q2 := q0.cold 2
    have q4 := (show Blk ((w1.alloc _).drew) bx 152 _ from Blk.alloc hb' _).grown hgrow hnx
    have HH := Lib.hid (HE'.out _ _ _ _ _ Hfr.out hown2 hgrow hat)
    refine hK.out _ _ (HSX.out _ _ q4 rfl) (fun hHeld => ?_)
    clear hK K
    refine wpAnyH_take (i := 8) (v := ?vv6) rfl (by kernel_rfl) (by kernel_rfl) (by kernel_rfl) (fun _ _ _ h => h) (Or.inl ⟨by rfl, ?hy6⟩) hHeld ?rest6
    case hy6 => first | (intro w hSw; (try dsimp only at hSw); go_simp; done) | (intro w hSw; (try dsimp only at hSw); go_simp; with_reducible rfl)
    try simp only [Act.put, List.setIfInBounds_toArray, List.set_cons_zero, List.set_cons_succ]
    refine wpAnyH_take (i := 9) (v := ?vv7) rfl (by kernel_rfl) (by kernel_rfl) (by kernel_rfl) (fun _ _ _ h => h) (Or.inl ⟨by rfl, ?hy7⟩) hHeld ?rest7
    case hy7 => first | (intro w hSw; (try dsimp only at hSw); go_simp; done) | (intro w hSw; (try dsimp only at hSw); go_simp; with_reducible rfl)
    try simp only [Act.put, List.setIfInBounds_toArray, List.set_cons_zero, List.set_cons_succ]
    refine wpAnyH_ready (rs := [10]) (by kernel_rfl) (by simp) ?_
    refine AllReadyH.cons rfl (fun K hK => ?_) AllReadyH.nil
    go_simp
    refine hK.out _ _ (HSX.out _ _ (Blk.far q4 hbv _) rfl) (fun hHeld => ?_)
    clear hK K
    refine wpAnyH_done (by kernel_rfl) ?_ _
    go_end0
    exact ⟨rfl, HH.out⟩
  · go_simp
    refine hK.out _ _ (HSX.out _ _ (Blk.alloc hb' _) rfl) (fun hHeld => ?_)
    clear hK K
    refine wpAnyH_ready (rs := [4]) (by kernel_rfl) (by simp) ?_
    refine AllReadyH.cons rfl (fun K hK => ?_) AllReadyH.nil
    go_simp
    refine hK.out _ _ (hHeld) (fun hHeld => ?_)
    clear hK K
    refine wpAnyH_ready (rs := [7]) (by kernel_rfl) (by simp) ?_
    refine AllReadyH.cons rfl (fun K hK => ?_) AllReadyH.nil
    refine step_append_lies _ rfl _ _ 110 rfl 0 152 i0 _ 8 80 Tryz.underlying110 hi hz0 hz1 hz2 rfl (by decide) _ _ _ rfl (hown1.alloc _) ⟨w1.heap.size, 0, none⟩ 1 1 [.int .i64 x.thread, .int .u8 x.kind, .int .u64 x.addr, .int .u64 x.a, .int .u64 x.b, u, .int .u64 x.got, .bool x.ok] rfl rfl (World.news_of_block (heap_alloc_new _ _)) (by simpa [Value.oneCell'] using h1) (by decide) (by unfold maxLen;omega) (by omega) (Nat.zero_le _) _ rfl ?_
    intro g cap w2 hown2 hgrow hat hlt
    replace hgrow : (w1.alloc _).drew.grownBy w2 tv.ownBlock := hgrow
    replace hat : tv.ownBlock = some g ∨ g = _ := hat
    have q0 := (show Blk ((w1.alloc _).drew) rm 112 _ from hbm.alloc _).grown hgrow hnb
    have q1 : w2.cell? ⟨rm, 2, none⟩ = some tv := q0.cell 2
    have q2 := q0.cold 2
    have q4 := (show Blk ((w1.alloc _).drew) bx 152 _ from Blk.alloc hb' _).grown hgrow hnx
    have HH := Lib.hid (HE'.out _ _ _ _ _ Hfr.out hown2 hgrow hat)
    refine hK.out _ _ (HSX.out _ _ q4 rfl) (fun hHeld => ?_)
    clear hK K
    refine wpAnyH_take (i := 8) (v := ?vv8) rfl (by kernel_rfl) (by kernel_rfl) (by kernel_rfl) (fun _ _ _ h => h) (Or.inl ⟨by rfl, ?hy8⟩) hHeld ?rest8
    case hy8 => first | (intro w hSw; (try dsimp only at hSw); go_simp; done) | (intro w hSw; (try dsimp only at hSw); go_simp; with_reducible rfl)
    try simp only [Act.put, List.setIfInBounds_toArray, List.set_cons_zero, List.set_cons_succ]
    refine wpAnyH_take (i := 9) (v := ?vv9) rfl (by kernel_rfl) (by kernel_rfl) (by kernel_rfl) (fun _ _ _ h => h) (Or.inl ⟨by rfl, ?hy9⟩) hHeld ?rest9
    case hy9 => first | (intro w hSw; (try dsimp only at hSw); go_simp; done) | (intro w hSw; (try dsimp only at hSw); go_simp; with_reducible rfl)
    try simp only [Act.put, List.setIfInBounds_toArray, List.set_cons_zero, List.set_cons_succ]
    refine wpAnyH_ready (rs := [10]) (by kernel_rfl) (by simp) ?_
    refine AllReadyH.cons rfl (fun K hK => ?_) AllReadyH.nil
    go_simp
    refine hK.out _ _ (HSX.out _ _ (Blk.far q4 hbv _) rfl) (fun hHeld => ?_)
    clear hK K
    refine wpAnyH_done (by kernel_rfl) ?_ _
    go_end0
    exact ⟨rfl, HH.out⟩
end
end Go.Proofs.YtkaplifhaafpdaaGreat
end
section
/-
  The document's memory, not a live one: Peek, Load, Store, Cas, Add, as the plain Lean memory answers. No condition.
-/
namespace Go.Proofs.YtkaplifhaafpdaaGreat
open Go Go.RowKit
set_option linter.unusedSimpArgs false
set_option linter.unusedVariables false
section
variable {w w' : World} {F G S : Nat → Prop} {rm r : Nat} {tv v : Value} {rows : List (Acc × Value)} {A : Mem} {lv : Bool}
set_option maxRecDepth 100000 in
theorem RNew_any (w : World) (n : Nat) (h0 : 128 ≤ n) (h1 : n ≤ 4194304) (lv : Bool) : Calls Tryz.prog 20 #[.int .i64 (n : Int), .bool lv] w fun e w' => ∃ rm, e = .returned (.tuple #[.pointer (some ⟨rm, 0, none⟩), .int .i64 0]) ∧ RM w' (fun b => w.heap.size ≤ b) rm lv (Mem.made n) ∧ Below w.heap.size w w' := by
  have hmk := run_zeros n h1
  have h2 : decide ((n : Int) < 128) = false := by simp; omega
  have h3 : decide ((4194304 : Int) < (n : Int)) = false := by simp; omega
  have h3' : decide (4194304 < n) = false := by simp; omega
  have h2' : decide (n < 128) = false := by simp; omega
  clear h0 h1
  have HP : Hid (RM ((w.alloc (.cells (us (Mem.made n).cells).toArray 72)).alloc (.cells #[.slice (some ⟨w.heap.size, 0, none⟩) n n, .int .i64 1, .slice none 0 0, .bool lv] 112)) (fun b => w.heap.size ≤ b) (w.heap.size + 1) lv (Mem.made n)) := by
    refine ⟨w.heap.size, .slice none 0 0, [], ⟨?_, (Blk.made w 72 _).alloc _, World.ownsRow_nil _ _ _ _, rfl, (by intro x hx; cases hx), ?_, ?_, (by intro g e; cases e)⟩⟩
    · have := Blk.made (w.alloc (.cells (us (Mem.made n).cells).toArray 72)) 112 #[.slice (some ⟨w.heap.size, 0, none⟩) n n, .int .i64 1, .slice none 0 0, .bool lv]
      simpa [Mem.made] using this
    · show w.heap.size ≤ _; omega
    · show w.heap.size ≤ _; omega
  unfold Mem.made at *
  generalize List.replicate n (0 : Int) = cs at *
  go_enter Tryz.func20, Tryz.ntmps20
  go_wp2
  go_ret2
  exact ⟨_, rfl, HP.out, ((Below.refl _ _).alloc (Nat.le_refl _) _).alloc (by simp) _⟩
theorem RPeek_any (h : RMx w F rm r tv rows lv A) (x : Int) (h0 : 0 ≤ x) (hn : A.cells.length ≤ 4194304) : Calls Tryz.prog 81 #[.pointer (some ⟨rm, 0, none⟩), .int .u64 x] w fun e w' => e = .returned (.int .u64 (A.peek x)) ∧ w = w' := by
  have c1 : w.cell? ⟨rm, 0, none⟩ = some (.slice (some ⟨r, 0, none⟩) A.cells.length A.cells.length) := h.bM.cell 0
  cases hx : A.has x
  · have hp := peek_past A hx
    rw [hp]
    have t1 : (A.cells.length : Int) ≤ x := by simpa [Mem.has] using hx
    clear hx hp
    generalize A.cells.length = n at *
    have t2 : decide ((n : Int) ≤ x) = true := by simpa using t1
    have t3 : decide (x < (n : Int)) = false := by simpa using t1
    go_enter Tryz.func81, Tryz.ntmps81
    go_wp2
    go_ret
    exact ⟨rfl, rfl⟩
  · obtain ⟨i, rfl, hi⟩ := has_nat h0 hx
    have c2 := h.rowcell hi
    have hp : A.peek i = A.cells.getD i 0 := by simp [Mem.peek]
    rw [hp]
    generalize A.cells.getD i 0 = y at *
    generalize A.cells.length = n at *
    have t2 : decide ((n : Int) ≤ (i : Int)) = false := by simp; omega
    have t3 : decide (n ≤ i) = false := by simp; omega
    clear hx hp
    go_enter Tryz.func81, Tryz.ntmps81
    go_wp2
    go_ret
    exact ⟨rfl, rfl⟩
/-- set -/
theorem Rset_yes (h : RMx w F rm r tv rows lv A) {i : Nat} (hi : i < A.cells.length) (hn : A.cells.length ≤ 4194304) (u : Int) : Calls Tryz.prog 70 #[.pointer (some ⟨rm, 0, none⟩), .int .u64 i, .int .u64 u] w fun e w' => e = .returned (.tuple #[]) ∧ w' = w.setCell ⟨r, i, none⟩ (.int .u64 u) := by
  have c1 : w.cell? ⟨rm, 0, none⟩ = some (.slice (some ⟨r, 0, none⟩) A.cells.length A.cells.length) := h.bM.cell 0
  have c2 := h.rowcell hi
  have c3 := h.bR.cold i
  generalize A.cells.getD i 0 = y at *
  generalize A.cells.length = n at *
  go_enter Tryz.func70, Tryz.ntmps70
  go_wp2
  go_end0
  exact ⟨rfl, rfl⟩
theorem Rset_no (h : RMx w F rm r tv rows lv A) {x : Int} (hx : A.has x = false) (hn : A.cells.length ≤ 4194304) (u : Int) : Calls Tryz.prog 70 #[.pointer (some ⟨rm, 0, none⟩), .int .u64 x, .int .u64 u] w fun e w' => e = .returned (.tuple #[]) ∧ w = w' := by
  have c1 : w.cell? ⟨rm, 0, none⟩ = some (.slice (some ⟨r, 0, none⟩) A.cells.length A.cells.length) := h.bM.cell 0
  have t1 : (A.cells.length : Int) ≤ x := by simpa [Mem.has] using hx
  clear hx
  generalize A.cells.length = n at *
  have t3 : decide (x < (n : Int)) = false := by simpa using t1
  go_enter Tryz.func70, Tryz.ntmps70
  go_wp2
  go_end0
  exact ⟨rfl, rfl⟩
theorem RLoad_x (h : RMx w F rm r tv rows false A) (th x : Int) (h0 : 0 ≤ x) (hn : A.cells.length ≤ 4194304) (ht : A.trace.length ≤ 1000000000) :
    Calls Tryz.prog 72 #[.pointer (some ⟨rm, 0, none⟩), .int .i64 th, .int .u64 x] w fun e w' => e = .returned (.int .u64 (A.peek x)) ∧ RDid w w' F rm false (A.load th x) := by
  have hp := Lib.hid (RPeek_any h x h0 hn)
  have hno := Lib.hid (rnote_any h ⟨th, 1, x, 0, 0, [], A.peek x, false⟩ _ (vals_none w F r) (by have := h.len; omega))
  simp only [Mem.load, Mem.note] at *
  clear hn ht
  generalize A.peek x = y at *
  go_enter Tryz.func72, Tryz.ntmps72
  go_wp2_with fail
  refine hp.out.mono ?_
  rintro e w' ⟨rfl, rfl⟩
  go_wp2_with fail
  refine hno.out.mono ?_
  rintro e w' ⟨rfl, hN⟩
  go_wp2
  go_ret
  exact ⟨rfl, hN⟩
theorem RStore_x (h : RMx w F rm r tv rows false A) (th x u : Int) (h0 : 0 ≤ x) (hn : A.cells.length ≤ 4194304) (ht : A.trace.length ≤ 1000000000) :
    Calls Tryz.prog 23 #[.pointer (some ⟨rm, 0, none⟩), .int .i64 th, .int .u64 x, .int .u64 u] w fun e w' => e = .returned (.tuple #[]) ∧ RDid w w' F rm false (A.store th x u) := by
  simp only [Mem.store]
  cases hx : A.has x
  · have hno := Lib.hid (rnote_any h ⟨th, 2, x, u, 0, [], 0, false⟩ _ (vals_none w F r) (by have := h.len; omega))
    rw [put_past A hx]
    have Hs := Lib.hid (Rset_no h hx hn u)
    simp only [Mem.note] at *
    clear hx hn ht
    go_enter Tryz.func23, Tryz.ntmps23
    go_wp2_with fail
    refine Hs.out.mono ?_
    rintro e w' ⟨rfl, rfl⟩
    go_wp2_with fail
    refine hno.out.mono ?_
    rintro e w' ⟨rfl, hN⟩
    go_wp2_with fail
    go_end0
    exact ⟨rfl, hN⟩
  · obtain ⟨i, rfl, hi⟩ := has_nat h0 hx
    have Hs := Lib.hid (Rset_yes h hi hn u)
    obtain ⟨h2, f2⟩ := h.put i u
    have hno := Lib.hid (rnote_any h2 ⟨th, 2, i, u, 0, [], 0, false⟩ _ (vals_none _ F r) (by have := h.len; omega))
    simp only [Mem.note] at *
    clear hx hn ht
    go_enter Tryz.func23, Tryz.ntmps23
    go_wp2_with fail
    refine Hs.out.mono ?_
    rintro e w' ⟨rfl, rfl⟩
    go_wp2_with fail
    refine hno.out.mono ?_
    rintro e w' ⟨rfl, hN⟩
    go_wp2_with fail
    go_end0
    exact ⟨rfl, RDid.pre hN f2⟩
theorem RCas_x (h : RMx w F rm r tv rows false A) (th x o u : Int) (h0 : 0 ≤ x) (hn : A.cells.length ≤ 4194304) (ht : A.trace.length ≤ 1000000000) :
    Calls Tryz.prog 73 #[.pointer (some ⟨rm, 0, none⟩), .int .i64 th, .int .u64 x, .int .u64 o, .int .u64 u] w fun e w' => e = .returned (.bool (A.hit x o)) ∧ RDid w w' F rm false (A.cas th x o u) := by
  have c1 : w.cell? ⟨rm, 0, none⟩ = some (.slice (some ⟨r, 0, none⟩) A.cells.length A.cells.length) := h.bM.cell 0
  simp only [Mem.cas]
  cases hx : A.has x
  · have hno := Lib.hid (rnote_any h ⟨th, 3, x, o, u, [], 0, false⟩ _ (vals_none w F r) (by have := h.len; omega))
    have hit : A.hit x o = false := by simp [Mem.hit, hx]
    rw [hit]
    have t1 : (A.cells.length : Int) ≤ x := by simpa [Mem.has] using hx
    simp only [Mem.note] at *
    clear hx ht hit
    generalize A.cells.length = n at *
    have t3 : decide (x < (n : Int)) = false := by simpa using t1
    go_enter Tryz.func73, Tryz.ntmps73
    go_wp2_with fail
    refine hno.out.mono ?_
    rintro e w' ⟨rfl, hN⟩
    go_wp2
    go_ret
    exact ⟨rfl, hN⟩
  · obtain ⟨i, rfl, hi⟩ := has_nat h0 hx
    have hp : A.peek i = A.cells.getD i 0 := by simp [Mem.peek]
    have c2 := h.rowcell hi
    by_cases ho : A.cells.getD i 0 = o
    · have hit : A.hit i o = true := by rw [Mem.hit, hx, hp, ho]; simp
      rw [hit]
      rw [ho] at c2
      have Hs := Lib.hid (Rset_yes h hi hn u)
      obtain ⟨h2, f2⟩ := h.put i u
      have hno := Lib.hid (rnote_any h2 ⟨th, 3, i, o, u, [], 0, true⟩ _ (vals_none _ F r) (by have := h.len; omega))
      simp only [Mem.note] at *
      clear hx ht ho hit hp h2
      generalize A.cells.length = n at *
      go_enter Tryz.func73, Tryz.ntmps73
      go_wp2_with fail
      refine Hs.out.mono ?_
      rintro e w' ⟨rfl, rfl⟩
      go_wp2_with fail
      refine hno.out.mono ?_
      rintro e w' ⟨rfl, hN⟩
      go_wp2
      go_ret
      exact ⟨rfl, RDid.pre hN f2⟩
    · have hit : A.hit i o = false := by rw [Mem.hit, hp]; simp only [ho, decide_false, Bool.and_false]
      rw [hit]
      have hno := Lib.hid (rnote_any h ⟨th, 3, i, o, u, [], 0, false⟩ _ (vals_none _ F r) (by have := h.len; omega))
      generalize A.cells.getD i 0 = y at *
      have t2 : (y == o) = false := by simpa using ho
      have t4 : (y != o) = true := by simpa using ho
      simp only [Mem.note] at *
      clear hx ht ho hit hp
      generalize A.cells.length = n at *
      go_enter Tryz.func73, Tryz.ntmps73
      go_wp2_with fail
      refine hno.out.mono ?_
      rintro e w' ⟨rfl, hN⟩
      go_wp2
      go_ret
      exact ⟨rfl, hN⟩
end
end Go.Proofs.YtkaplifhaafpdaaGreat
end

/-
  The document's memory in the heap; its note: an access is written down, if it is not a live one. No condition.
-/
import Derived.Test.YthggpbbnhjaegaaMade
namespace Go.Proofs.Ythggpbbnhjaegaa
open Go Go.RowKit
set_option linter.unusedSimpArgs false
set_option linter.unusedVariables false
/-- the document's memory lies at rm, all of it within F -/
structure RMx (w : World) (F : Nat → Prop) (rm r : Nat) (tv : Value) (rows : List (Acc × Value)) (lv : Bool) (A : Mem) : Prop where
  bM' : ∃ cap, A.cells.length ≤ cap ∧ Blk w rm 62 #[.slice (some ⟨r, 0, none⟩) A.cells.length cap, .int .i64 A.next, tv, .bool lv]
  bR' : ∃ sp, Blk w r 33 (us A.cells ++ sp).toArray
  own : w.ownsRow 0 89 8 tv rows.length (rows.flatMap accC)
  fst : rows.map (·.1) = A.trace
  vals : ∀ x ∈ rows, Vals w F r x.2 x.1.vals
  fM : F rm
  fR : F r
  fT : ∀ g, tv.ownBlock = some g → F g
def RM (w : World) (F : Nat → Prop) (rm : Nat) (lv : Bool) (A : Mem) : Prop := ∃ r tv rows, RMx w F rm r tv rows lv A
/-- what a call leaves -/
def RDid (w w' : World) (F : Nat → Prop) (rm : Nat) (lv : Bool) (A : Mem) : Prop := RM w' (Ext F w) rm lv A ∧ Fr F w w'
section
variable {w w' : World} {F G S : Nat → Prop} {rm r : Nat} {tv v : Value} {rows : List (Acc × Value)} {A : Mem} {vs : List Int} {lv : Bool}
theorem RMx.bM (h : RMx w F rm r tv rows lv A) : Blk w rm 62 #[.slice (some ⟨r, 0, none⟩) A.cells.length h.bM'.choose, .int .i64 A.next, tv, .bool lv] := h.bM'.choose_spec.2
theorem RMx.bR (h : RMx w F rm r tv rows lv A) : Blk w r 33 (us A.cells ++ h.bR'.choose).toArray := h.bR'.choose_spec
theorem RMx.wide (h : RMx w F rm r tv rows lv A) (hF : ∀ k, F k → G k) : RMx w G rm r tv rows lv A :=
  ⟨h.bM', h.bR', h.own, h.fst, fun x hx => (h.vals x hx).wide hF, hF _ h.fM, hF _ h.fR, fun g e => hF g (h.fT g e)⟩
theorem RMx.fr (h : RMx w F rm r tv rows lv A) (hf : Fr S w w') (hS : ∀ k, F k → ¬ S k) : RMx w' F rm r tv rows lv A :=
  ⟨⟨_, h.bM'.choose_spec.1, h.bM.fr hf (hS _ h.fM)⟩, ⟨_, h.bR.fr hf (hS _ h.fR)⟩, own_fr h.own hf fun g e => hS g (h.fT g e), h.fst, fun x hx => (h.vals x hx).fr hf fun k hk _ _ => hS k hk, h.fM, h.fR, h.fT⟩
theorem RM.wide (h : RM w F rm lv A) (hF : ∀ k, F k → G k) : RM w G rm lv A := by
  obtain ⟨r, tv, rows, h⟩ := h
  exact ⟨r, tv, rows, h.wide hF⟩
theorem RM.fr (h : RM w F rm lv A) (hf : Fr S w w') (hS : ∀ k, F k → ¬ S k) : RM w' F rm lv A := by
  obtain ⟨r, tv, rows, h⟩ := h
  exact ⟨r, tv, rows, h.fr hf hS⟩
theorem RMx.len (h : RMx w F rm r tv rows lv A) : rows.length = A.trace.length := by rw [← h.fst]; simp
theorem RDid.pre {w1 : World} (h : RDid w1 w' F rm lv A) (hf : Fr F w w1) : RDid w w' F rm lv A :=
  ⟨h.1.wide (fun k hk => by rcases hk with hk | hk; exact .inl hk; exact .inr (Nat.le_trans hf.size hk)), hf.trans h.2⟩
theorem RMx.rowcell (h : RMx w F rm r tv rows lv A) {i : Nat} (hi : i < A.cells.length) : w.cell? ⟨r, i, none⟩ = some (.int .u64 (A.cells.getD i 0)) := by
  rw [h.bR.cell i]; simp [us, hi, List.getD_eq_getElem?_getD, List.getElem?_append_left]
theorem RMx.put (h : RMx w F rm r tv rows lv A) (i : Nat) (u : Int) : RMx (w.setCell ⟨r, i, none⟩ (.int .u64 u)) F rm r tv rows lv (A.put i u) ∧ Fr F w (w.setCell ⟨r, i, none⟩ (.int .u64 u)) := by
  have f : Fr (fun b => b = r) w (w.setCell ⟨r, i, none⟩ (.int .u64 u)) := (Fr.refl (fun b => b = r) w).put (p := ⟨r, i, none⟩) (.inl rfl) _
  refine ⟨⟨?_, ?_, own_fr h.own f ?_, h.fst, ?_, h.fM, h.fR, h.fT⟩, f.mono ?_⟩
  · have := h.bM.fr f (Blk.ne h.bM h.bR (by decide))
    exact ⟨_, by simpa [Mem.put] using h.bM'.choose_spec.1, by simpa [Mem.put] using this⟩
  · obtain ⟨sp, h2⟩ := h.bR'
    by_cases hi : i < A.cells.length
    · exact ⟨sp, (h2.put i _).eq (by simp [Mem.put, us, List.map_set, List.set_append_left, hi])⟩
    · refine ⟨sp.set (i - A.cells.length) (.int .u64 u), (h2.put i _).eq ?_⟩
      have e : (us A.cells).length = A.cells.length := by simp [us]
      have e2 : A.cells.set i u = A.cells := List.set_eq_of_length_le (by omega)
      simp [Mem.put, e2, List.set_append_right, e, show A.cells.length ≤ i from by omega]
  · intro g e hg; subst hg; exact own_ne h.own h.bR (by decide) e
  · intro y hy
    exact (h.vals y hy).fr f fun k _ hk _ e => hk e
  · rintro k _ rfl; exact h.fR
theorem rnote_end {x : Acc} {u : Value} {w1 w2 : World} {o : Obj} {g cap : Nat} (h : RMx w F rm r tv rows false A) (hu : Vals w F r u x.vals)
    (hfr : Fr (fun _ => False) w w1)
    (hown : w2.ownsRow 0 89 8 (.slice (some ⟨g, 0, none⟩) (rows.length + 1) cap) (rows.length + 1) (rows.flatMap accC ++ accC (x, u)))
    (hgrow : (w1.alloc o).drew.grownBy w2 tv.ownBlock) (hat : tv.ownBlock = some g ∨ g = (w1.alloc o).drew.heap.size) :
    RDid w (w2.setCell ⟨rm, 2, none⟩ (.slice (some ⟨g, 0, none⟩) (rows.length + 1) cap)) F rm false (A.note x) := by
  have hnb : some rm ≠ tv.ownBlock := fun e => own_ne h.own h.bM (by decide) e.symm
  have hM1 : Blk w1 rm 62 _ := h.bM.fr hfr (fun e => e)
  have hM2 : Blk w2 rm 62 _ := (show Blk ((w1.alloc o).drew) rm 62 _ from hM1.alloc _).grown hgrow hnb
  have f1 : Fr (fun b => tv.ownBlock = some b ∨ b = rm) w ((w1.alloc o).drew) := ((hfr.mono (fun k _ hk => hk.elim)).alloc o).drawn 1
  have f2 := (f1.grown hgrow (fun k hk => .inl (.inl hk))).put (p := ⟨rm, 2, none⟩) (.inl (.inr rfl)) (.slice (some ⟨g, 0, none⟩) (rows.length + 1) cap)
  have hsz : w.heap.size ≤ (w1.alloc o).drew.heap.size := f1.size
  have hgb : g ≠ rm := fun e => by subst e; exact own_ne hown hM2 (by decide) rfl
  have hF : ∀ b, F b → Ext F w b := fun b hb => .inl hb
  refine ⟨⟨r, _, rows ++ [(x, u)], ⟨⟨_, h.bM'.choose_spec.1, (hM2.put 2 _).eq rfl⟩, ⟨_, h.bR.fr f2 ?_⟩, ?_, by simp [h.fst, Mem.note], ?_, .inl h.fM, .inl h.fR, ?_⟩⟩, f2.mono ?_⟩
  · rintro (e | e)
    · exact own_ne h.own h.bR (by decide) e
    · exact Blk.ne h.bR h.bM (by decide) e
  · have := own_fr hown ((Fr.refl (fun b => b = rm) w2).put (p := ⟨rm, 2, none⟩) (.inl rfl) (.slice (some ⟨g, 0, none⟩) (rows.length + 1) cap)) (by intro g' e; simp [Value.ownBlock] at e; subst e; exact hgb)
    simpa using this
  · have hT : ∀ k, (∃ cs, Blk w k 33 cs) → ¬ (tv.ownBlock = some k ∨ k = rm) := by
      rintro k ⟨cs, hk⟩ (e | e)
      · exact own_ne h.own hk (by decide) e
      · exact Blk.ne hk h.bM (by decide) e
    intro y hy
    rw [List.mem_append] at hy
    rcases hy with hy | hy
    · exact ((h.vals y hy).fr f2 fun k _ _ hk => hT k hk).wide hF
    · rw [List.mem_singleton] at hy; subst hy
      exact (hu.fr f2 fun k _ _ hk => hT k hk).wide hF
  · intro g' e
    have e : g = g' := by simpa [Value.ownBlock] using e
    subst e
    rcases hat with hat | hat
    · exact .inl (h.fT g hat)
    · right; omega
  · rintro k _ (e | e)
    · exact h.fT k e
    · subst e; exact h.fM
set_option maxHeartbeats 1000000 in
set_option maxRecDepth 100000 in
theorem rnote_any (h : RMx w F rm r tv rows false A) (x : Acc) (u : Value) (hu : Vals w F r u x.vals) (hn : rows.length ≤ 1000000000) :
    Calls Try.prog 42 #[.pointer (some ⟨rm, 0, none⟩), .agg (accC (x, u)).toArray] w fun e w' => e = .returned (.tuple #[]) ∧ RDid w w' F rm false (A.note x) := by
  have h1 := hu.one
  have HE := @rnote_end w F rm r tv rows A x u
  have d1 : w.cell? ⟨rm, 3, none⟩ = some (.bool false) := h.bM.cell 3
  have hlm := Blk.lt h.bM
  have HE' := Lib.hid (fun w1 w2 o g cap => @HE w1 w2 o g cap h hu)
  clear HE
  have hfr := (Fr.refl (fun _ => False) w).alloc (Obj.cells (accC (x, u)).toArray 89)
  have hb := Blk.made w 89 (accC (x, u)).toArray
  have hown1 := own_fr h.own hfr (by intro g hg e; exact e)
  have hbm : Blk (w.alloc (Obj.cells (accC (x, u)).toArray 89)) rm 62 _ := h.bM.alloc _
  have hbv : w.heap.size ≠ rm := by omega
  have hnx : some w.heap.size ≠ tv.ownBlock := fun e => by have := own_lt h.own e.symm; omega
  have hnb : some rm ≠ tv.ownBlock := fun e => own_ne h.own h.bM (by decide) e.symm
  simp only [accC] at *
  go_enter Try.func42, Try.ntmps42
  go_wp2_with fail
  generalize w.alloc _ = w1 at *
  have hb' := hb
  have e2 : w1.cell? ⟨rm, 2, none⟩ = some tv := hbm.cell 2
  have n2 : ∀ o, (w1.alloc o).cell? ⟨rm, 2, none⟩ = some tv := fun o => (Blk.alloc hbm o).cell 2
  generalize hbb : w.heap.size = bx at hb hb' hnx hbv ⊢
  obtain ⟨i0, hi, hz0, hz1, hz2⟩ := info_parts infoA
  have SX : ∀ w' cb, Blk w' bx 89 cb → cb = #[.int .i64 x.thread, .int .u8 x.kind, .int .u64 x.addr, .int .u64 x.a, .int .u64 x.b, u, .int .u64 x.got, .bool x.ok] →
     w'.cell? ⟨bx, 0, none⟩ = some (.int .i64 x.thread) ∧ w'.cell? ⟨bx, 1, none⟩ = some (.int .u8 x.kind) ∧ w'.cell? ⟨bx, 2, none⟩ = some (.int .u64 x.addr) ∧ w'.cell? ⟨bx, 3, none⟩ = some (.int .u64 x.a) ∧
     w'.cell? ⟨bx, 4, none⟩ = some (.int .u64 x.b) ∧ w'.cell? ⟨bx, 5, none⟩ = some u ∧ w'.cell? ⟨bx, 6, none⟩ = some (.int .u64 x.got) ∧ w'.cell? ⟨bx, 7, none⟩ = some (.bool x.ok) := by
    intro w' cb h3 h4
    subst h4
    exact ⟨h3.cell 0, h3.cell 1, h3.cell 2, h3.cell 3, h3.cell 4, h3.cell 5, h3.cell 6, h3.cell 7⟩
  have HSX := Lib.hid SX
  have Hfr := Lib.hid hfr
  clear SX hfr hb hbb d1
  refine wp_region_held_drew (S := (fun w' => w'.cell? ⟨bx, 0, none⟩ = some (.int .i64 x.thread) ∧ w'.cell? ⟨bx, 1, none⟩ = some (.int .u8 x.kind) ∧ w'.cell? ⟨bx, 2, none⟩ = some (.int .u64 x.addr) ∧ w'.cell? ⟨bx, 3, none⟩ = some (.int .u64 x.a) ∧
     w'.cell? ⟨bx, 4, none⟩ = some (.int .u64 x.b) ∧ w'.cell? ⟨bx, 5, none⟩ = some u ∧ w'.cell? ⟨bx, 6, none⟩ = some (.int .u64 x.got) ∧ w'.cell? ⟨bx, 7, none⟩ = some (.bool x.ok))) (by kernel_rfl) (HSX.out _ _ (show Blk w1.drew bx 89 _ from hb') rfl) (fun hHeld => ?_)
  refine wpAnyH_take (i := 0) (v := ?vv1) rfl (by kernel_rfl) (by kernel_rfl) (by kernel_rfl) (fun _ _ _ h => h) (Or.inl ⟨by rfl, ?hy1⟩) hHeld ?rest1
  case hy1 => first | (intro w hSw; (try dsimp only at hSw); go_simp; done) | (intro w hSw; (try dsimp only at hSw); go_simp; with_reducible rfl)
  try simp only [Act.put, List.setIfInBounds_toArray, List.set_cons_zero, List.set_cons_succ]
  refine wpAnyH_take (i := 1) (v := ?vv2) rfl (by kernel_rfl) (by kernel_rfl) (by kernel_rfl) (fun _ _ _ h => h) (Or.inl ⟨by rfl, ?hy2⟩) hHeld ?rest2
  case hy2 => first | (intro w hSw; (try dsimp only at hSw); go_simp; done) | (intro w hSw; (try dsimp only at hSw); go_simp; with_reducible rfl)
  try simp only [Act.put, List.setIfInBounds_toArray, List.set_cons_zero, List.set_cons_succ]
  refine wpAnyH_take (i := 2) (v := ?vv3) rfl (by kernel_rfl) (by kernel_rfl) (by kernel_rfl) (fun _ _ _ h => h) (Or.inl ⟨by rfl, ?hy3⟩) hHeld ?rest3
  case hy3 => first | (intro w hSw; (try dsimp only at hSw); go_simp; done) | (intro w hSw; (try dsimp only at hSw); go_simp; with_reducible rfl)
  try simp only [Act.put, List.setIfInBounds_toArray, List.set_cons_zero, List.set_cons_succ]
  refine wpAnyH_take (i := 3) (v := ?vv4) rfl (by kernel_rfl) (by kernel_rfl) (by kernel_rfl) (fun _ _ _ h => h) (Or.inl ⟨by rfl, ?hy4⟩) hHeld ?rest4
  case hy4 => first | (intro w hSw; (try dsimp only at hSw); go_simp; done) | (intro w hSw; (try dsimp only at hSw); go_simp; with_reducible rfl)
  try simp only [Act.put, List.setIfInBounds_toArray, List.set_cons_zero, List.set_cons_succ]
  refine wpAnyH_take (i := 5) (v := ?vv5) rfl (by kernel_rfl) (by kernel_rfl) (by kernel_rfl) (fun _ _ _ h => h) (Or.inl ⟨by rfl, ?hy5⟩) hHeld ?rest5
  case hy5 => first | (intro w hSw; (try dsimp only at hSw); go_simp; done) | (intro w hSw; (try dsimp only at hSw); go_simp; with_reducible rfl)
  try simp only [Act.put, List.setIfInBounds_toArray, List.set_cons_zero, List.set_cons_succ]
  refine wpAnyH_ready (rs := [4, 6]) (by kernel_rfl) (by simp) ?_
  refine AllReadyH.cons rfl (fun K hK => ?_) (AllReadyH.cons rfl (fun K hK => ?_) AllReadyH.nil)
  · go_simp
    refine hK.out _ _ hHeld (fun hHeld => ?_)
    clear hK K
    refine wpAnyH_ready (rs := [6]) (by kernel_rfl) (by simp) ?_
    refine AllReadyH.cons rfl (fun K hK => ?_) AllReadyH.nil
    go_simp
    refine hK.out _ _ (HSX.out _ _ (Blk.alloc hb' _) rfl) (fun hHeld => ?_)
    clear hK K
    refine wpAnyH_ready (rs := [7]) (by kernel_rfl) (by simp) ?_
    refine AllReadyH.cons rfl (fun K hK => ?_) AllReadyH.nil
    refine step_append_lies _ rfl _ _ 55 rfl 0 89 i0 _ 8 80 Try.underlying55 hi hz0 hz1 hz2 rfl (by decide) _ _ _ rfl (hown1.alloc _) ⟨w1.heap.size, 0, none⟩ 1 1 [.int .i64 x.thread, .int .u8 x.kind, .int .u64 x.addr, .int .u64 x.a, .int .u64 x.b, u, .int .u64 x.got, .bool x.ok] rfl rfl (World.news_of_block (heap_alloc_new _ _)) (by simpa [Value.oneCell'] using h1) (by decide) (by unfold maxLen;omega) (by omega) (Nat.zero_le _) _ rfl ?_
    intro g cap w2 hown2 hgrow hat hlt
    replace hgrow : (w1.alloc _).drew.grownBy w2 tv.ownBlock := hgrow
    replace hat : tv.ownBlock = some g ∨ g = _ := hat
    have q0 := (show Blk ((w1.alloc _).drew) rm 62 _ from hbm.alloc _).grown hgrow hnb
    have q1 : w2.cell? ⟨rm, 2, none⟩ = some tv := q0.cell 2
    have q2 := q0.cold 2
    have q4 := (show Blk ((w1.alloc _).drew) bx 89 _ from Blk.alloc hb' _).grown hgrow hnx
    have HH := Lib.hid (HE'.out _ _ _ _ _ Hfr.out hown2 hgrow hat)
    refine hK.out _ _ (HSX.out _ _ q4 rfl) (fun hHeld => ?_)
    clear hK K
    refine wpAnyH_take (i := 8) (v := ?vv6) rfl (by kernel_rfl) (by kernel_rfl) (by kernel_rfl) (fun _ _ _ h => h) (Or.inl ⟨by rfl, ?hy6⟩) hHeld ?rest6
    case hy6 => first | (intro w hSw; (try dsimp only at hSw); go_simp; done) | (intro w hSw; (try dsimp only at hSw); go_simp; with_reducible rfl)
    try simp only [Act.put, List.setIfInBounds_toArray, List.set_cons_zero, List.set_cons_succ]
    refine wpAnyH_take (i := 9) (v := ?vv7) rfl (by kernel_rfl) (by kernel_rfl) (by kernel_rfl) (fun _ _ _ h => h) (Or.inl ⟨by rfl, ?hy7⟩) hHeld ?rest7
    case hy7 => first | (intro w hSw; (try dsimp only at hSw); go_simp; done) | (intro w hSw; (try dsimp only at hSw); go_simp; with_reducible rfl)
    try simp only [Act.put, List.setIfInBounds_toArray, List.set_cons_zero, List.set_cons_succ]
    refine wpAnyH_ready (rs := [10]) (by kernel_rfl) (by simp) ?_
    refine AllReadyH.cons rfl (fun K hK => ?_) AllReadyH.nil
    go_simp
    refine hK.out _ _ (HSX.out _ _ (Blk.far q4 hbv _) rfl) (fun hHeld => ?_)
    clear hK K
    refine wpAnyH_done (by kernel_rfl) ?_ _
    go_end0
    exact ⟨rfl, HH.out⟩
  · go_simp
    refine hK.out _ _ (HSX.out _ _ (Blk.alloc hb' _) rfl) (fun hHeld => ?_)
    clear hK K
    refine wpAnyH_ready (rs := [4]) (by kernel_rfl) (by simp) ?_
    refine AllReadyH.cons rfl (fun K hK => ?_) AllReadyH.nil
    go_simp
    refine hK.out _ _ (hHeld) (fun hHeld => ?_)
    clear hK K
    refine wpAnyH_ready (rs := [7]) (by kernel_rfl) (by simp) ?_
    refine AllReadyH.cons rfl (fun K hK => ?_) AllReadyH.nil
    refine step_append_lies _ rfl _ _ 55 rfl 0 89 i0 _ 8 80 Try.underlying55 hi hz0 hz1 hz2 rfl (by decide) _ _ _ rfl (hown1.alloc _) ⟨w1.heap.size, 0, none⟩ 1 1 [.int .i64 x.thread, .int .u8 x.kind, .int .u64 x.addr, .int .u64 x.a, .int .u64 x.b, u, .int .u64 x.got, .bool x.ok] rfl rfl (World.news_of_block (heap_alloc_new _ _)) (by simpa [Value.oneCell'] using h1) (by decide) (by unfold maxLen;omega) (by omega) (Nat.zero_le _) _ rfl ?_
    intro g cap w2 hown2 hgrow hat hlt
    replace hgrow : (w1.alloc _).drew.grownBy w2 tv.ownBlock := hgrow
    replace hat : tv.ownBlock = some g ∨ g = _ := hat
    have q0 := (show Blk ((w1.alloc _).drew) rm 62 _ from hbm.alloc _).grown hgrow hnb
    have q1 : w2.cell? ⟨rm, 2, none⟩ = some tv := q0.cell 2
    have q2 := q0.cold 2
    have q4 := (show Blk ((w1.alloc _).drew) bx 89 _ from Blk.alloc hb' _).grown hgrow hnx
    have HH := Lib.hid (HE'.out _ _ _ _ _ Hfr.out hown2 hgrow hat)
    refine hK.out _ _ (HSX.out _ _ q4 rfl) (fun hHeld => ?_)
    clear hK K
    refine wpAnyH_take (i := 8) (v := ?vv8) rfl (by kernel_rfl) (by kernel_rfl) (by kernel_rfl) (fun _ _ _ h => h) (Or.inl ⟨by rfl, ?hy8⟩) hHeld ?rest8
    case hy8 => first | (intro w hSw; (try dsimp only at hSw); go_simp; done) | (intro w hSw; (try dsimp only at hSw); go_simp; with_reducible rfl)
    try simp only [Act.put, List.setIfInBounds_toArray, List.set_cons_zero, List.set_cons_succ]
    refine wpAnyH_take (i := 9) (v := ?vv9) rfl (by kernel_rfl) (by kernel_rfl) (by kernel_rfl) (fun _ _ _ h => h) (Or.inl ⟨by rfl, ?hy9⟩) hHeld ?rest9
    case hy9 => first | (intro w hSw; (try dsimp only at hSw); go_simp; done) | (intro w hSw; (try dsimp only at hSw); go_simp; with_reducible rfl)
    try simp only [Act.put, List.setIfInBounds_toArray, List.set_cons_zero, List.set_cons_succ]
    refine wpAnyH_ready (rs := [10]) (by kernel_rfl) (by simp) ?_
    refine AllReadyH.cons rfl (fun K hK => ?_) AllReadyH.nil
    go_simp
    refine hK.out _ _ (HSX.out _ _ (Blk.far q4 hbv _) rfl) (fun hHeld => ?_)
    clear hK K
    refine wpAnyH_done (by kernel_rfl) ?_ _
    go_end0
    exact ⟨rfl, HH.out⟩
end
end Go.Proofs.Ythggpbbnhjaegaa

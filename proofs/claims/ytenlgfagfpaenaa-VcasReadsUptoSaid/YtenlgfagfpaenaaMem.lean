/-
  The memory as plain Lean, and how it lies in the heap; note: an access is written down. No condition.
-/
import Derived.Test.YtenlgfagfpaenaaHeap
import Derived.Lib.OthersKept
import Derived.RegionTactic
import Derived.Deep.RegionHeldLaw
namespace Go.Proofs.Ytenlgfagfpaenaa
open Go Go.RowKit
set_option linter.unusedSimpArgs false
set_option linter.unusedVariables false
/-- one access -/
structure Acc where
  thread : Int
  kind : Int
  addr : Int
  a : Int
  b : Int
  vals : List Int
  got : Int
  ok : Bool
/-- cells, how many were handed out, what was told -/
structure Mem where
  cells : List Int
  next : Nat
  trace : List Acc
def us (xs : List Int) : List Value := xs.map (.int .u64)
def accC (x : Acc × Value) : List Value := [.int .i64 x.1.thread, .int .u8 x.1.kind, .int .u64 x.1.addr, .int .u64 x.1.a, .int .u64 x.1.b, x.2, .int .u64 x.1.got, .bool x.1.ok]
/-- a list of values that was told: empty, or a row of its own -/
def Vals (w : World) (F : Nat → Prop) (r : Nat) (v : Value) (vs : List Int) : Prop :=
  (∃ p c, v = .slice p 0 c ∧ vs = []) ∨ (w.ownsRow 0 23 1 v vs.length (us vs) ∧ ∀ g, v.ownBlock = some g → F g ∧ g ≠ r)
/-- a plain memory lies at bm, all of it within F -/
structure PMx (w : World) (F : Nat → Prop) (bm q r : Nat) (tv : Value) (rows : List (Acc × Value)) (A : Mem) : Prop where
  bM : Blk w bm 114 #[.iface 115 (.pointer (some ⟨q, 0, none⟩)), .bool false, tv]
  bQ' : ∃ cap, A.cells.length ≤ cap ∧ Blk w q 117 #[.slice (some ⟨r, 0, none⟩) A.cells.length cap, .int .i64 A.next]
  bR' : ∃ sp, Blk w r 23 (us A.cells ++ sp).toArray
  own : w.ownsRow 0 124 8 tv rows.length (rows.flatMap accC)
  fst : rows.map (·.1) = A.trace
  vals : ∀ x ∈ rows, Vals w F r x.2 x.1.vals
  fM : F bm
  fQ : F q
  fR : F r
  fT : ∀ g, tv.ownBlock = some g → F g
/-- the same, where it lies left out -/
def PM (w : World) (F : Nat → Prop) (bm : Nat) (A : Mem) : Prop := ∃ q r tv rows, PMx w F bm q r tv rows A
/-- a view of the memory at bm -/
def VW (w : World) (v bm : Nat) (th made : Int) : Prop := Blk w v 119 #[.pointer (some ⟨bm, 0, none⟩), .int .i64 th, .int .i64 made]
section
variable {w w' : World} {F G S : Nat → Prop} {bm q r : Nat} {tv v : Value} {rows : List (Acc × Value)} {A : Mem} {vs : List Int}
theorem Vals.wide (h : Vals w F r v vs) (hF : ∀ k, F k → G k) : Vals w G r v vs := by
  rcases h with h | ⟨h, hg⟩
  · exact .inl h
  · exact .inr ⟨h, fun g e => ⟨hF g (hg g e).1, (hg g e).2⟩⟩
theorem Vals.fr (h : Vals w F r v vs) (hf : Fr S w w') (hS : ∀ k, F k → k ≠ r → (∃ cs, Blk w k 23 cs) → ¬ S k) : Vals w' F r v vs := by
  rcases h with h | ⟨h, hg⟩
  · exact .inl h
  · refine .inr ⟨own_fr h hf fun g e => hS g (hg g e).1 (hg g e).2 ?_, hg⟩
    rcases h.2 with ⟨rfl, _⟩ | ⟨g', cap, cur, rfl, hb, hh, hr⟩
    · simp [Value.ownBlock] at e
    · have : g' = g := by simpa [Value.ownBlock] using e
      subst this
      exact ⟨cur, hh⟩
theorem PMx.bQ (h : PMx w F bm q r tv rows A) : ∃ cs, Blk w q 117 cs := let ⟨_, _, h⟩ := h.bQ'; ⟨_, h⟩
theorem PMx.bR (h : PMx w F bm q r tv rows A) : ∃ cs, Blk w r 23 cs := let ⟨_, h⟩ := h.bR'; ⟨_, h⟩
theorem PMx.Qfr (h : PMx w F bm q r tv rows A) (hf : Fr S w w') (hS : ¬ S q) : ∃ cap, A.cells.length ≤ cap ∧ Blk w' q 117 #[.slice (some ⟨r, 0, none⟩) A.cells.length cap, .int .i64 A.next] := let ⟨c, h1, h2⟩ := h.bQ'; ⟨c, h1, h2.fr hf hS⟩
theorem PMx.Rfr (h : PMx w F bm q r tv rows A) (hf : Fr S w w') (hS : ¬ S r) : ∃ sp, Blk w' r 23 (us A.cells ++ sp).toArray := let ⟨c, h2⟩ := h.bR'; ⟨c, h2.fr hf hS⟩
theorem PMx.wide (h : PMx w F bm q r tv rows A) (hF : ∀ k, F k → G k) : PMx w G bm q r tv rows A :=
  ⟨h.bM, h.bQ', h.bR', h.own, h.fst, fun x hx => (h.vals x hx).wide hF, hF _ h.fM, hF _ h.fQ, hF _ h.fR, fun g e => hF g (h.fT g e)⟩
theorem PMx.fr (h : PMx w F bm q r tv rows A) (hf : Fr S w w') (hS : ∀ k, F k → ¬ S k) : PMx w' F bm q r tv rows A :=
  ⟨h.bM.fr hf (hS _ h.fM), h.Qfr hf (hS _ h.fQ), h.Rfr hf (hS _ h.fR), own_fr h.own hf fun g e => hS g (h.fT g e), h.fst, fun x hx => (h.vals x hx).fr hf fun k hk _ _ => hS k hk, h.fM, h.fQ, h.fR, h.fT⟩
theorem PM.wide (h : PM w F bm A) (hF : ∀ k, F k → G k) : PM w G bm A := by
  obtain ⟨q, r, tv, rows, h⟩ := h
  exact ⟨q, r, tv, rows, h.wide hF⟩
theorem PM.fr (h : PM w F bm A) (hf : Fr S w w') (hS : ∀ k, F k → ¬ S k) : PM w' F bm A := by
  obtain ⟨q, r, tv, rows, h⟩ := h
  exact ⟨q, r, tv, rows, h.fr hf hS⟩
theorem infoA : (Try.prog.info? 124).map (fun i => (i.zero, i.size, i.bytes)) = some (some (.agg #[.int .i64 0, .int .u8 0, .int .u64 0, .int .u64 0, .int .u64 0, .slice none 0 0, .int .u64 0, .bool false]), 8, 80) := by kernel_rfl
theorem infoU : (Try.prog.info? 23).map (fun i => (i.zero, i.size, i.bytes)) = some (some (.int .u64 0), 1, 8) := by kernel_rfl
theorem Vals.one (h : Vals w F r v vs) : v.oneCell' = true := by
  rcases h with ⟨p, c, rfl, _⟩ | ⟨h, _⟩
  · rfl
  · rcases h.2 with ⟨rfl, _⟩ | ⟨g', cap, cur, rfl, _⟩ <;> rfl
/-- what note leaves -/
def Noted (w w' : World) (F : Nat → Prop) (bm v : Nat) (th made : Int) (A : Mem) (x : Acc) : Prop :=
  PM w' (Ext F w) bm { A with trace := A.trace ++ [{ x with thread := th }] } ∧ VW w' v bm th (made + 1) ∧ Fr (fun b => F b ∨ b = v) w w'
theorem note_end {th made : Int} {x : Acc} {u : Value} {w1 w2 : World} {o : Obj} {g cap v : Nat} (h : PMx w F bm q r tv rows A) (hv : VW w v bm th made) (hu : Vals w F r u x.vals)
    (hvw : Blk w1 v 119 #[.pointer (some ⟨bm, 0, none⟩), .int .i64 th, .int .i64 (made + 1)]) (hfr : Fr (fun b => b = v) w w1)
    (hown : w2.ownsRow 0 124 8 (.slice (some ⟨g, 0, none⟩) (rows.length + 1) cap) (rows.length + 1) (rows.flatMap accC ++ accC ({ x with thread := th }, u)))
    (hgrow : (w1.alloc o).drew.grownBy w2 tv.ownBlock) (hat : tv.ownBlock = some g ∨ g = (w1.alloc o).drew.heap.size) :
    Noted w (w2.setCell ⟨bm, 2, none⟩ (.slice (some ⟨g, 0, none⟩) (rows.length + 1) cap)) F bm v th made A x := by
  have hne : bm ≠ v := Blk.ne h.bM hv (by decide)
  have hnb : some bm ≠ tv.ownBlock := fun e => own_ne h.own h.bM (by decide) e.symm
  have hnv : some v ≠ tv.ownBlock := fun e => own_ne h.own hv (by decide) e.symm
  have hM1 : Blk w1 bm 114 _ := h.bM.fr hfr hne
  have hM2 : Blk w2 bm 114 _ := (show Blk ((w1.alloc o).drew) bm 114 _ from hM1.alloc _).grown hgrow hnb
  have hV2 : Blk w2 v 119 _ := (show Blk ((w1.alloc o).drew) v 119 _ from hvw.alloc _).grown hgrow hnv
  have f1 : Fr (fun b => b = v ∨ tv.ownBlock = some b ∨ b = bm) w ((w1.alloc o).drew) := ((hfr.mono (fun k _ hk => .inl hk)).alloc o).drawn 1
  have f2 := (f1.grown hgrow (fun k hk => .inl (.inr (.inl hk)))).put (p := ⟨bm, 2, none⟩) (.inl (.inr (.inr rfl))) (.slice (some ⟨g, 0, none⟩) (rows.length + 1) cap)
  have hsz : w.heap.size ≤ (w1.alloc o).drew.heap.size := f1.size
  have hgb : g ≠ bm := fun e => by subst e; exact own_ne hown hM2 (by decide) rfl
  have hF : ∀ b, F b → Ext F w b := fun b hb => .inl hb
  refine ⟨⟨q, r, _, rows ++ [({ x with thread := th }, u)], ⟨(hM2.put 2 _).eq rfl, h.Qfr f2 ?_, h.Rfr f2 ?_, ?_, by simp [h.fst], ?_, .inl h.fM, .inl h.fQ, .inl h.fR, ?_⟩⟩, hV2.far (p := ⟨bm, 2, none⟩) hne.symm _, f2.mono ?_⟩
  · rintro (e | e | e)
    · exact Blk.ne h.bQ.choose_spec hv (by decide) e
    · exact own_ne h.own h.bQ.choose_spec (by decide) e
    · exact Blk.ne h.bQ.choose_spec h.bM (by decide) e
  · rintro (e | e | e)
    · exact Blk.ne h.bR.choose_spec hv (by decide) e
    · exact own_ne h.own h.bR.choose_spec (by decide) e
    · exact Blk.ne h.bR.choose_spec h.bM (by decide) e
  · have := own_fr hown ((Fr.refl (fun b => b = bm) w2).put (p := ⟨bm, 2, none⟩) (.inl rfl) (.slice (some ⟨g, 0, none⟩) (rows.length + 1) cap)) (by intro g' e; simp [Value.ownBlock] at e; subst e; exact hgb)
    simpa using this
  · have hT : ∀ k, (∃ cs, Blk w k 23 cs) → ¬ (k = v ∨ tv.ownBlock = some k ∨ k = bm) := by
      rintro k ⟨cs, hk⟩ (e | e | e)
      · exact Blk.ne hk hv (by decide) e
      · exact own_ne h.own hk (by decide) e
      · exact Blk.ne hk h.bM (by decide) e
    intro y hy
    rw [List.mem_append] at hy
    rcases hy with hy | hy
    · exact ((h.vals y hy).fr f2 fun k _ _ hk => hT k hk).wide hF
    · rw [List.mem_singleton] at hy; subst hy
      exact (hu.fr f2 fun k _ _ hk => hT k hk).wide hF
  · intro g' e
    have e : g = g' := by simpa [Value.ownBlock] using e
    subst e
    rcases hat with hat | hat
    · exact .inl (h.fT g hat)
    · right; omega
  · rintro k _ (e | e | e)
    · exact .inr e
    · exact .inl (h.fT k e)
    · subst e; exact .inl h.fM
set_option maxHeartbeats 1000000 in
set_option maxRecDepth 100000 in
theorem note_any {v : Nat} {th made : Int} (h : PMx w F bm q r tv rows A) (hv : VW w v bm th made) (x : Acc) (u : Value) (hu : Vals w F r u x.vals)
    (hn : rows.length ≤ 1000000000) (hm0 : 0 ≤ made) (hm1 : made ≤ 1000000000) :
    Calls Try.prog 50 #[.pointer (some ⟨v, 0, none⟩), .agg (accC (x, u)).toArray] w fun e w' => e = .returned (.tuple #[]) ∧ Noted w w' F bm v th made A x := by
  have h1 := hu.one
  have HE := @note_end w F bm q r tv rows A th made x u
  have c1 : w.cell? ⟨v, 0, none⟩ = some (.pointer (some ⟨bm, 0, none⟩)) := hv.cell 0
  have c2 : w.cell? ⟨v, 1, none⟩ = some (.int .i64 th) := hv.cell 1
  have c3 : w.cell? ⟨v, 2, none⟩ = some (.int .i64 made) := hv.cell 2
  have f3 := hv.cold 2
  have d1 : w.cell? ⟨bm, 1, none⟩ = some (.bool false) := h.bM.cell 1
  have d2 : w.cell? ⟨bm, 2, none⟩ = some tv := h.bM.cell 2
  have f2 := h.bM.cold 2
  have hlv := Blk.lt hv
  have hlm := Blk.lt h.bM
  have hne : bm ≠ v := Blk.ne h.bM hv (by decide)
  have hne' : v ≠ bm := fun e => hne e.symm
  have HE' := Lib.hid (fun w1 w2 o g cap => @HE w1 w2 o g cap v h hv hu)
  clear HE
  simp only [accC] at *
  go_enter Try.func50, Try.ntmps50
  go_wp2_with fail
  have hfr := ((Fr.refl (fun b => b = v) w).put (p := ⟨v, 2, none⟩) (.inl rfl) (Value.int IntKind.i64 (made + 1))).alloc (Obj.cells (accC ({x with thread := th}, u)).toArray 124)
  have hb := Blk.made (w.setCell { block := v, off := 2 } (Value.int IntKind.i64 (made + 1))) 124 (accC ({x with thread := th}, u)).toArray
  have hown1 := own_fr h.own hfr (by
    intro g hg e; subst e; exact own_ne h.own hv (by decide) hg)
  have hbm : Blk ((w.setCell { block := v, off := 2 } (Value.int IntKind.i64 (made + 1))).alloc (Obj.cells (accC ({x with thread := th}, u)).toArray 124)) bm 114 _ := (h.bM.far (by exact hne) _).alloc _
  have hvw : Blk ((w.setCell { block := v, off := 2 } (Value.int IntKind.i64 (made + 1))).alloc (Obj.cells (accC ({x with thread := th}, u)).toArray 124)) v 119 _ := (Blk.put hv 2 _).alloc _
  have hvw : Blk ((w.setCell { block := v, off := 2 } (Value.int IntKind.i64 (made + 1))).alloc (Obj.cells (accC ({x with thread := th}, u)).toArray 124)) v 119 #[.pointer (some ⟨bm, 0, none⟩), .int .i64 th, .int .i64 (made + 1)] := hvw
  have hbv : w.heap.size ≠ bm := by omega
  have hnx : some w.heap.size ≠ tv.ownBlock := fun e => by have := own_lt h.own e.symm; omega
  have hnb : some bm ≠ tv.ownBlock := fun e => own_ne h.own h.bM (by decide) e.symm
  have hnv : some v ≠ tv.ownBlock := fun e => own_ne h.own hv (by decide) e.symm
  simp only [accC] at *
  generalize (w.setCell { block := v, off := 2 } (Value.int IntKind.i64 (made + 1))).alloc _ = w1 at *
  simp only [World.size_setCell] at hb
  have hb' := hb
  have e1 : w1.cell? ⟨v, 0, none⟩ = some (.pointer (some ⟨bm, 0, none⟩)) := hvw.cell 0
  have e2 : w1.cell? ⟨bm, 2, none⟩ = some tv := hbm.cell 2
  have n2 : ∀ o, (w1.alloc o).cell? ⟨bm, 2, none⟩ = some tv := fun o => (Blk.alloc hbm o).cell 2
  generalize hbb : w.heap.size = bx at hb hb' hnx hbv ⊢
  obtain ⟨i0, hi, hz0, hz1, hz2⟩ := info_parts infoA
  have SX : ∀ w' cv cb, Blk w' v 119 cv → cv[0]? = some (.pointer (some ⟨bm, 0, none⟩)) → Blk w' bx 124 cb → cb = #[.int .i64 th, .int .u8 x.kind, .int .u64 x.addr, .int .u64 x.a, .int .u64 x.b, u, .int .u64 x.got, .bool x.ok] → w'.cell? ⟨v, 0, none⟩ = some (.pointer (some ⟨bm, 0, none⟩)) ∧
     w'.cell? ⟨bx, 0, none⟩ = some (.int .i64 th) ∧ w'.cell? ⟨bx, 1, none⟩ = some (.int .u8 x.kind) ∧ w'.cell? ⟨bx, 2, none⟩ = some (.int .u64 x.addr) ∧ w'.cell? ⟨bx, 3, none⟩ = some (.int .u64 x.a) ∧
     w'.cell? ⟨bx, 4, none⟩ = some (.int .u64 x.b) ∧ w'.cell? ⟨bx, 5, none⟩ = some u ∧ w'.cell? ⟨bx, 6, none⟩ = some (.int .u64 x.got) ∧ w'.cell? ⟨bx, 7, none⟩ = some (.bool x.ok) := by
    intro w' cv cb h1 h2 h3 h4
    subst h4
    exact ⟨(h1.cell 0).trans h2, h3.cell 0, h3.cell 1, h3.cell 2, h3.cell 3, h3.cell 4, h3.cell 5, h3.cell 6, h3.cell 7⟩
  have HSX := Lib.hid SX
  have Hfr := Lib.hid hfr
  clear SX hfr hb hbb c1 c2 c3 f3 d1 d2 f2
  refine wp_region_held_drew (S := (fun w' => w'.cell? ⟨v, 0, none⟩ = some (.pointer (some ⟨bm, 0, none⟩)) ∧
     w'.cell? ⟨bx, 0, none⟩ = some (.int .i64 th) ∧ w'.cell? ⟨bx, 1, none⟩ = some (.int .u8 x.kind) ∧ w'.cell? ⟨bx, 2, none⟩ = some (.int .u64 x.addr) ∧ w'.cell? ⟨bx, 3, none⟩ = some (.int .u64 x.a) ∧
     w'.cell? ⟨bx, 4, none⟩ = some (.int .u64 x.b) ∧ w'.cell? ⟨bx, 5, none⟩ = some u ∧ w'.cell? ⟨bx, 6, none⟩ = some (.int .u64 x.got) ∧ w'.cell? ⟨bx, 7, none⟩ = some (.bool x.ok))) (by kernel_rfl) (HSX.out _ _ _ (show Blk w1.drew v 119 _ from hvw) rfl (show Blk w1.drew bx 124 _ from hb') rfl) (fun hHeld => ?_)
  refine wpAnyH_take (i := 0) (v := ?vv1) rfl (by kernel_rfl) (by kernel_rfl) (by kernel_rfl) (fun _ _ _ h => h) (Or.inl ⟨by rfl, ?hy1⟩) hHeld ?rest1
  case hy1 => first | (intro w hSw; (try dsimp only at hSw); go_simp; done) | (intro w hSw; (try dsimp only at hSw); go_simp; with_reducible rfl)
  try simp only [Act.put, List.setIfInBounds_toArray, List.set_cons_zero, List.set_cons_succ]
  refine wpAnyH_take (i := 1) (v := ?vv2) rfl (by kernel_rfl) (by kernel_rfl) (by kernel_rfl) (fun _ _ _ h => h) (Or.inl ⟨by rfl, ?hy2⟩) hHeld ?rest2
  case hy2 => first | (intro w hSw; (try dsimp only at hSw); go_simp; done) | (intro w hSw; (try dsimp only at hSw); go_simp; with_reducible rfl)
  try simp only [Act.put, List.setIfInBounds_toArray, List.set_cons_zero, List.set_cons_succ]
  refine wpAnyH_take (i := 2) (v := ?vv3) rfl (by kernel_rfl) (by kernel_rfl) (by kernel_rfl) (fun _ _ _ h => h) (Or.inl ⟨by rfl, ?hy3⟩) hHeld ?rest3
  case hy3 => first | (intro w hSw; (try dsimp only at hSw); go_simp; done) | (intro w hSw; (try dsimp only at hSw); go_simp; with_reducible rfl)
  try simp only [Act.put, List.setIfInBounds_toArray, List.set_cons_zero, List.set_cons_succ]
  refine wpAnyH_take (i := 3) (v := ?vv4) rfl (by kernel_rfl) (by kernel_rfl) (by kernel_rfl) (fun _ _ _ h => h) (Or.inl ⟨by rfl, ?hy4⟩) hHeld ?rest4
  case hy4 => first | (intro w hSw; (try dsimp only at hSw); go_simp; done) | (intro w hSw; (try dsimp only at hSw); go_simp; with_reducible rfl)
  try simp only [Act.put, List.setIfInBounds_toArray, List.set_cons_zero, List.set_cons_succ]
  refine wpAnyH_take (i := 4) (v := ?vv5) rfl (by kernel_rfl) (by kernel_rfl) (by kernel_rfl) (fun _ _ _ h => h) (Or.inl ⟨by rfl, ?hy5⟩) hHeld ?rest5
  case hy5 => first | (intro w hSw; (try dsimp only at hSw); go_simp; done) | (intro w hSw; (try dsimp only at hSw); go_simp; with_reducible rfl)
  try simp only [Act.put, List.setIfInBounds_toArray, List.set_cons_zero, List.set_cons_succ]
  refine wpAnyH_take (i := 5) (v := ?vv6) rfl (by kernel_rfl) (by kernel_rfl) (by kernel_rfl) (fun _ _ _ h => h) (Or.inl ⟨by rfl, ?hy6⟩) hHeld ?rest6
  case hy6 => first | (intro w hSw; (try dsimp only at hSw); go_simp; done) | (intro w hSw; (try dsimp only at hSw); go_simp; with_reducible rfl)
  try simp only [Act.put, List.setIfInBounds_toArray, List.set_cons_zero, List.set_cons_succ]
  refine wpAnyH_take (i := 6) (v := ?vv7) rfl (by kernel_rfl) (by kernel_rfl) (by kernel_rfl) (fun _ _ _ h => h) (Or.inl ⟨by rfl, ?hy7⟩) hHeld ?rest7
  case hy7 => first | (intro w hSw; (try dsimp only at hSw); go_simp; done) | (intro w hSw; (try dsimp only at hSw); go_simp; with_reducible rfl)
  try simp only [Act.put, List.setIfInBounds_toArray, List.set_cons_zero, List.set_cons_succ]
  refine wpAnyH_take (i := 7) (v := ?vv8) rfl (by kernel_rfl) (by kernel_rfl) (by kernel_rfl) (fun _ _ _ h => h) (Or.inl ⟨by rfl, ?hy8⟩) hHeld ?rest8
  case hy8 => first | (intro w hSw; (try dsimp only at hSw); go_simp; done) | (intro w hSw; (try dsimp only at hSw); go_simp; with_reducible rfl)
  try simp only [Act.put, List.setIfInBounds_toArray, List.set_cons_zero, List.set_cons_succ]
  refine wpAnyH_take (i := 8) (v := ?vv9) rfl (by kernel_rfl) (by kernel_rfl) (by kernel_rfl) (fun _ _ _ h => h) (Or.inl ⟨by rfl, ?hy9⟩) hHeld ?rest9
  case hy9 => first | (intro w hSw; (try dsimp only at hSw); go_simp; done) | (intro w hSw; (try dsimp only at hSw); go_simp; with_reducible rfl)
  try simp only [Act.put, List.setIfInBounds_toArray, List.set_cons_zero, List.set_cons_succ]
  refine wpAnyH_take (i := 9) (v := ?vv10) rfl (by kernel_rfl) (by kernel_rfl) (by kernel_rfl) (fun _ _ _ h => h) (Or.inl ⟨by rfl, ?hy10⟩) hHeld ?rest10
  case hy10 => first | (intro w hSw; (try dsimp only at hSw); go_simp; done) | (intro w hSw; (try dsimp only at hSw); go_simp; with_reducible rfl)
  try simp only [Act.put, List.setIfInBounds_toArray, List.set_cons_zero, List.set_cons_succ]
  refine wpAnyH_take (i := 11) (v := ?vv11) rfl (by kernel_rfl) (by kernel_rfl) (by kernel_rfl) (fun _ _ _ h => h) (Or.inl ⟨by rfl, ?hy11⟩) hHeld ?rest11
  case hy11 => first | (intro w hSw; (try dsimp only at hSw); go_simp; done) | (intro w hSw; (try dsimp only at hSw); go_simp; with_reducible rfl)
  try simp only [Act.put, List.setIfInBounds_toArray, List.set_cons_zero, List.set_cons_succ]
  refine wpAnyH_ready (rs := [10, 12]) (by kernel_rfl) (by simp) ?_
  refine AllReadyH.cons rfl (fun K hK => ?_) (AllReadyH.cons rfl (fun K hK => ?_) AllReadyH.nil)
  · go_simp
    refine hK.out _ _ hHeld (fun hHeld => ?_)
    clear hK K
    refine wpAnyH_ready (rs := [12]) (by kernel_rfl) (by simp) ?_
    refine AllReadyH.cons rfl (fun K hK => ?_) AllReadyH.nil
    go_simp
    refine hK.out _ _ (HSX.out _ _ _ (Blk.alloc hvw _) rfl (Blk.alloc hb' _) rfl) (fun hHeld => ?_)
    clear hK K
    refine wpAnyH_ready (rs := [13]) (by kernel_rfl) (by simp) ?_
    refine AllReadyH.cons rfl (fun K hK => ?_) AllReadyH.nil
    refine step_append_lies _ rfl _ _ 94 rfl 0 124 i0 _ 8 80 Try.underlying94 hi hz0 hz1 hz2 rfl (by decide) _ _ _ rfl (hown1.alloc _) ⟨w1.heap.size, 0, none⟩ 1 1 [.int .i64 th, .int .u8 x.kind, .int .u64 x.addr, .int .u64 x.a, .int .u64 x.b, u, .int .u64 x.got, .bool x.ok] rfl rfl (World.news_of_block (heap_alloc_new _ _)) (by simpa [Value.oneCell'] using h1) (by decide) (by unfold maxLen;omega) (by omega) (Nat.zero_le _) _ rfl ?_
    intro g cap w2 hown2 hgrow hat hlt
    replace hgrow : (w1.alloc _).drew.grownBy w2 tv.ownBlock := hgrow
    replace hat : tv.ownBlock = some g ∨ g = _ := hat
    have q0 := (show Blk ((w1.alloc _).drew) bm 114 _ from hbm.alloc _).grown hgrow hnb
    have q1 : w2.cell? ⟨bm, 2, none⟩ = some tv := q0.cell 2
    have q2 := q0.cold 2
    have q3 := (show Blk ((w1.alloc _).drew) v 119 _ from Blk.alloc hvw _).grown hgrow hnv
    have q4 := (show Blk ((w1.alloc _).drew) bx 124 _ from Blk.alloc hb' _).grown hgrow hnx
    have HH := Lib.hid (HE'.out _ _ _ _ _ hvw Hfr.out hown2 hgrow hat)
    refine hK.out _ _ (HSX.out _ _ _ q3 rfl q4 rfl) (fun hHeld => ?_)
    clear hK K
    refine wpAnyH_take (i := 14) (v := ?vv12) rfl (by kernel_rfl) (by kernel_rfl) (by kernel_rfl) (fun _ _ _ h => h) (Or.inl ⟨by rfl, ?hy12⟩) hHeld ?rest12
    case hy12 => first | (intro w hSw; (try dsimp only at hSw); go_simp; done) | (intro w hSw; (try dsimp only at hSw); go_simp; with_reducible rfl)
    try simp only [Act.put, List.setIfInBounds_toArray, List.set_cons_zero, List.set_cons_succ]
    refine wpAnyH_take (i := 15) (v := ?vv13) rfl (by kernel_rfl) (by kernel_rfl) (by kernel_rfl) (fun _ _ _ h => h) (Or.inl ⟨by rfl, ?hy13⟩) hHeld ?rest13
    case hy13 => first | (intro w hSw; (try dsimp only at hSw); go_simp; done) | (intro w hSw; (try dsimp only at hSw); go_simp; with_reducible rfl)
    try simp only [Act.put, List.setIfInBounds_toArray, List.set_cons_zero, List.set_cons_succ]
    refine wpAnyH_ready (rs := [16]) (by kernel_rfl) (by simp) ?_
    refine AllReadyH.cons rfl (fun K hK => ?_) AllReadyH.nil
    go_simp
    refine hK.out _ _ (HSX.out _ _ _ (Blk.far q3 hne' _) rfl (Blk.far q4 hbv _) rfl) (fun hHeld => ?_)
    clear hK K
    refine wpAnyH_done (by kernel_rfl) ?_ _
    go_end0
    exact ⟨rfl, HH.out⟩
  · go_simp
    refine hK.out _ _ (HSX.out _ _ _ (Blk.alloc hvw _) rfl (Blk.alloc hb' _) rfl) (fun hHeld => ?_)
    clear hK K
    refine wpAnyH_ready (rs := [10]) (by kernel_rfl) (by simp) ?_
    refine AllReadyH.cons rfl (fun K hK => ?_) AllReadyH.nil
    go_simp
    refine hK.out _ _ (hHeld) (fun hHeld => ?_)
    clear hK K
    refine wpAnyH_ready (rs := [13]) (by kernel_rfl) (by simp) ?_
    refine AllReadyH.cons rfl (fun K hK => ?_) AllReadyH.nil
    refine step_append_lies _ rfl _ _ 94 rfl 0 124 i0 _ 8 80 Try.underlying94 hi hz0 hz1 hz2 rfl (by decide) _ _ _ rfl (hown1.alloc _) ⟨w1.heap.size, 0, none⟩ 1 1 [.int .i64 th, .int .u8 x.kind, .int .u64 x.addr, .int .u64 x.a, .int .u64 x.b, u, .int .u64 x.got, .bool x.ok] rfl rfl (World.news_of_block (heap_alloc_new _ _)) (by simpa [Value.oneCell'] using h1) (by decide) (by unfold maxLen;omega) (by omega) (Nat.zero_le _) _ rfl ?_
    intro g cap w2 hown2 hgrow hat hlt
    replace hgrow : (w1.alloc _).drew.grownBy w2 tv.ownBlock := hgrow
    replace hat : tv.ownBlock = some g ∨ g = _ := hat
    have q0 := (show Blk ((w1.alloc _).drew) bm 114 _ from hbm.alloc _).grown hgrow hnb
    have q1 : w2.cell? ⟨bm, 2, none⟩ = some tv := q0.cell 2
    have q2 := q0.cold 2
    have q3 := (show Blk ((w1.alloc _).drew) v 119 _ from Blk.alloc hvw _).grown hgrow hnv
    have q4 := (show Blk ((w1.alloc _).drew) bx 124 _ from Blk.alloc hb' _).grown hgrow hnx
    have HH := Lib.hid (HE'.out _ _ _ _ _ hvw Hfr.out hown2 hgrow hat)
    refine hK.out _ _ (HSX.out _ _ _ q3 rfl q4 rfl) (fun hHeld => ?_)
    clear hK K
    refine wpAnyH_take (i := 14) (v := ?vv14) rfl (by kernel_rfl) (by kernel_rfl) (by kernel_rfl) (fun _ _ _ h => h) (Or.inl ⟨by rfl, ?hy14⟩) hHeld ?rest14
    case hy14 => first | (intro w hSw; (try dsimp only at hSw); go_simp; done) | (intro w hSw; (try dsimp only at hSw); go_simp; with_reducible rfl)
    try simp only [Act.put, List.setIfInBounds_toArray, List.set_cons_zero, List.set_cons_succ]
    refine wpAnyH_take (i := 15) (v := ?vv15) rfl (by kernel_rfl) (by kernel_rfl) (by kernel_rfl) (fun _ _ _ h => h) (Or.inl ⟨by rfl, ?hy15⟩) hHeld ?rest15
    case hy15 => first | (intro w hSw; (try dsimp only at hSw); go_simp; done) | (intro w hSw; (try dsimp only at hSw); go_simp; with_reducible rfl)
    try simp only [Act.put, List.setIfInBounds_toArray, List.set_cons_zero, List.set_cons_succ]
    refine wpAnyH_ready (rs := [16]) (by kernel_rfl) (by simp) ?_
    refine AllReadyH.cons rfl (fun K hK => ?_) AllReadyH.nil
    go_simp
    refine hK.out _ _ (HSX.out _ _ _ (Blk.far q3 hne' _) rfl (Blk.far q4 hbv _) rfl) (fun hHeld => ?_)
    clear hK K
    refine wpAnyH_done (by kernel_rfl) ?_ _
    go_end0
    exact ⟨rfl, HH.out⟩
end
end Go.Proofs.Ytenlgfagfpaenaa

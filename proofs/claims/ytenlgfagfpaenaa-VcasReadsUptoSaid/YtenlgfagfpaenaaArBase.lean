/-
  A plain memory of the call's own, and what a walk over one keeps; nil memories and views. No condition.
-/
import Derived.Test.YtenlgfagfpaenaaAlloc
namespace Go.Proofs.Ytenlgfagfpaenaa
open Go Go.RowKit
set_option linter.unusedSimpArgs false
set_option linter.unusedVariables false
section
variable {w w' w1 w0 : World} {F G S : Nat → Prop} {bm q r v p B : Nat} {A : Mem} {th made : Int} {tv av : Value} {rows : List (Acc × Value)} {vs : List Int}
theorem PM.tight (h : PM w F bm A) : PM w (fun b => F b ∧ b < w.heap.size) bm A := by
  obtain ⟨q, r, tv, rows, h⟩ := h
  refine ⟨q, r, tv, rows, h.bM, h.bQ', h.bR', h.own, h.fst, fun x hx => ?_, ⟨h.fM, h.bM.lt⟩, ⟨h.fQ, h.bQ.choose_spec.lt⟩, ⟨h.fR, h.bR.choose_spec.lt⟩, fun g e => ⟨h.fT g e, own_lt h.own e⟩⟩
  rcases h.vals x hx with h0 | ⟨h0, h1⟩
  · exact .inl h0
  · exact .inr ⟨h0, fun g e => ⟨⟨(h1 g e).1, own_lt h0 e⟩, (h1 g e).2⟩⟩
/-- a memory of the call's own: all its blocks lie from B on -/
def Mine (w : World) (B : Nat) (F : Nat → Prop) (bm : Nat) (A : Mem) : Prop := PM w F bm A ∧ ∀ b, F b → B ≤ b ∧ b < w.heap.size
theorem Mine.start {W : World} (h : PM w (fun b => W.heap.size ≤ b) bm A) : Mine w W.heap.size (fun b => W.heap.size ≤ b ∧ b < w.heap.size) bm A := ⟨h.tight, fun b hb => hb⟩
theorem Mine.step (hm : Mine w B F bm A) (hB : B ≤ w.heap.size) {A' : Mem} (h : PM w' (Ext F w) bm A') : ∃ F', Mine w' B F' bm A' ∧ ∀ b, b < w.heap.size → ¬ F b → ¬ F' b := by
  refine ⟨_, ⟨h.tight, ?_⟩, ?_⟩
  · rintro b ⟨hb | hb, hl⟩
    · exact ⟨(hm.2 b hb).1, hl⟩
    · exact ⟨Nat.le_trans hB hb, hl⟩
  · rintro b hb hF ⟨h1 | h1, _⟩
    · exact hF h1
    · omega
theorem Mine.fr (hm : Mine w B F bm A) (hf : Fr S w w') (hS : ∀ k, F k → ¬ S k) : Mine w' B F bm A := ⟨hm.1.fr hf hS, fun b hb => ⟨(hm.2 b hb).1, Nat.lt_of_lt_of_le (hm.2 b hb).2 hf.size⟩⟩
theorem Did.below (h : Did w w' F bm v th made A) (hF : ∀ b, F b → B ≤ b) (hv : B ≤ v) (hB : B ≤ w.heap.size) : Below B w w' :=
  h.2.2.to_below hB (by rintro k hk (e | e); exact absurd (hF k e) (by omega); omega)
theorem New_128 (w : World) : Calls Try.prog 10 #[.int .i64 128, .bool false] w fun e w' => ∃ bm, e = .returned (.tuple #[.pointer (some ⟨bm, 0, none⟩), .int .i64 0]) ∧ PM w' (fun b => w.heap.size ≤ b) bm (Mem.made 128) ∧ Below w.heap.size w w' :=
  New_plain w 128 (by decide) (by decide)
theorem Mine.not (hm : Mine w B F bm A) (h : w.heap.size ≤ p) : ¬ F p := fun e => by have := (hm.2 p e).2; omega
/-- bounds of a memory -/
structure Mem.Fit (A : Mem) : Prop where
  n : A.cells.length ≤ 4194304
  t : A.trace.length ≤ 1000000000
  x : A.next ≤ A.cells.length
/-- a memory made since w0 -/
structure Own (w0 w : World) (F : Nat → Prop) (bm : Nat) (A : Mem) : Prop where
  mine : Mine w w0.heap.size F bm A
  below : Below w0.heap.size w0 w
theorem Own.size (h : Own w0 w F bm A) : w0.heap.size ≤ w.heap.size := h.below.size
theorem Own.fr (h : Own w0 w F bm A) (hf : Fr S w w') (hS : ∀ k, F k → ¬ S k) (hB : ∀ k, k < w0.heap.size → ¬ S k) : Own w0 w' F bm A := ⟨h.mine.fr hf hS, h.below.trans (hf.to_below h.size hB)⟩
theorem Own.bel (h : Own w0 w F bm A) (hb : Below w.heap.size w w') : Own w0 w' F bm A := h.fr (Fr.of_below (S := fun _ => False) hb) (fun _ _ e => e) (fun _ _ e => e)
theorem Own.drawn (h : Own w0 w F bm A) (n : Nat) : Own w0 (w.drewN n) F bm A := h.fr ((Fr.refl (fun _ => False) w).drawn n) (fun _ _ e => e) (fun _ _ e => e)
theorem Own.did (h : Own w0 w F bm A) (hF : ¬ F v) (hB : w0.heap.size ≤ v) (hl : v < w.heap.size) {A' : Mem} (hD : Did w w' F bm v th made A') : ∃ F', Own w0 w' F' bm A' ∧ VW w' v bm th (made + 1) ∧ ¬ F' v ∧ (∀ b, b < w.heap.size → ¬ F b → ¬ F' b) ∧ Fr (fun b => F b ∨ b = v) w w' := by
  obtain ⟨F', h1, h2⟩ := h.mine.step h.size hD.1
  exact ⟨F', ⟨h1, h.below.trans (hD.below (fun b hb => (h.mine.2 b hb).1) hB h.size)⟩, hD.2.1, h2 v hl hF, h2, hD.2.2⟩
theorem Own.new (w0 : World) {w : World} (hb : Below w0.heap.size w0 w) (hm : PM w' (fun b => w.heap.size ≤ b) bm A) (hb2 : Below w.heap.size w w') : ∃ F, Own w0 w' F bm A ∧ ∀ b, b < w.heap.size → ¬ F b := by
  refine ⟨fun b => w.heap.size ≤ b ∧ b < w'.heap.size, ⟨⟨hm.tight, fun b h => ⟨Nat.le_trans hb.size h.1, h.2⟩⟩, hb.trans (hb2.mono hb.size)⟩, ?_⟩
  rintro b hb' ⟨h, _⟩
  omega
theorem Own.view (h : Own w0 w F bm A) (th : Int) (hw : w' = w.alloc (.cells #[.pointer (some ⟨bm, 0, none⟩), .int .i64 th, .int .i64 0] 119)) : Own w0 w' F bm A ∧ VW w' w.heap.size bm th 0 ∧ ¬ F w.heap.size ∧ Below w.heap.size w w' := by
  have hb : Below w.heap.size w w' := hw ▸ (Below.refl _ w).alloc (Nat.le_refl _) _
  exact ⟨h.bel hb, hw ▸ Blk.made w _ _, h.mine.not (Nat.le_refl _), hb⟩
theorem Load_o (h : Own w0 w F bm A) (hv : VW w v bm th made) (hF : ¬ F v) (hB : w0.heap.size ≤ v) (x : Int) (h0 : 0 ≤ x) (ht : A.Fit) (hm0 : 0 ≤ made) (hm1 : made ≤ 1000000000) :
    Calls Try.prog 56 #[.pointer (some ⟨v, 0, none⟩), .int .u64 x] w fun e w' => e = .returned (.int .u64 (A.peek x)) ∧ ∃ F', Own w0 w' F' bm (A.load th x) ∧ VW w' v bm th (made + 1) ∧ ¬ F' v ∧ (∀ b, b < w.heap.size → ¬ F b → ¬ F' b) ∧ Fr (fun b => F b ∨ b = v) w w' := by
  obtain ⟨q, r, tv, rows, hx⟩ := h.mine.1
  exact (Load_x hx hv x h0 ht.n ht.t hm0 hm1).mono fun e w' hh => ⟨hh.1, h.did hF hB (Blk.lt hv) hh.2⟩
theorem Store_o (h : Own w0 w F bm A) (hv : VW w v bm th made) (hF : ¬ F v) (hB : w0.heap.size ≤ v) (x u : Int) (h0 : 0 ≤ x) (ht : A.Fit) (hm0 : 0 ≤ made) (hm1 : made ≤ 1000000000) :
    Calls Try.prog 13 #[.pointer (some ⟨v, 0, none⟩), .int .u64 x, .int .u64 u] w fun e w' => e = .returned (.tuple #[]) ∧ ∃ F', Own w0 w' F' bm (A.store th x u) ∧ VW w' v bm th (made + 1) ∧ ¬ F' v ∧ (∀ b, b < w.heap.size → ¬ F b → ¬ F' b) ∧ Fr (fun b => F b ∨ b = v) w w' := by
  obtain ⟨q, r, tv, rows, hx⟩ := h.mine.1
  exact (Store_x hx hv x u h0 ht.n ht.t hm0 hm1).mono fun e w' hh => ⟨hh.1, h.did hF hB (Blk.lt hv) hh.2⟩
theorem Cas_o (h : Own w0 w F bm A) (hv : VW w v bm th made) (hF : ¬ F v) (hB : w0.heap.size ≤ v) (x o u : Int) (h0 : 0 ≤ x) (ht : A.Fit) (hm0 : 0 ≤ made) (hm1 : made ≤ 1000000000) :
    Calls Try.prog 57 #[.pointer (some ⟨v, 0, none⟩), .int .u64 x, .int .u64 o, .int .u64 u] w fun e w' => e = .returned (.bool (A.hit x o)) ∧ ∃ F', Own w0 w' F' bm (A.cas th x o u) ∧ VW w' v bm th (made + 1) ∧ ¬ F' v ∧ (∀ b, b < w.heap.size → ¬ F b → ¬ F' b) ∧ Fr (fun b => F b ∨ b = v) w w' := by
  obtain ⟨q, r, tv, rows, hx⟩ := h.mine.1
  exact (Cas_x hx hv x o u h0 ht.n ht.t hm0 hm1).mono fun e w' hh => ⟨hh.1, h.did hF hB (Blk.lt hv) hh.2⟩
theorem Alloc_o (h : Own w0 w F bm A) (hv : VW w v bm th made) (hF : ¬ F v) (hB : w0.heap.size ≤ v) (ha : VA w av vs) (ho : vs ≠ [] → Off av F) (hl : vs.length ≤ 1000000000) (ht : A.Fit) (hm0 : 0 ≤ made) (hm1 : made ≤ 1000000000) :
    Calls Try.prog 60 #[.pointer (some ⟨v, 0, none⟩), av] w fun e w' => e = .returned (.int .u64 (A.spot vs)) ∧ ∃ F', Own w0 w' F' bm (A.alloc th vs) ∧ VW w' v bm th (made + 1) ∧ ¬ F' v ∧ (∀ b, b < w.heap.size → ¬ F b → ¬ F' b) ∧ Fr (fun b => F b ∨ b = v) w w' := by
  obtain ⟨q, r, tv, rows, hx⟩ := h.mine.1
  exact (Alloc_x hx hv hF ha ho hl ht.x ht.n ht.t hm0 hm1).mono fun e w' hh => ⟨hh.1, h.did hF hB (Blk.lt hv) hh.2⟩
theorem peek_o (h : Own w0 w F bm A) (x : Int) (h0 : 0 ≤ x) (ht : A.Fit) : Calls Try.prog 37 #[.pointer (some ⟨bm, 0, none⟩), .int .u64 x] w fun e w' => e = .returned (.int .u64 (A.peek x)) ∧ w = w' := by
  obtain ⟨q, r, tv, rows, hx⟩ := h.mine.1
  exact peek_any hx x h0 ht.n
theorem Load_nil (w : World) (x : Value) : Calls Try.prog 56 #[.pointer none, x] w fun e w' => e = .returned (.int .u64 0) ∧ w = w' := by
  go_enter Try.func56, Try.ntmps56
  go_wp2
  go_ret
  exact ⟨rfl, rfl⟩
theorem Store_nil (w : World) (x : Value) (y : Value) : Calls Try.prog 13 #[.pointer none, x, y] w fun e w' => e = .returned (.tuple #[]) ∧ w = w' := by
  go_enter Try.func13, Try.ntmps13
  go_wp2_with fail
  ((try simp only [Exit.inBlock, Exit.then]); refine bodyPost_ret (results_none rfl _ _ _) rfl ?_)
  exact ⟨rfl, rfl⟩
theorem Cas_nil (w : World) (x : Value) (y : Value) (z : Value) : Calls Try.prog 57 #[.pointer none, x, y, z] w fun e w' => e = .returned (.bool false) ∧ w = w' := by
  go_enter Try.func57, Try.ntmps57
  go_wp2
  go_ret
  exact ⟨rfl, rfl⟩
theorem Alloc_nil (w : World) (x : Value) : Calls Try.prog 60 #[.pointer none, x] w fun e w' => e = .returned (.int .u64 0) ∧ w = w' := by
  go_enter Try.func60, Try.ntmps60
  go_wp2
  go_ret
  exact ⟨rfl, rfl⟩
theorem Accesses_nil (w : World) : Calls Try.prog 54 #[.pointer none] w fun e w' => e = .returned (.int .i64 0) ∧ w = w' := by
  go_enter Try.func54, Try.ntmps54
  go_wp2
  go_ret
  exact ⟨rfl, rfl⟩
theorem MView_nil (w : World) (x : Value) : Calls Try.prog 12 #[.pointer none, x] w fun e w' => e = .returned (.pointer none) ∧ w = w' := by
  go_enter Try.func12, Try.ntmps12
  go_wp2
  go_ret
  exact ⟨rfl, rfl⟩
theorem MCells_nil (w : World) : Calls Try.prog 53 #[.pointer none] w fun e w' => e = .returned (.int .i64 0) ∧ w = w' := by
  go_enter Try.func53, Try.ntmps53
  go_wp2
  go_ret
  exact ⟨rfl, rfl⟩
theorem MPeek_nil (w : World) (x : Value) : Calls Try.prog 37 #[.pointer none, x] w fun e w' => e = .returned (.int .u64 0) ∧ w = w' := by
  go_enter Try.func37, Try.ntmps37
  go_wp2
  go_ret
  exact ⟨rfl, rfl⟩
theorem MTrace_nil (w : World) : Calls Try.prog 45 #[.pointer none] w fun e w' => e = .returned (.slice none 0 0) ∧ w = w' := by
  go_enter Try.func45, Try.ntmps45
  go_wp2
  go_ret
  exact ⟨rfl, rfl⟩
theorem MMade_nil (w : World) : Calls Try.prog 79 #[.pointer none] w fun e w' => e = .returned (.int .i64 0) ∧ w = w' := by
  go_enter Try.func79, Try.ntmps79
  go_wp2
  go_ret
  exact ⟨rfl, rfl⟩
theorem Cells_any (h : PMx w F bm q r tv rows A) : Calls Try.prog 53 #[.pointer (some ⟨bm, 0, none⟩)] w fun e w' => e = .returned (.int .i64 A.cells.length) ∧ w = w' := by
  have c1 : w.cell? ⟨bm, 0, none⟩ = some _ := h.bM.cell 0
  have hs := Lib.hid (size_any h)
  go_enter Try.func53, Try.ntmps53
  go_wp2_with fail
  refine hs.out.mono ?_
  rintro e w' ⟨rfl, rfl⟩
  go_wp2
  go_ret
  exact ⟨rfl, rfl⟩
theorem Made_any (h : PMx w F bm q r tv rows A) : Calls Try.prog 79 #[.pointer (some ⟨bm, 0, none⟩)] w fun e w' => e = .returned (.int .i64 A.trace.length) ∧ w = w' := by
  have c1 : w.cell? ⟨bm, 2, none⟩ = some _ := h.bM.cell 2
  have hl := h.len
  obtain ⟨p, c, htv⟩ : ∃ p c, tv = .slice p rows.length c := by
    rcases h.own.2 with ⟨h1, h0⟩ | ⟨g, cap, cur, h1, _⟩
    · exact ⟨none, 0, by rw [h1, h0]⟩
    · exact ⟨_, _, h1⟩
  subst htv
  rw [hl] at c1
  clear h hl
  go_enter Try.func79, Try.ntmps79
  go_wp2
  go_ret
  exact ⟨rfl, rfl⟩
end
end Go.Proofs.Ytenlgfagfpaenaa

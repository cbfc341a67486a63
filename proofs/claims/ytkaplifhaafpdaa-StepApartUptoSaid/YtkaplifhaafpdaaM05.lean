/-
  ArBase, BookW: the texts of the proof, merged. No condition.
-/
import Derived.Test.YtkaplifhaafpdaaM04
import Derived.Test.YtkaplifhaafpdaaM00
import Derived.Maps.AppendAt
import Derived.Laws.CopyOwn
section
/-
  A plain memory of the call's own, and what a walk over one keeps; nil memories and views. No condition.
-/
namespace Go.Proofs.Ytkaplifhaafpdaa
open Go Go.RowKit
set_option linter.unusedSimpArgs false
set_option linter.unusedVariables false
section
variable {w w' w1 w0 : World} {F G S : Nat → Prop} {bm q r v p B : Nat} {A : Mem} {th made : Int} {tv av : Value} {rows : List (Acc × Value)} {vs : List Int}
theorem PM.tight (h : PM w F bm A) : PM w (fun b => F b ∧ b < w.heap.size) bm A := by
  obtain ⟨q, r, tv, rows, h⟩ := h
  refine ⟨q, r, tv, rows, h.bM, h.bQ', h.bR', h.own, h.fst, fun x hx => ?_, ⟨h.fM, h.bM.lt⟩, ⟨h.fQ, h.bQ.choose_spec.lt⟩, ⟨h.fR, h.bR.choose_spec.lt⟩, fun g e => ⟨h.fT g e, own_lt h.own e⟩⟩
  rcases h.vals x hx with h0 | ⟨h0, h1⟩
  · exact .inl h0
  · exact .inr ⟨h0, fun g e => ⟨⟨(h1 g e).1, own_lt h0 e⟩, (h1 g e).2⟩⟩
/-- a memory of the call's own: all its blocks lie from B on -/
def Mine (w : World) (B : Nat) (F : Nat → Prop) (bm : Nat) (A : Mem) : Prop := PM w F bm A ∧ ∀ b, F b → B ≤ b ∧ b < w.heap.size
theorem Mine.start {W : World} (h : PM w (fun b => W.heap.size ≤ b) bm A) : Mine w W.heap.size (fun b => W.heap.size ≤ b ∧ b < w.heap.size) bm A := ⟨h.tight, fun b hb => hb⟩
theorem Mine.step (hm : Mine w B F bm A) (hB : B ≤ w.heap.size) {A' : Mem} (h : PM w' (Ext F w) bm A') : ∃ F', Mine w' B F' bm A' ∧ ∀ b, b < w.heap.size → ¬ F b → ¬ F' b := by
  refine ⟨_, ⟨h.tight, ?_⟩, ?_⟩
  · rintro b ⟨hb | hb, hl⟩
    · exact ⟨(hm.2 b hb).1, hl⟩
    · exact ⟨Nat.le_trans hB hb, hl⟩
  · rintro b hb hF ⟨h1 | h1, _⟩
    · exact hF h1
    · omega
theorem Mine.fr (hm : Mine w B F bm A) (hf : Fr S w w') (hS : ∀ k, F k → ¬ S k) : Mine w' B F bm A := ⟨hm.1.fr hf hS, fun b hb => ⟨(hm.2 b hb).1, Nat.lt_of_lt_of_le (hm.2 b hb).2 hf.size⟩⟩
theorem Did.below (h : Did w w' F bm v th made A) (hF : ∀ b, F b → B ≤ b) (hv : B ≤ v) (hB : B ≤ w.heap.size) : Below B w w' :=
  h.2.2.to_below hB (by rintro k hk (e | e); exact absurd (hF k e) (by omega); omega)
theorem New_128 (w : World) : Calls Try.prog 12 #[.int .i64 128, .bool false] w fun e w' => ∃ bm, e = .returned (.tuple #[.pointer (some ⟨bm, 0, none⟩), .int .i64 0]) ∧ PM w' (fun b => w.heap.size ≤ b) bm (Mem.made 128) ∧ Below w.heap.size w w' :=
  New_plain w 128 (by decide) (by decide)
theorem Mine.not (hm : Mine w B F bm A) (h : w.heap.size ≤ p) : ¬ F p := fun e => by have := (hm.2 p e).2; omega
/-- bounds of a memory -/
structure Mem.Fit (A : Mem) : Prop where
  n : A.cells.length ≤ 4194304
  t : A.trace.length ≤ 1000000000
  x : A.next ≤ A.cells.length
/-- a memory made since w0 -/
structure Own (w0 w : World) (F : Nat → Prop) (bm : Nat) (A : Mem) : Prop where
  mine : Mine w w0.heap.size F bm A
  below : Below w0.heap.size w0 w
theorem Own.size (h : Own w0 w F bm A) : w0.heap.size ≤ w.heap.size := h.below.size
theorem Own.fr (h : Own w0 w F bm A) (hf : Fr S w w') (hS : ∀ k, F k → ¬ S k) (hB : ∀ k, k < w0.heap.size → ¬ S k) : Own w0 w' F bm A := ⟨h.mine.fr hf hS, h.below.trans (hf.to_below h.size hB)⟩
theorem Own.bel (h : Own w0 w F bm A) (hb : Below w.heap.size w w') : Own w0 w' F bm A := h.fr (Fr.of_below (S := fun _ => False) hb) (fun _ _ e => e) (fun _ _ e => e)
theorem Own.drawn (h : Own w0 w F bm A) (n : Nat) : Own w0 (w.drewN n) F bm A := h.fr ((Fr.refl (fun _ => False) w).drawn n) (fun _ _ e => e) (fun _ _ e => e)
theorem Own.did (h : Own w0 w F bm A) (hF : ¬ F v) (hB : w0.heap.size ≤ v) (hl : v < w.heap.size) {A' : Mem} (hD : Did w w' F bm v th made A') : ∃ F', Own w0 w' F' bm A' ∧ VW w' v bm th (made + 1) ∧ ¬ F' v ∧ (∀ b, b < w.heap.size → ¬ F b → ¬ F' b) ∧ Fr (fun b => F b ∨ b = v) w w' := by
  obtain ⟨F', h1, h2⟩ := h.mine.step h.size hD.1
  exact ⟨F', ⟨h1, h.below.trans (hD.below (fun b hb => (h.mine.2 b hb).1) hB h.size)⟩, hD.2.1, h2 v hl hF, h2, hD.2.2⟩
theorem Own.new (w0 : World) {w : World} (hb : Below w0.heap.size w0 w) (hm : PM w' (fun b => w.heap.size ≤ b) bm A) (hb2 : Below w.heap.size w w') : ∃ F, Own w0 w' F bm A ∧ ∀ b, b < w.heap.size → ¬ F b := by
  refine ⟨fun b => w.heap.size ≤ b ∧ b < w'.heap.size, ⟨⟨hm.tight, fun b h => ⟨Nat.le_trans hb.size h.1, h.2⟩⟩, hb.trans (hb2.mono hb.size)⟩, ?_⟩
  rintro b hb' ⟨h, _⟩
  omega
theorem Own.view (h : Own w0 w F bm A) (th : Int) (hw : w' = w.alloc (.cells #[.pointer (some ⟨bm, 0, none⟩), .int .i64 th, .int .i64 0] 116)) : Own w0 w' F bm A ∧ VW w' w.heap.size bm th 0 ∧ ¬ F w.heap.size ∧ Below w.heap.size w w' := by
  have hb : Below w.heap.size w w' := hw ▸ (Below.refl _ w).alloc (Nat.le_refl _) _
  exact ⟨h.bel hb, hw ▸ Blk.made w _ _, h.mine.not (Nat.le_refl _), hb⟩
theorem Load_o (h : Own w0 w F bm A) (hv : VW w v bm th made) (hF : ¬ F v) (hB : w0.heap.size ≤ v) (x : Int) (h0 : 0 ≤ x) (ht : A.Fit) (hm0 : 0 ≤ made) (hm1 : made ≤ 1000000000) :
    Calls Try.prog 50 #[.pointer (some ⟨v, 0, none⟩), .int .u64 x] w fun e w' => e = .returned (.int .u64 (A.peek x)) ∧ ∃ F', Own w0 w' F' bm (A.load th x) ∧ VW w' v bm th (made + 1) ∧ ¬ F' v ∧ (∀ b, b < w.heap.size → ¬ F b → ¬ F' b) ∧ Fr (fun b => F b ∨ b = v) w w' := by
  obtain ⟨q, r, tv, rows, hx⟩ := h.mine.1
  exact (Load_x hx hv x h0 ht.n ht.t hm0 hm1).mono fun e w' hh => ⟨hh.1, h.did hF hB (Blk.lt hv) hh.2⟩
theorem Store_o (h : Own w0 w F bm A) (hv : VW w v bm th made) (hF : ¬ F v) (hB : w0.heap.size ≤ v) (x u : Int) (h0 : 0 ≤ x) (ht : A.Fit) (hm0 : 0 ≤ made) (hm1 : made ≤ 1000000000) :
    Calls Try.prog 14 #[.pointer (some ⟨v, 0, none⟩), .int .u64 x, .int .u64 u] w fun e w' => e = .returned (.tuple #[]) ∧ ∃ F', Own w0 w' F' bm (A.store th x u) ∧ VW w' v bm th (made + 1) ∧ ¬ F' v ∧ (∀ b, b < w.heap.size → ¬ F b → ¬ F' b) ∧ Fr (fun b => F b ∨ b = v) w w' := by
  obtain ⟨q, r, tv, rows, hx⟩ := h.mine.1
  exact (Store_x hx hv x u h0 ht.n ht.t hm0 hm1).mono fun e w' hh => ⟨hh.1, h.did hF hB (Blk.lt hv) hh.2⟩
theorem Cas_o (h : Own w0 w F bm A) (hv : VW w v bm th made) (hF : ¬ F v) (hB : w0.heap.size ≤ v) (x o u : Int) (h0 : 0 ≤ x) (ht : A.Fit) (hm0 : 0 ≤ made) (hm1 : made ≤ 1000000000) :
    Calls Try.prog 98 #[.pointer (some ⟨v, 0, none⟩), .int .u64 x, .int .u64 o, .int .u64 u] w fun e w' => e = .returned (.bool (A.hit x o)) ∧ ∃ F', Own w0 w' F' bm (A.cas th x o u) ∧ VW w' v bm th (made + 1) ∧ ¬ F' v ∧ (∀ b, b < w.heap.size → ¬ F b → ¬ F' b) ∧ Fr (fun b => F b ∨ b = v) w w' := by
  obtain ⟨q, r, tv, rows, hx⟩ := h.mine.1
  exact (Cas_x hx hv x o u h0 ht.n ht.t hm0 hm1).mono fun e w' hh => ⟨hh.1, h.did hF hB (Blk.lt hv) hh.2⟩
theorem Add_o (h : Own w0 w F bm A) (hv : VW w v bm th made) (hF : ¬ F v) (hB : w0.heap.size ≤ v) (x u : Int) (h0 : 0 ≤ x) (ht : A.Fit) (hm0 : 0 ≤ made) (hm1 : made ≤ 1000000000) :
    Calls Try.prog 99 #[.pointer (some ⟨v, 0, none⟩), .int .u64 x, .int .u64 u] w fun e w' => e = .returned (.int .u64 (A.peek x)) ∧ ∃ F', Own w0 w' F' bm (A.add th x u) ∧ VW w' v bm th (made + 1) ∧ ¬ F' v ∧ (∀ b, b < w.heap.size → ¬ F b → ¬ F' b) ∧ Fr (fun b => F b ∨ b = v) w w' := by
  obtain ⟨q, r, tv, rows, hx⟩ := h.mine.1
  exact (Add_x hx hv x u h0 ht.n ht.t hm0 hm1).mono fun e w' hh => ⟨hh.1, h.did hF hB (Blk.lt hv) hh.2⟩
theorem Alloc_o (h : Own w0 w F bm A) (hv : VW w v bm th made) (hF : ¬ F v) (hB : w0.heap.size ≤ v) (ha : VA w av vs) (ho : vs ≠ [] → Off av F) (hl : vs.length ≤ 1000000000) (ht : A.Fit) (hm0 : 0 ≤ made) (hm1 : made ≤ 1000000000) :
    Calls Try.prog 100 #[.pointer (some ⟨v, 0, none⟩), av] w fun e w' => e = .returned (.int .u64 (A.spot vs)) ∧ ∃ F', Own w0 w' F' bm (A.alloc th vs) ∧ VW w' v bm th (made + 1) ∧ ¬ F' v ∧ (∀ b, b < w.heap.size → ¬ F b → ¬ F' b) ∧ Fr (fun b => F b ∨ b = v) w w' := by
  obtain ⟨q, r, tv, rows, hx⟩ := h.mine.1
  exact (Alloc_x hx hv hF ha ho hl ht.x ht.n ht.t hm0 hm1).mono fun e w' hh => ⟨hh.1, h.did hF hB (Blk.lt hv) hh.2⟩
theorem peek_o (h : Own w0 w F bm A) (x : Int) (h0 : 0 ≤ x) (ht : A.Fit) : Calls Try.prog 29 #[.pointer (some ⟨bm, 0, none⟩), .int .u64 x] w fun e w' => e = .returned (.int .u64 (A.peek x)) ∧ w = w' := by
  obtain ⟨q, r, tv, rows, hx⟩ := h.mine.1
  exact peek_any hx x h0 ht.n
theorem Load_nil (w : World) (x : Value) : Calls Try.prog 50 #[.pointer none, x] w fun e w' => e = .returned (.int .u64 0) ∧ w = w' := by
  go_enter Try.func50, Try.ntmps50
  go_wp2
  go_ret
  exact ⟨rfl, rfl⟩
theorem Store_nil (w : World) (x : Value) (y : Value) : Calls Try.prog 14 #[.pointer none, x, y] w fun e w' => e = .returned (.tuple #[]) ∧ w = w' := by
  go_enter Try.func14, Try.ntmps14
  go_wp2_with fail
  ((try simp only [Exit.inBlock, Exit.then]); refine bodyPost_ret (results_none rfl _ _ _) rfl ?_)
  exact ⟨rfl, rfl⟩
theorem Cas_nil (w : World) (x : Value) (y : Value) (z : Value) : Calls Try.prog 98 #[.pointer none, x, y, z] w fun e w' => e = .returned (.bool false) ∧ w = w' := by
  go_enter Try.func98, Try.ntmps98
  go_wp2
  go_ret
  exact ⟨rfl, rfl⟩
theorem Add_nil (w : World) (x : Value) (y : Value) : Calls Try.prog 99 #[.pointer none, x, y] w fun e w' => e = .returned (.int .u64 0) ∧ w = w' := by
  go_enter Try.func99, Try.ntmps99
  go_wp2
  go_ret
  exact ⟨rfl, rfl⟩
theorem Alloc_nil (w : World) (x : Value) : Calls Try.prog 100 #[.pointer none, x] w fun e w' => e = .returned (.int .u64 0) ∧ w = w' := by
  go_enter Try.func100, Try.ntmps100
  go_wp2
  go_ret
  exact ⟨rfl, rfl⟩
theorem Accesses_nil (w : World) : Calls Try.prog 18 #[.pointer none] w fun e w' => e = .returned (.int .i64 0) ∧ w = w' := by
  go_enter Try.func18, Try.ntmps18
  go_wp2
  go_ret
  exact ⟨rfl, rfl⟩
theorem MView_nil (w : World) (x : Value) : Calls Try.prog 13 #[.pointer none, x] w fun e w' => e = .returned (.pointer none) ∧ w = w' := by
  go_enter Try.func13, Try.ntmps13
  go_wp2
  go_ret
  exact ⟨rfl, rfl⟩
theorem MLive_nil (w : World) : Calls Try.prog 73 #[.pointer none] w fun e w' => e = .returned (.bool false) ∧ w = w' := by
  go_enter Try.func73, Try.ntmps73
  go_wp2
  go_ret
  exact ⟨rfl, rfl⟩
theorem MPeek_nil (w : World) (x : Value) : Calls Try.prog 29 #[.pointer none, x] w fun e w' => e = .returned (.int .u64 0) ∧ w = w' := by
  go_enter Try.func29, Try.ntmps29
  go_wp2
  go_ret
  exact ⟨rfl, rfl⟩
theorem MTrace_nil (w : World) : Calls Try.prog 38 #[.pointer none] w fun e w' => e = .returned (.slice none 0 0) ∧ w = w' := by
  go_enter Try.func38, Try.ntmps38
  go_wp2
  go_ret
  exact ⟨rfl, rfl⟩
theorem MMade_nil (w : World) : Calls Try.prog 57 #[.pointer none] w fun e w' => e = .returned (.int .i64 0) ∧ w = w' := by
  go_enter Try.func57, Try.ntmps57
  go_wp2
  go_ret
  exact ⟨rfl, rfl⟩
theorem Live_any (h : PMx w F bm q r tv rows A) : Calls Try.prog 73 #[.pointer (some ⟨bm, 0, none⟩)] w fun e w' => e = .returned (.bool false) ∧ w = w' := by
  have c1 : w.cell? ⟨bm, 1, none⟩ = some _ := h.bM.cell 1
  go_enter Try.func73, Try.ntmps73
  go_wp2
  go_ret
  exact ⟨rfl, rfl⟩
theorem Made_any (h : PMx w F bm q r tv rows A) : Calls Try.prog 57 #[.pointer (some ⟨bm, 0, none⟩)] w fun e w' => e = .returned (.int .i64 A.trace.length) ∧ w = w' := by
  have c1 : w.cell? ⟨bm, 2, none⟩ = some _ := h.bM.cell 2
  have hl := h.len
  obtain ⟨p, c, htv⟩ : ∃ p c, tv = .slice p rows.length c := by
    rcases h.own.2 with ⟨h1, h0⟩ | ⟨g, cap, cur, h1, _⟩
    · exact ⟨none, 0, by rw [h1, h0]⟩
    · exact ⟨_, _, h1⟩
  subst htv
  rw [hl] at c1
  clear h hl
  go_enter Try.func57, Try.ntmps57
  go_wp2
  go_ret
  exact ⟨rfl, rfl⟩
end
end Go.Proofs.Ytkaplifhaafpdaa
end
section
/-
  Words for rows that are handed out: what an append does to the row's block; a row's cells one by one. No condition.
-/
namespace Go.Proofs.Ytkaplifhaafpdaa
open Go Go.RowKit
set_option linter.unusedSimpArgs false
set_option linter.unusedVariables false
section
variable {P : Program} {w w' : World} {B g n c m : Nat} {e : TypeId} {size : Nat} {v u : Value} {xs ys : List Value}
theorem bk_form (h : w.ownsRow B e size v n xs) : ∃ p c, v = .slice p n c := by
  rcases h.2 with ⟨h1, h0⟩ | ⟨g, cap, cur, h1, _⟩
  · exact ⟨none, 0, by rw [h1, h0]⟩
  · exact ⟨_, _, h1⟩
theorem bk_form1 (h : w.ownsRow B e size v n xs) (hn : 0 < n) : ∃ g c, v = .slice (some ⟨g, 0, none⟩) n c ∧ B ≤ g ∧ g < w.heap.size := by
  rcases h.2 with ⟨h1, h0⟩ | ⟨g, cap, cur, h1, hb, hh, _⟩
  · omega
  · exact ⟨_, _, h1, hb, Blk.lt (t := e) hh⟩
theorem bk_cold (h : w.ownsRow B e size (.slice (some ⟨g, 0, none⟩) n c) n xs) (j : Nat) : w.frozen? ⟨g, j, none⟩ = false := by
  rcases h.2 with ⟨h0, _⟩ | ⟨g', cap, cur, hv, hb, hh, _⟩
  · cases h0
  · obtain rfl : g' = g := by injection hv with a b c; injection a with a; injection a with a; exact a.symm
    exact Blk.cold (t := e) hh j
theorem bk_put {j : Nat} (h : w.ownsRow B e size (.slice (some ⟨g, 0, none⟩) n c) n xs) (hj : j < n * size) (u : Value) :
    (w.setCell ⟨g, j, none⟩ u).ownsRow B e size (.slice (some ⟨g, 0, none⟩) n c) n (xs.set j u) := by
  refine ⟨by simpa using h.1, ?_⟩
  rcases h.2 with ⟨h0, _⟩ | ⟨g', cap, cur, hv, hb, hh, h1, h2, h3, h4⟩
  · cases h0
  · obtain ⟨rfl, rfl⟩ : g' = g ∧ cap = c := by injection hv with a b c; injection a with a; injection a with a; exact ⟨a.symm, c.symm⟩
    refine .inr ⟨g', cap, cur.setIfInBounds j u, rfl, hb, ?_, h1, h2, by simpa using h3, ?_⟩
    · exact Blk.put (t := e) hh j u
    · rw [← h4, Array.toList_setIfInBounds, List.take_set]
theorem bk_blk (h : w.ownsRow B e size v n xs) (hg : v.ownBlock = some g) : ∃ cs, Blk w g e cs := by
  rcases h.2 with ⟨rfl, _⟩ | ⟨g', cap, cur, rfl, _, hh, _⟩
  · simp [Value.ownBlock] at hg
  · have : g' = g := by simpa [Value.ownBlock] using hg
    subst this
    exact ⟨_, hh⟩
theorem bk_prefix (h : w.ownsRow B e size (.slice (some ⟨g, 0, none⟩) n c) n xs) (h' : w'.ownsRow B e size (.slice (some ⟨g, 0, none⟩) m c) m ys) (hm : n ≤ m) (hx : xs = ys.take (n * size)) :
    w'.ownsRow B e size (.slice (some ⟨g, 0, none⟩) n c) n xs := by
  refine ⟨h.1, ?_⟩
  rcases h'.2 with ⟨h0, _⟩ | ⟨g', cap, cur, hv, hb, hh, h1, h2, h3, h4⟩
  · cases h0
  · obtain ⟨rfl, rfl⟩ : g' = g ∧ cap = c := by injection hv with a b c; injection a with a; injection a with a; exact ⟨a.symm, c.symm⟩
    refine .inr ⟨g', cap, cur, rfl, hb, hh, Nat.le_trans hm h1, h2, h3, ?_⟩
    rw [hx, ← h4, List.take_take, Nat.min_eq_left (Nat.mul_le_mul_right _ hm)]
/-- what an append does: it stays in its block, or goes to a new one -/
def Fate (w w' : World) (v v' : Value) (n m : Nat) : Prop :=
  (∃ g c, v = .slice (some ⟨g, 0, none⟩) n c ∧ v' = .slice (some ⟨g, 0, none⟩) (n + m) c ∧ w.grownBy w' (some g)) ∨ (v'.ownBlock = some w.heap.size ∧ w.grownBy w' none)
theorem run_append_fate (base : Nat) (t ty : TypeId) (i : TypeInfo) (z : Value) (bytes : Nat) (ht : P.underlying t = some (.slice e)) (hi : P.info? e = some i) (hz : i.zero = some z)
    (hsize : i.size = size) (hby : i.bytes = bytes) (hzs : z.cells.size = size) (hsz : 0 < size) (hown : w.ownsRow base e size v n xs)
    (a : Addr) (news : List Value) (hl : news.length = m * size) (hnews : ∀ j u, news[j]? = some u → w.cell? (a.add j) = some u) (h1 : ∀ u ∈ news, u.oneCell' = true) (hm : 0 < m)
    (h63 : n + m ≤ maxLen) (hbytes : (n + m) * bytes ≤ 140737488355328) (hbase : base ≤ w.heap.size) :
    ∃ v' w', (Builtin.append_ #[t, t] ty #[v, .slice (some a) m c]).run P w = .ok v' w' ∧ w'.ownsRow base e size v' (n + m) (xs ++ news) ∧ Fate w w' v v' n m := by
  obtain ⟨v', w', hr, h2, h3, h4, h5⟩ := run_append_own_at (P := P) w base t ty e i z size bytes ht hi hz hsize hby hzs hsz v n xs hown a m c news hl hnews h1 h63 hbytes hbase
  refine ⟨v', w', hr, h2, ?_⟩
  have hsmall : n + m ≤ 9223372036854775807 := by simp only [maxLen] at h63; omega
  rcases hown.2 with ⟨rfl, rfl⟩ | ⟨g, cap, cur, rfl, hbg, hg, hnc, hcm, hcs, htake⟩
  · have hr2 := run_append_nil (P := P) w t ty e i z ht hi hz a m c news (by rw [hsize]; exact hl) hnews (by omega) (by omega) (by rw [hby]; have := hbytes; rw [Nat.zero_add] at this; omega)
    rw [hr] at hr2
    injection hr2 with e1 e2
    subst e1 e2
    exact .inr ⟨rfl, ⟨rfl, rfl, rfl, by simp, fun k hk _ => heap_alloc_old w.drew _ hk⟩⟩
  · by_cases hroom : n + m ≤ cap
    · have hfit : n * i.size + news.length ≤ cur.size := by rw [hsize, hl, hcs, ← Nat.add_mul]; exact Nat.mul_le_mul_right _ hroom
      have hr2 := run_append_room (P := P) w t ty e i ht hi g n cap cur hg a m c news (by rw [hsize]; exact hl) hnews h1 hroom hfit
      rw [hr] at hr2
      injection hr2 with e1 e2
      exact .inl ⟨g, cap, rfl, e1, h3⟩
    · have holds : ∀ j u, xs[j]? = some u → w.cell? ((⟨g, 0, none⟩ : Addr).add j) = some u := hown.cells (g := g) rfl
      have hr2 := run_append_grow (P := P) w t ty e i z ht hi hz ⟨g, 0, none⟩ n cap xs (by rw [hsize]; exact hown.1) holds a m c news (by rw [hsize]; exact hl) hnews (by omega) (by omega) (growslice_fits (by omega) (by rw [hby]; exact hbytes))
      rw [hr] at hr2
      injection hr2 with e1 e2
      subst e1 e2
      exact .inr ⟨rfl, ⟨rfl, rfl, rfl, by simp, fun k hk _ => heap_alloc_old w.drew _ hk⟩⟩
theorem wpList_append_fate {ops : Array Oper} {rest : List Oper} {o : Oper} {a : Act} {Q : Exit → Act → World → Prop} (hgd : o.guard = none) (s x : Operand) (t : TypeId)
    (ho : o.op = .call { callee := .builtin .append, args := #[s, x], argTypes := #[t, t] })
    (base : Nat) (e : TypeId) (i : TypeInfo) (z : Value) (size bytes : Nat) (ht : P.underlying t = some (.slice e)) (hi : P.info? e = some i) (hz : i.zero = some z)
    (hsize : i.size = size) (hby : i.bytes = bytes) (hzs : z.cells.size = size) (hsz : 0 < size)
    (v : Value) (n : Nat) (xs : List Value) (hs : a.eval s = v) (hown : w.ownsRow base e size v n xs)
    (ad : Addr) (m c : Nat) (news : List Value) (hx : a.eval x = .slice (some ad) m c) (hl : news.length = m * size) (hnews : ∀ j u, news[j]? = some u → w.cell? (ad.add j) = some u) (h1 : ∀ u ∈ news, u.oneCell' = true) (hm : 0 < m)
    (h63 : n + m ≤ maxLen) (hbytes : (n + m) * bytes ≤ 140737488355328) (hbase : base ≤ w.heap.size)
    (h : ∀ v' w', w'.ownsRow base e size v' (n + m) (xs ++ news) → Fate w w' v v' n m → wpList P ops Q rest (a.put o.dst v') w') :
    wpList P ops Q (o :: rest) a w := by
  refine wpList_plain hgd fun K hK => ?_
  obtain ⟨v', w', hr, h2, h3⟩ := run_append_fate (P := P) base t o.type i z bytes ht hi hz hsize hby hzs hsz hown ad (c := c) news hl hnews h1 hm h63 hbytes hbase
  unfold Oper.wp execOp
  simp only [ho, resolve, invoke, builtin, Sem.run_bind, Sem.run_pure, Result.andThen_ok, List.map_toArray, List.map_cons, List.map_nil, hs, hx, hr]
  exact hK _ _ (h v' w' h2 h3)
theorem Fate.szle (h : Fate w w' v u n m) : w.heap.size ≤ w'.heap.size := by
  rcases h with ⟨_, _, _, _, h⟩ | ⟨_, h⟩ <;> exact h.size
theorem Fate.grown (h : Fate w w' v u n m) : w.grownBy w' v.ownBlock := by
  rcases h with ⟨_, _, rfl, _, h⟩ | ⟨_, h⟩
  · exact h
  · exact ⟨h.os, h.tape, h.output, h.size, fun k hk _ => h.block k hk (by simp)⟩
end
end Go.Proofs.Ytkaplifhaafpdaa
end

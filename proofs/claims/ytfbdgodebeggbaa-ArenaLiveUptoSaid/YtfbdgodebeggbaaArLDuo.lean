/-
  A plain memory and a live one side by side, each with a view: the calls through either. No condition.
-/
import Derived.Test.YtfbdgodebeggbaaArLNew
import Derived.Test.YtfbdgodebeggbaaArDoes
namespace Go.Proofs.Ytfbdgodebeggbaa
open Go Go.RowKit
set_option linter.unusedSimpArgs false
set_option linter.unusedVariables false
def G3 (bs q r : Nat) : Nat → Prop := fun b => b = bs ∨ b = q ∨ b = r
/-- two memories made since w0 -/
structure Pair2 (w0 : World) (bm bs q r : Nat) (A Al : Mem) (F : Nat → Prop) (w : World) : Prop where
  own : Own w0 w F bm A
  sh : SMx w (G3 bs q r) bs q r Al
  base : ∀ b, G3 bs q r b → w0.heap.size ≤ b
  dis : ∀ b, G3 bs q r b → ¬ F b
/-- with a view of each, and an operation's cells -/
structure Duo (w0 : World) (bm bs q r v vl ob : Nat) (th : Int) (cs : Array Value) (A Al : Mem) (ma ml : Int) (F : Nat → Prop) (w : World) : Prop where
  two : Pair2 w0 bm bs q r A Al F w
  vw : VW w v bm th ma
  vl' : VW w vl bs th ml
  ob' : Blk w ob 92 cs
  nv : ¬ F v
  nvl : ¬ F vl
  nob : ¬ F ob
  bv : w0.heap.size ≤ v
  bvl : w0.heap.size ≤ vl
  ne : v ≠ vl
section
variable {w0 w w' w1 : World} {F F' : Nat → Prop} {bm bs q r v vl ob : Nat} {th ma ml : Int} {cs : Array Value} {A Al A' Al' : Mem} {vs : List Int} {av : Value}
theorem Pair2.far (h : Pair2 w0 bm bs q r A Al F w) {S : Nat → Prop} (hf : Fr S w w') (h1 : ∀ k, F k → ¬ S k) (h2 : ∀ k, G3 bs q r k → ¬ S k) (hB : ∀ k, k < w0.heap.size → ¬ S k) : Pair2 w0 bm bs q r A Al F w' :=
  ⟨h.own.fr hf h1 hB, h.sh.fr hf h2, h.base, h.dis⟩
theorem Pair2.bel (h : Pair2 w0 bm bs q r A Al F w) (hb : Below w.heap.size w w') : Pair2 w0 bm bs q r A Al F w' :=
  h.far (Fr.of_below (S := fun _ => False) hb) (fun _ _ e => e) (fun _ _ e => e) (fun _ _ e => e)
theorem Pair2.lt (h : Pair2 w0 bm bs q r A Al F w) {b : Nat} (hb : G3 bs q r b) : b < w.heap.size := by
  rcases hb with rfl | rfl | rfl
  · exact h.sh.bM.lt
  · exact h.sh.bQ.lt
  · exact h.sh.bR.lt
theorem Duo.G_v (h : Duo w0 bm bs q r v vl ob th cs A Al ma ml F w) {b : Nat} (hb : G3 bs q r b) : b ≠ v := by
  rcases hb with rfl | rfl | rfl
  · exact Blk.ne h.two.sh.bM h.vw (by decide)
  · exact Blk.ne h.two.sh.bQ h.vw (by decide)
  · exact Blk.ne h.two.sh.bR h.vw (by decide)
theorem Duo.G_vl (h : Duo w0 bm bs q r v vl ob th cs A Al ma ml F w) {b : Nat} (hb : G3 bs q r b) : b ≠ vl := by
  rcases hb with rfl | rfl | rfl
  · exact Blk.ne h.two.sh.bM h.vl' (by decide)
  · exact Blk.ne h.two.sh.bQ h.vl' (by decide)
  · exact Blk.ne h.two.sh.bR h.vl' (by decide)
theorem Duo.G_ob (h : Duo w0 bm bs q r v vl ob th cs A Al ma ml F w) {b : Nat} (hb : G3 bs q r b) : b ≠ ob := by
  rcases hb with rfl | rfl | rfl
  · exact Blk.ne h.two.sh.bM h.ob' (by decide)
  · exact Blk.ne h.two.sh.bQ h.ob' (by decide)
  · exact Blk.ne h.two.sh.bR h.ob' (by decide)
theorem Duo.drawn (h : Duo w0 bm bs q r v vl ob th cs A Al ma ml F w) (n : Nat) : Duo w0 bm bs q r v vl ob th cs A Al ma ml F (w.drewN n) :=
  have hf := (Fr.refl (fun _ => False) w).drawn n
  ⟨h.two.far hf (fun _ _ e => e) (fun _ _ e => e) (fun _ _ e => e), h.vw.fr hf (fun e => e), h.vl'.fr hf (fun e => e), h.ob'.fr hf (fun e => e), h.nv, h.nvl, h.nob, h.bv, h.bvl, h.ne⟩
/-- a call through the plain memory's view -/
theorem Duo.stepP (h : Duo w0 bm bs q r v vl ob th cs A Al ma ml F w) (hP : ∃ F', Own w0 w' F' bm A' ∧ VW w' v bm th (ma + 1) ∧ ¬ F' v ∧ (∀ b, b < w.heap.size → ¬ F b → ¬ F' b) ∧ Fr (fun b => F b ∨ b = v) w w') :
    ∃ F', Duo w0 bm bs q r v vl ob th cs A' Al (ma + 1) ml F' w' := by
  obtain ⟨F', o, hv, n, hk, hf⟩ := hP
  have hob : ob ≠ v := Blk.ne h.ob' h.vw (by decide)
  refine ⟨F', ⟨o, h.two.sh.fr hf ?_, h.two.base, fun b hb => hk b (h.two.lt hb) (h.two.dis b hb)⟩, hv, h.vl'.fr hf ?_, h.ob'.fr hf ?_, n, hk _ (Blk.lt h.vl') h.nvl, hk _ h.ob'.lt h.nob, h.bv, h.bvl, h.ne⟩
  · rintro k hk' (e | e)
    · exact h.two.dis k hk' e
    · exact h.G_v hk' e
  · rintro (e | e)
    · exact h.nvl e
    · exact h.ne e.symm
  · rintro (e | e)
    · exact h.nob e
    · exact hob e
/-- a call through the live memory's view -/
theorem Duo.stepL (h : Duo w0 bm bs q r v vl ob th cs A Al ma ml F w) (hL : LDid w w' (G3 bs q r) bs q r vl th ml Al') :
    Duo w0 bm bs q r v vl ob th cs A Al' ma (ml + 1) F w' := by
  obtain ⟨hs, hv, hf⟩ := hL
  have hob : ob ≠ vl := Blk.ne h.ob' h.vl' (by decide)
  refine ⟨⟨h.two.own.fr hf ?_ ?_, hs, h.two.base, h.two.dis⟩, h.vw.fr hf ?_, hv, h.ob'.fr hf ?_, h.nv, h.nvl, h.nob, h.bv, h.bvl, h.ne⟩
  · rintro k hk (e | e)
    · exact h.two.dis k e hk
    · exact h.nvl (e ▸ hk)
  · rintro k hk (e | e)
    · have := h.two.base k e; omega
    · have := h.bvl; omega
  · rintro (e | e)
    · exact h.G_v e rfl
    · exact h.ne e
  · rintro (e | e)
    · exact h.G_ob e rfl
    · exact hob e
theorem Duo.nG (h : Duo w0 bm bs q r v vl ob th cs A Al ma ml F w) : ¬ G3 bs q r vl := fun e => h.G_vl e rfl
/-- the relation that a round carries: some set of blocks -/
def DuoE (w0 : World) (bm bs q r v vl ob : Nat) (th : Int) (cs : Array Value) (A Al : Mem) (ma ml : Int) (w : World) : Prop := ∃ F, Duo w0 bm bs q r v vl ob th cs A Al ma ml F w
theorem DuoE.drawn (h : DuoE w0 bm bs q r v vl ob th cs A Al ma ml w) (n : Nat) : DuoE w0 bm bs q r v vl ob th cs A Al ma ml (w.drewN n) := let ⟨F, h⟩ := h; ⟨F, h.drawn n⟩
theorem DuoE.cell (h : DuoE w0 bm bs q r v vl ob th cs A Al ma ml w) (i : Nat) : w.cell? ⟨ob, i, none⟩ = cs[i]? := let ⟨_, h⟩ := h; h.ob'.cell i
theorem P_Load (h : DuoE w0 bm bs q r v vl ob th cs A Al ma ml w) (x : Int) (h0 : 0 ≤ x) (ht : A.Fit) (hm0 : 0 ≤ ma) (hm1 : ma ≤ 1000000000) :
    Calls Try.prog 36 #[.pointer (some ⟨v, 0, none⟩), .int .u64 x] w fun e w' => e = .returned (.int .u64 (A.peek x)) ∧ DuoE w0 bm bs q r v vl ob th cs (A.load th x) Al (ma + 1) ml w' := by
  obtain ⟨F, h⟩ := h
  exact (Load_o h.two.own h.vw h.nv h.bv x h0 ht hm0 hm1).mono fun e w' hh => ⟨hh.1, h.stepP hh.2⟩
theorem P_Store (h : DuoE w0 bm bs q r v vl ob th cs A Al ma ml w) (x u : Int) (h0 : 0 ≤ x) (ht : A.Fit) (hm0 : 0 ≤ ma) (hm1 : ma ≤ 1000000000) :
    Calls Try.prog 37 #[.pointer (some ⟨v, 0, none⟩), .int .u64 x, .int .u64 u] w fun e w' => e = .returned (.tuple #[]) ∧ DuoE w0 bm bs q r v vl ob th cs (A.store th x u) Al (ma + 1) ml w' := by
  obtain ⟨F, h⟩ := h
  exact (Store_o h.two.own h.vw h.nv h.bv x u h0 ht hm0 hm1).mono fun e w' hh => ⟨hh.1, h.stepP hh.2⟩
theorem P_Cas (h : DuoE w0 bm bs q r v vl ob th cs A Al ma ml w) (x o u : Int) (h0 : 0 ≤ x) (ht : A.Fit) (hm0 : 0 ≤ ma) (hm1 : ma ≤ 1000000000) :
    Calls Try.prog 38 #[.pointer (some ⟨v, 0, none⟩), .int .u64 x, .int .u64 o, .int .u64 u] w fun e w' => e = .returned (.bool (A.hit x o)) ∧ DuoE w0 bm bs q r v vl ob th cs (A.cas th x o u) Al (ma + 1) ml w' := by
  obtain ⟨F, h⟩ := h
  exact (Cas_o h.two.own h.vw h.nv h.bv x o u h0 ht hm0 hm1).mono fun e w' hh => ⟨hh.1, h.stepP hh.2⟩
theorem P_Add (h : DuoE w0 bm bs q r v vl ob th cs A Al ma ml w) (x u : Int) (h0 : 0 ≤ x) (ht : A.Fit) (hm0 : 0 ≤ ma) (hm1 : ma ≤ 1000000000) :
    Calls Try.prog 39 #[.pointer (some ⟨v, 0, none⟩), .int .u64 x, .int .u64 u] w fun e w' => e = .returned (.int .u64 (A.peek x)) ∧ DuoE w0 bm bs q r v vl ob th cs (A.add th x u) Al (ma + 1) ml w' := by
  obtain ⟨F, h⟩ := h
  exact (Add_o h.two.own h.vw h.nv h.bv x u h0 ht hm0 hm1).mono fun e w' hh => ⟨hh.1, h.stepP hh.2⟩
theorem P_Alloc (h : DuoE w0 bm bs q r v vl ob th cs A Al ma ml w) (ha : VA w0 av vs) (hl : vs.length ≤ 1000000000) (ht : A.Fit) (hm0 : 0 ≤ ma) (hm1 : ma ≤ 1000000000) :
    Calls Try.prog 29 #[.pointer (some ⟨v, 0, none⟩), av] w fun e w' => e = .returned (.int .u64 (A.spot vs)) ∧ DuoE w0 bm bs q r v vl ob th cs (A.alloc th vs) Al (ma + 1) ml w' := by
  obtain ⟨F, h⟩ := h
  exact (Alloc_o h.two.own h.vw h.nv h.bv (ha.below h.two.own.below) (ha.off (fun b hb => (h.two.own.mine.2 b hb).1)) hl ht hm0 hm1).mono fun e w' hh => ⟨hh.1, h.stepP hh.2⟩
theorem D_Load (h : DuoE w0 bm bs q r v vl ob th cs A Al ma ml w) (x : Int) (h0 : 0 ≤ x) (ht : Al.Fit) (hm0 : 0 ≤ ml) (hm1 : ml ≤ 1000000000) :
    Calls Try.prog 36 #[.pointer (some ⟨vl, 0, none⟩), .int .u64 x] w fun e w' => e = .returned (.int .u64 (Al.peek x)) ∧ DuoE w0 bm bs q r v vl ob th cs A (Al.load th x) ma (ml + 1) w' := by
  obtain ⟨F, h⟩ := h
  exact (L_Load h.two.sh h.vl' h.nG x h0 ht.n hm0 hm1).mono fun e w' hh => ⟨hh.1, F, h.stepL hh.2⟩
theorem D_Store (h : DuoE w0 bm bs q r v vl ob th cs A Al ma ml w) (x u : Int) (h0 : 0 ≤ x) (ht : Al.Fit) (hm0 : 0 ≤ ml) (hm1 : ml ≤ 1000000000) :
    Calls Try.prog 37 #[.pointer (some ⟨vl, 0, none⟩), .int .u64 x, .int .u64 u] w fun e w' => e = .returned (.tuple #[]) ∧ DuoE w0 bm bs q r v vl ob th cs A (Al.store th x u) ma (ml + 1) w' := by
  obtain ⟨F, h⟩ := h
  exact (L_Store h.two.sh h.vl' h.nG x u h0 ht.n hm0 hm1).mono fun e w' hh => ⟨hh.1, F, h.stepL hh.2⟩
theorem D_Cas (h : DuoE w0 bm bs q r v vl ob th cs A Al ma ml w) (x o u : Int) (h0 : 0 ≤ x) (ht : Al.Fit) (hm0 : 0 ≤ ml) (hm1 : ml ≤ 1000000000) :
    Calls Try.prog 38 #[.pointer (some ⟨vl, 0, none⟩), .int .u64 x, .int .u64 o, .int .u64 u] w fun e w' => e = .returned (.bool (Al.hit x o)) ∧ DuoE w0 bm bs q r v vl ob th cs A (Al.cas th x o u) ma (ml + 1) w' := by
  obtain ⟨F, h⟩ := h
  exact (L_Cas h.two.sh h.vl' h.nG x o u h0 ht.n hm0 hm1).mono fun e w' hh => ⟨hh.1, F, h.stepL hh.2⟩
theorem D_Add (h : DuoE w0 bm bs q r v vl ob th cs A Al ma ml w) (x u : Int) (h0 : 0 ≤ x) (ht : Al.Fit) (hwd : Al.wide) (hm0 : 0 ≤ ml) (hm1 : ml ≤ 1000000000) :
    Calls Try.prog 39 #[.pointer (some ⟨vl, 0, none⟩), .int .u64 x, .int .u64 u] w fun e w' => e = .returned (.int .u64 (Al.peek x)) ∧ DuoE w0 bm bs q r v vl ob th cs A (Al.add th x u) ma (ml + 1) w' := by
  obtain ⟨F, h⟩ := h
  exact (L_Add h.two.sh h.vl' h.nG hwd x u h0 ht.n hm0 hm1).mono fun e w' hh => ⟨hh.1, F, h.stepL hh.2⟩
theorem D_Alloc (h : DuoE w0 bm bs q r v vl ob th cs A Al ma ml w) (ha : VA w0 av vs) (hl : vs.length ≤ 1000000000) (ht : Al.Fit) (hm0 : 0 ≤ ml) (hm1 : ml ≤ 1000000000) :
    Calls Try.prog 29 #[.pointer (some ⟨vl, 0, none⟩), av] w fun e w' => e = .returned (.int .u64 (Al.spot vs)) ∧ DuoE w0 bm bs q r v vl ob th cs A (Al.alloc th vs) ma (ml + 1) w' := by
  obtain ⟨F, h⟩ := h
  exact (L_Alloc h.two.sh h.vl' h.nG (ha.below h.two.own.below) (ha.off h.two.base) hl ht.x ht.n hm0 hm1).mono fun e w' hh => ⟨hh.1, F, h.stepL hh.2⟩
/-- 64-bit words -/
def U64 (x : Int) : Prop := 0 ≤ x ∧ x ≤ 18446744073709551615
def Opr.words (x : Opr) : Prop := U64 x.a ∧ U64 x.b ∧ ∀ y ∈ x.vals, U64 y
theorem wide_set (h : A.wide) (i v : Int) (hv : U64 v) : (A.put i v).wide := by
  intro c hc
  rcases List.mem_or_eq_of_mem_set hc with hc | rfl
  · exact h c hc
  · exact hv
theorem wide_made (n : Nat) : (Mem.made n).wide := by
  intro c hc
  have := List.eq_of_mem_replicate hc
  subst this; exact ⟨by decide, by decide⟩
theorem does_wide {x : Opr} (hx : x.words) (h : A.wide) : (x.does A).wide := by
  unfold Opr.does
  split
  · exact h
  split
  · exact wide_set h _ _ hx.1
  split
  · show (if A.hit x.addr x.a then A.put x.addr x.b else A).wide
    split
    · exact wide_set h _ _ hx.2.1
    · exact h
  split
  · refine wide_set h _ _ ⟨?_, ?_⟩ <;> rw [IntKind.wrap_u64] <;> omega
  · show (if A.fits x.vals then A.laid x.vals else A).wide
    split
    · intro c hc
      simp only [Mem.laid, splice, List.mem_append] at hc
      rcases hc with hc | hc | hc
      · exact h c (List.mem_of_mem_take hc)
      · exact hx.2.2 c hc
      · exact h c (List.mem_of_mem_drop hc)
    · exact h
theorem doAll_wide {l : List Opr} (hl : ∀ x ∈ l, x.words) (h : A.wide) : (doAll A l).wide := by
  induction l generalizing A with
  | nil => exact h
  | cons x l ih => exact ih (fun y hy => hl y (List.mem_cons_of_mem _ hy)) (does_wide (hl x List.mem_cons_self) h)
end
end Go.Proofs.Ytfbdgodebeggbaa

/-
  Two threads of one Load each, on a memory: what they work on. A runner as New made it. No condition.
-/
import Derived.Test.YtkaplifhaafpdaaStL
import Derived.Test.YtkaplifhaafpdaaStPLoad
namespace Go.Proofs.Ytkaplifhaafpdaa
open Go Go.RowKit
set_option linter.unusedSimpArgs false
set_option linter.unusedVariables false
/-- a memory of the call's own with two views and two Loads -/
structure LE (w0 : World) (bm v0 v1 p0 p1 : Nat) (A : Mem) (m0 m1 : Int) (d0 d1 : Bool) (x0 x1 : Int) (E : Nat → Prop) (w : World) : Prop where
  own : ∃ F, Mine w w0.heap.size F bm A ∧ (¬ F v0 ∧ ¬ F v1 ∧ ¬ F p0 ∧ ¬ F p1) ∧ ∀ k, E k ↔ F k ∨ k = v0 ∨ k = v1 ∨ k = p0 ∨ k = p1
  vw0 : VW w v0 bm 0 m0
  vw1 : VW w v1 bm 1 m1
  ld0 : LD w p0 5 d0 x0
  ld1 : LD w p1 6 d1 x1
  nv : v0 ≠ v1
  np : p0 ≠ p1
  ge : w0.heap.size ≤ v0 ∧ w0.heap.size ≤ v1 ∧ w0.heap.size ≤ p0 ∧ w0.heap.size ≤ p1
section
variable {w0 w w' w1 w2 : World} {R S G F E E' U : Nat → Prop} {rp bm n pb v v0 v1 p0 p1 : Nat} {vws : List Nat} {T T' : List Thr} {x : Thr} {cs : Array Value} {tv ev av : Value} {ps : List (List Value)} {A : Mem} {m0 m1 x0 x1 : Int} {d0 d1 : Bool}
theorem LE.ok (w0 : World) (bm v0 v1 p0 p1 : Nat) (A : Mem) (m0 m1 : Int) (d0 d1 : Bool) (x0 x1 : Int) : EnvOK w0 bm (LE w0 bm v0 v1 p0 p1 A m0 m1 d0 d1 x0 x1) A.trace.length where
  st := by
    rintro E S w w' ⟨⟨F, hm, hn, he⟩, a, b, c, d, nv, np, ge⟩ hf hS
    have h0 := (he v0).2 (.inr (.inl rfl))
    have h1 := (he v1).2 (.inr (.inr (.inl rfl)))
    have h2 := (he p0).2 (.inr (.inr (.inr (.inl rfl))))
    have h3 := (he p1).2 (.inr (.inr (.inr (.inr rfl))))
    exact ⟨⟨F, hm.fr hf (fun k hk => hS k ((he k).2 (.inl hk))), hn, he⟩, a.fr hf (hS _ h0), b.fr hf (hS _ h1), Blk.fr c hf (hS _ h2), Blk.fr d hf (hS _ h3), nv, np, ge⟩
  pos := by
    rintro E w ⟨⟨F, hm, hn, he⟩, a, b, c, d, nv, np, ge⟩ k hk
    rcases (he k).1 hk with e | rfl | rfl | rfl | rfl
    · exact hm.2 k e
    · exact ⟨ge.1, Blk.lt a⟩
    · exact ⟨ge.2.1, Blk.lt b⟩
    · exact ⟨ge.2.2.1, Blk.lt c⟩
    · exact ⟨ge.2.2.2, Blk.lt d⟩
  made := by
    rintro E w ⟨⟨F, ⟨⟨q, r, tv, rows, hx⟩, _⟩, _⟩, _⟩
    exact Made_any hx
/-- the first thread's Load steps -/
theorem LE.step0 (hn : A.cells.length ≤ 4194304) (ht : A.trace.length ≤ 1000000000) (hm0 : 0 ≤ m0) (hm1 : m0 ≤ 1000000000) (E : Nat → Prop) (w1 : World) (h : LE w0 bm v0 v1 p0 p1 A m0 m1 false d1 x0 x1 E w1) :
    Calls Try.prog 17 #[.pointer (some ⟨p0, 0, none⟩), .pointer (some ⟨v0, 0, none⟩)] w1 fun e w' => e = .returned (.bool true) ∧ ∃ E', LE w0 bm v0 v1 p0 p1 (A.load 0 5) (m0 + 1) m1 true d1 (A.peek 5) x1 E' w' ∧ (∀ b, b < w1.heap.size → ¬ E b → ¬ E' b) ∧ Fr E w1 w' := by
  obtain ⟨⟨F, hm, hF, he⟩, a, b, c, d, nv, np, ge⟩ := h
  have hl : w0.heap.size ≤ w1.heap.size := Nat.le_trans ge.1 (Nat.le_of_lt (Blk.lt a))
  have hpv : p1 ≠ v0 := fun e => Blk.ne d (e ▸ a) (by decide) rfl
  have hpv2 : p0 ≠ v1 := fun e => Blk.ne c (e ▸ b) (by decide) rfl
  have hpv0 : p0 ≠ v0 := fun e => Blk.ne c (e ▸ a) (by decide) rfl
  refine (LStep_on hm.1 a c hF.2.2.1 (by decide) hn ht hm0 hm1).mono ?_
  rintro e w2 ⟨rfl, hm2, a2, c2, hf⟩
  have hb2 : VW w2 v1 bm 1 m1 := b.fr hf (by rintro (e | e | e); exact hF.2.1 e; exact nv e.symm; exact hpv2 e.symm)
  have hd2 : LD w2 p1 6 d1 x1 := Blk.fr d hf (by rintro (e | e | e); exact hF.2.2.2 e; exact hpv e; exact np e.symm)
  have h3 : PM w2 (Ext F w1) bm (A.load 0 5) := hm2.wide (fun _ e => e.1)
  obtain ⟨F2, hM, hk⟩ := hm.step hl h3
  refine ⟨rfl, fun k => F2 k ∨ k = v0 ∨ k = v1 ∨ k = p0 ∨ k = p1, ⟨⟨F2, hM, ⟨hk _ (Blk.lt a) hF.1, hk _ (Blk.lt b) hF.2.1, hk _ (Blk.lt c) hF.2.2.1, hk _ (Blk.lt d) hF.2.2.2⟩, fun k => Iff.rfl⟩, a2, hb2, c2, hd2, nv, np, ge⟩, ?_, hf.mono ?_⟩
  · rintro b hb hn (e | e)
    · exact hk b hb (fun e2 => hn ((he b).2 (.inl e2))) e
    · exact hn ((he b).2 (.inr e))
  · rintro k _ (e | e | e)
    · exact (he k).2 (.inl e)
    · exact (he k).2 (.inr (.inl e))
    · exact (he k).2 (.inr (.inr (.inr (.inl e))))
/-- the second thread's Load steps -/
theorem LE.step1 (hn : A.cells.length ≤ 4194304) (ht : A.trace.length ≤ 1000000000) (hm0 : 0 ≤ m1) (hm1 : m1 ≤ 1000000000) (E : Nat → Prop) (w1 : World) (h : LE w0 bm v0 v1 p0 p1 A m0 m1 d0 false x0 x1 E w1) :
    Calls Try.prog 17 #[.pointer (some ⟨p1, 0, none⟩), .pointer (some ⟨v1, 0, none⟩)] w1 fun e w' => e = .returned (.bool true) ∧ ∃ E', LE w0 bm v0 v1 p0 p1 (A.load 1 6) m0 (m1 + 1) d0 true x0 (A.peek 6) E' w' ∧ (∀ b, b < w1.heap.size → ¬ E b → ¬ E' b) ∧ Fr E w1 w' := by
  obtain ⟨⟨F, hm, hF, he⟩, a, b, c, d, nv, np, ge⟩ := h
  have hl : w0.heap.size ≤ w1.heap.size := Nat.le_trans ge.1 (Nat.le_of_lt (Blk.lt a))
  have hpv : p1 ≠ v0 := fun e => Blk.ne d (e ▸ a) (by decide) rfl
  have hpv2 : p0 ≠ v1 := fun e => Blk.ne c (e ▸ b) (by decide) rfl
  refine (LStep_on hm.1 b d hF.2.2.2 (by decide) hn ht hm0 hm1).mono ?_
  rintro e w2 ⟨rfl, hm2, b2, d2, hf⟩
  have ha2 : VW w2 v0 bm 0 m0 := a.fr hf (by rintro (e | e | e); exact hF.1 e; exact nv e; exact hpv e.symm)
  have hc2 : LD w2 p0 5 d0 x0 := Blk.fr c hf (by rintro (e | e | e); exact hF.2.2.1 e; exact hpv2 e; exact np e)
  have h3 : PM w2 (Ext F w1) bm (A.load 1 6) := hm2.wide (fun _ e => e.1)
  obtain ⟨F2, hM, hk⟩ := hm.step hl h3
  refine ⟨rfl, fun k => F2 k ∨ k = v0 ∨ k = v1 ∨ k = p0 ∨ k = p1, ⟨⟨F2, hM, ⟨hk _ (Blk.lt a) hF.1, hk _ (Blk.lt b) hF.2.1, hk _ (Blk.lt c) hF.2.2.1, hk _ (Blk.lt d) hF.2.2.2⟩, fun k => Iff.rfl⟩, ha2, b2, hc2, d2, nv, np, ge⟩, ?_, hf.mono ?_⟩
  · rintro b hb hn (e | e)
    · exact hk b hb (fun e2 => hn ((he b).2 (.inl e2))) e
    · exact hn ((he b).2 (.inr e))
  · rintro k _ (e | e | e)
    · exact (he k).2 (.inl e)
    · exact (he k).2 (.inr (.inr (.inl e)))
    · exact (he k).2 (.inr (.inr (.inr (.inr e))))
/-- a runner as New left it, apart from its views -/
theorem NewAt.ro {k : Nat} (h : NewAt w w1 rp bm ps k T vws cs tv) (hw : w0.heap.size ≤ w.heap.size) : RO w0 w1 (fun b => w.heap.size ≤ b ∧ b < w1.heap.size ∧ b ∉ vws) rp bm vws T 0 [] [] := by
  have hn : ∀ v ∈ vws, ∃ i : Nat, VW w1 v bm i 0 := by
    intro v hv
    obtain ⟨i, hi⟩ := List.getElem?_of_mem hv
    exact ⟨i, (h.vw i v hi).1⟩
  have hx := h.rx
  refine ⟨⟨cs, tv, .slice none 0 0, .slice none 0 0, hx.blk, hx.rc, hx.thr, fun x hxx => ⟨(hx.prc x hxx).1, fun g e => ⟨(hx.prc x hxx).2 g e, own_lt (hx.prc x hxx).1 e, fun hv => ?_⟩⟩, hx.evo, hx.avo, ⟨hx.fR, hx.blk.lt, fun hv => ?_⟩, fun g e => ⟨hx.fT g e, own_lt hx.thr e, fun hv => ?_⟩, (by intro g e; cases e), (by intro g e; cases e)⟩, fun k hk => ⟨Nat.le_trans hw hk.1, hk.2.1⟩⟩
  · obtain ⟨i, hv⟩ := hn g hv
    exact own_ne (hx.prc x hxx).1 hv (by decide) e
  · obtain ⟨i, hv⟩ := hn rp hv
    exact Blk.ne hx.blk hv (by decide) rfl
  · obtain ⟨i, hv⟩ := hn g hv
    exact own_ne hx.thr hv (by decide) e
end
end Go.Proofs.Ytkaplifhaafpdaa

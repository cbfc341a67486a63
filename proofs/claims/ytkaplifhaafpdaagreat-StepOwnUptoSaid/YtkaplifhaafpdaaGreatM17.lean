/-
  StZ, StZL: the texts of the proof, merged. No condition.
-/
import Derived.Test.YtkaplifhaafpdaaGreatM12
import Derived.Test.YtkaplifhaafpdaaGreatM16
section
/-
  The document's runner in the heap, and what its parts' steps leave of it. No condition.
-/
namespace Go.Proofs.YtkaplifhaafpdaaGreat
open Go Go.RowKit
set_option linter.unusedSimpArgs false
set_option linter.unusedVariables false
/-- what the document's runner holds -/
structure Zs where
  A : Mem
  calls : List Nat
  ats : List Nat
  steps : Nat
  evs : List Ev
  wh : List Int
  tolds : List (List Int)
def ns64 (l : List Nat) : List Value := l.map fun (n : Nat) => Value.int .i64 (n : Int)
def St.z (s : St) : Zs := ⟨s.A, s.th.map (·.call), s.th.map (·.at_), s.steps, s.evs, s.wh, s.th.map fun x => x.got.flatten⟩
def zcs (rm : Nat) (pv : Value) (n cg ag gg steps : Nat) (ev wv : Value) : Array Value := #[.pointer (some ⟨rm, 0, none⟩), pv, .slice (some ⟨cg, 0, none⟩) n n, .slice (some ⟨ag, 0, none⟩) n n, .int .i64 steps, ev, wv, .slice (some ⟨gg, 0, none⟩) n n]
/-- labels agree where memory was -/
def Agree (w : World) (lab lab' : Nat → Nat) : Prop := ∀ k, k < w.heap.size → lab' k = lab k
def relab (lab : Nat → Nat) (B L : Nat) : Nat → Nat := fun k => if B ≤ k then L else lab k
structure ZX (w : World) (lab : Nat → Nat) (q rm n : Nat) (pv : Value) (z : Zs) (cg ag gg : Nat) (ev wv : Value) (gvs : List Value) : Prop where
  blk : Blk w q 101 (zcs rm pv n cg ag gg z.steps ev wv)
  mem : RM w (fun k => lab k = 1) rm false z.A
  cB : Blk w cg 3 (ns64 z.calls).toArray
  aB : Blk w ag 3 (ns64 z.ats).toArray
  gB : Blk w gg 107 gvs.toArray
  evo : w.ownsRow 0 97 4 ev z.evs.length (z.evs.flatMap evC)
  who : w.ownsRow 0 3 1 wv z.wh.length (is64 z.wh)
  gvo : ∀ (t : Nat) v l, gvs[t]? = some v → z.tolds[t]? = some l → w.ownsRow 0 72 1 v l.length (us l)
  cl : z.calls.length = n
  al : z.ats.length = n
  gl : gvs.length = n
  tl : z.tolds.length = n
  lq : lab q = 2
  lc : lab cg = 3
  la : lab ag = 4
  lg : lab gg = 5
  le : ∀ g, ev.ownBlock = some g → lab g = 6
  lw : ∀ g, wv.ownBlock = some g → lab g = 7
  lv : ∀ (t : Nat) v g, gvs[t]? = some v → v.ownBlock = some g → lab g = 8 + t
/-- what stays when the blocks of some labels are written -/
structure ZParts (P : Nat → Prop) (w : World) (lab : Nat → Nat) (q rm n : Nat) (pv : Value) (z : Zs) (cg ag gg : Nat) (ev wv : Value) (gvs : List Value) : Prop where
  blk : ¬ P 2 → Blk w q 101 (zcs rm pv n cg ag gg z.steps ev wv)
  mem : ¬ P 1 → RM w (fun k => lab k = 1) rm false z.A
  cB : ¬ P 3 → Blk w cg 3 (ns64 z.calls).toArray
  aB : ¬ P 4 → Blk w ag 3 (ns64 z.ats).toArray
  gB : ¬ P 5 → Blk w gg 107 gvs.toArray
  evo : ¬ P 6 → w.ownsRow 0 97 4 ev z.evs.length (z.evs.flatMap evC)
  who : ¬ P 7 → w.ownsRow 0 3 1 wv z.wh.length (is64 z.wh)
  gvo : ∀ (t : Nat) v l, gvs[t]? = some v → z.tolds[t]? = some l → ¬ P (8 + t) → w.ownsRow 0 72 1 v l.length (us l)
  cl : z.calls.length = n
  al : z.ats.length = n
  gl : gvs.length = n
  tl : z.tolds.length = n
  lq : lab q = 2
  lc : lab cg = 3
  la : lab ag = 4
  lg : lab gg = 5
  le : ∀ g, ev.ownBlock = some g → lab g = 6
  lw : ∀ g, wv.ownBlock = some g → lab g = 7
  lv : ∀ (t : Nat) v g, gvs[t]? = some v → v.ownBlock = some g → lab g = 8 + t
/-- from w to w' only labelled memory was written; what was not labelled is not -/
structure Zk (w w' : World) (lab lab' : Nat → Nat) : Prop where
  ag : Agree w lab lab'
  fr : Fr (fun k => lab k ≠ 0) w w'
section
variable {w w' w1 w2 wy : World} {lab lab' lab2 : Nat → Nat} {q rm n cg ag gg t g c : Nat} {pv ev wv v : Value} {z : Zs} {gvs : List Value} {P : Nat → Prop} {S : Nat → Prop}
theorem Zk.refl (w : World) (lab : Nat → Nat) : Zk w w lab lab := ⟨fun _ _ => rfl, Fr.refl _ _⟩
theorem Zk.trans (h : Zk w w1 lab lab') (h2 : Zk w1 w2 lab' lab2) : Zk w w2 lab lab2 :=
  ⟨fun k hk => (h2.ag k (Nat.lt_of_lt_of_le hk h.fr.size)).trans (h.ag k hk), ⟨h2.fr.os.trans h.fr.os, h2.fr.tape.trans h.fr.tape, h2.fr.output.trans h.fr.output, Nat.le_trans h.fr.size h2.fr.size, fun k hk hn => (h2.fr.block k (Nat.lt_of_lt_of_le hk h.fr.size) (by rw [h.ag k hk]; exact hn)).trans (h.fr.block k hk hn)⟩⟩
theorem Zk.drawn (h : Zk w w1 lab lab') (n : Nat) : Zk w (w1.drewN n) lab lab' := ⟨h.ag, h.fr.drawn n⟩
theorem RM.tight2 {F : Nat → Prop} {lv : Bool} {A : Mem} (h : RM w F rm lv A) : RM w (fun b => F b ∧ b < w.heap.size) rm lv A := by
  obtain ⟨r, tv, rows, h⟩ := h
  refine ⟨r, tv, rows, h.bM, h.bR, h.own, h.fst, fun x hx => ?_, ⟨h.fM, h.bM.lt⟩, ⟨h.fR, h.bR.lt⟩, fun g e => ⟨h.fT g e, own_lt h.own e⟩⟩
  rcases h.vals x hx with h1 | ⟨h1, h2⟩
  · exact .inl h1
  · exact .inr ⟨h1, fun g e => ⟨⟨(h2 g e).1, own_lt h1 e⟩, (h2 g e).2⟩⟩
theorem ZX.mv (h : ZX w lab q rm n pv z cg ag gg ev wv gvs) (P : Nat → Prop) (hf : Fr (fun k => P (lab k)) w w') (ha : Agree w lab lab') : ZParts P w' lab' q rm n pv z cg ag gg ev wv gvs :=
  ⟨fun hn => h.blk.fr hf (by rw [h.lq]; exact hn), fun hn => (h.mem.tight2.fr hf (fun k hk => by rw [hk.1]; exact hn)).wide (fun k hk => by rw [ha k hk.2]; exact hk.1),
   fun hn => h.cB.fr hf (by rw [h.lc]; exact hn), fun hn => h.aB.fr hf (by rw [h.la]; exact hn), fun hn => h.gB.fr hf (by rw [h.lg]; exact hn),
   fun hn => own_fr h.evo hf (fun g e => by rw [h.le g e]; exact hn), fun hn => own_fr h.who hf (fun g e => by rw [h.lw g e]; exact hn),
   fun t v l hv hl hn => own_fr (h.gvo t v l hv hl) hf (fun g e => by rw [h.lv t v g hv e]; exact hn),
   h.cl, h.al, h.gl, h.tl, by rw [ha q h.blk.lt]; exact h.lq, by rw [ha cg h.cB.lt]; exact h.lc, by rw [ha ag h.aB.lt]; exact h.la, by rw [ha gg h.gB.lt]; exact h.lg,
   fun g e => by rw [ha g (own_lt h.evo e)]; exact h.le g e, fun g e => by rw [ha g (own_lt h.who e)]; exact h.lw g e,
   fun t v g hv e => by
    obtain ⟨l, hl⟩ : ∃ l, z.tolds[t]? = some l := ⟨_, List.getElem?_eq_getElem (by have := (List.getElem?_eq_some_iff.1 hv).1; rw [h.tl, ← h.gl]; exact this)⟩
    rw [ha g (own_lt (h.gvo t v l hv hl) e)]; exact h.lv t v g hv e⟩
theorem ZX.fr (h : ZX w lab q rm n pv z cg ag gg ev wv gvs) (hf : Fr S w w') (hS : ∀ k, lab k ≠ 0 → ¬ S k) (ha : Agree w lab lab') : ZX w' lab' q rm n pv z cg ag gg ev wv gvs := by
  have hp := h.mv (fun l => l = 0) (hf.mono (fun k _ hk => Classical.byContradiction fun e => hS k e hk)) ha
  exact ⟨hp.blk (by decide), hp.mem (by decide), hp.cB (by decide), hp.aB (by decide), hp.gB (by decide), hp.evo (by decide), hp.who (by decide), fun t v l hv hl => hp.gvo t v l hv hl (by omega), hp.cl, hp.al, hp.gl, hp.tl, hp.lq, hp.lc, hp.la, hp.lg, hp.le, hp.lw, hp.lv⟩
theorem ZX.drawn (h : ZX w lab q rm n pv z cg ag gg ev wv gvs) (m : Nat) : ZX (w.drewN m) lab q rm n pv z cg ag gg ev wv gvs := h.fr ((Fr.refl (fun _ => False) w).drawn m) (fun _ _ e => e) (fun _ _ => rfl)
/-- the steps are counted -/
theorem ZX.count (h : ZX w lab q rm n pv z cg ag gg ev wv gvs) (m : Nat) : ZX (w.setCell ⟨q, 4, none⟩ (.int .i64 m)) lab q rm n pv { z with steps := m } cg ag gg ev wv gvs ∧ Zk w (w.setCell ⟨q, 4, none⟩ (.int .i64 m)) lab lab := by
  have hf : Fr (fun k => lab k = 2) w (w.setCell ⟨q, 4, none⟩ (.int .i64 m)) := (Fr.refl (fun k => lab k = 2) w).put (p := ⟨q, 4, none⟩) (.inl h.lq) _
  have hp := h.mv (fun l => l = 2) hf (fun _ _ => rfl)
  exact ⟨⟨(h.blk.put 4 _).eq rfl, hp.mem (by decide), hp.cB (by decide), hp.aB (by decide), hp.gB (by decide), hp.evo (by decide), hp.who (by decide), fun t v l hv hl => hp.gvo t v l hv hl (by omega), hp.cl, hp.al, hp.gl, hp.tl, hp.lq, hp.lc, hp.la, hp.lg, hp.le, hp.lw, hp.lv⟩, fun _ _ => rfl, hf.mono (fun k _ e => by rw [e]; decide)⟩
/-- an event more -/
theorem ZX.event (h : ZX w lab q rm n pv z cg ag gg ev wv gvs) (hy : Fr (fun _ => False) w wy) {y : Ev} (hown : w1.ownsRow 0 97 4 (.slice (some ⟨g, 0, none⟩) (z.evs.length + 1) c) (z.evs.length + 1) (z.evs.flatMap evC ++ evC y)) (hgrow : wy.grownBy w1 ev.ownBlock) (hat : ev.ownBlock = some g ∨ w.heap.size ≤ g) :
    w1.cell? ⟨q, 5, none⟩ = some ev ∧ w1.frozen? ⟨q, 5, none⟩ = false ∧ (∀ b i, lab b = 3 ∨ lab b = 2 → b < w.heap.size → w1.cell? ⟨b, i, none⟩ = w.cell? ⟨b, i, none⟩) ∧
      Hid (∃ lab', ZX (w1.setCell ⟨q, 5, none⟩ (.slice (some ⟨g, 0, none⟩) (z.evs.length + 1) c)) lab' q rm n pv { z with evs := z.evs ++ [y] } cg ag gg (.slice (some ⟨g, 0, none⟩) (z.evs.length + 1) c) wv gvs ∧ Zk w (w1.setCell ⟨q, 5, none⟩ (.slice (some ⟨g, 0, none⟩) (z.evs.length + 1) c)) lab lab') := by
  have f1 : Fr (fun k => lab k = 6) w w1 := (hy.mono (fun _ _ e => e.elim)).grown hgrow (fun k e => .inl (h.le k e))
  have hq1 := h.blk.fr f1 (by rw [h.lq]; decide)
  have hf : Fr (fun k => lab k = 6 ∨ lab k = 2) w (w1.setCell ⟨q, 5, none⟩ (.slice (some ⟨g, 0, none⟩) (z.evs.length + 1) c)) := (f1.mono (fun _ _ e => .inl e)).put (p := ⟨q, 5, none⟩) (.inl (.inr h.lq)) _
  have ha : Agree w lab (relab lab w.heap.size 6) := fun k hk => by unfold relab; rw [if_neg (by omega)]
  have hp := h.mv (fun l => l = 6 ∨ l = 2) hf ha
  have hg : g ≠ q := fun e => own_ne hown hq1 (by decide) (by rw [e]; rfl)
  have hgl : relab lab w.heap.size 6 g = 6 := by
    unfold relab
    rcases hat with hat | hat
    · rw [if_neg (by have := own_lt h.evo hat; omega)]; exact h.le g hat
    · rw [if_pos hat]
  refine ⟨hq1.cell 5, hq1.cold 5, fun b i hb hl => ?_, relab lab w.heap.size 6, ⟨(hq1.put 5 _).eq rfl, hp.mem (by decide), hp.cB (by decide), hp.aB (by decide), hp.gB (by decide), ?_, hp.who (by decide), fun t v l hv hl => hp.gvo t v l hv hl (by omega), hp.cl, hp.al, hp.gl, hp.tl, hp.lq, hp.lc, hp.la, hp.lg, fun g' e => ?_, hp.lw, hp.lv⟩, ha, hf.mono (fun k _ e => by rcases e with e | e <;> rw [e] <;> decide)⟩
  · have := f1.block b hl (by rcases hb with hb | hb <;> rw [hb] <;> decide)
    unfold World.cell?
    rw [this]
  · have := own_fr hown ((Fr.refl (fun b => b = q) w1).put (p := ⟨q, 5, none⟩) (.inl rfl) (.slice (some ⟨g, 0, none⟩) (z.evs.length + 1) c)) (by intro g' e; simp [Value.ownBlock] at e; subst e; exact hg)
    simpa using this
  · have e : g = g' := by simpa [Value.ownBlock] using e
    subst e; exact hgl
/-- an access's step more -/
theorem ZX.whence (h : ZX w lab q rm n pv z cg ag gg ev wv gvs) (hy : Fr (fun _ => False) w wy) {y : Int} (hown : w1.ownsRow 0 3 1 (.slice (some ⟨g, 0, none⟩) (z.wh.length + 1) c) (z.wh.length + 1) (is64 z.wh ++ [.int .i64 y])) (hgrow : wy.grownBy w1 wv.ownBlock) (hat : wv.ownBlock = some g ∨ w.heap.size ≤ g) :
    w1.cell? ⟨q, 6, none⟩ = some wv ∧ w1.frozen? ⟨q, 6, none⟩ = false ∧
      Hid (∃ lab', ZX (w1.setCell ⟨q, 6, none⟩ (.slice (some ⟨g, 0, none⟩) (z.wh.length + 1) c)) lab' q rm n pv { z with wh := z.wh ++ [y] } cg ag gg ev (.slice (some ⟨g, 0, none⟩) (z.wh.length + 1) c) gvs ∧ Zk w (w1.setCell ⟨q, 6, none⟩ (.slice (some ⟨g, 0, none⟩) (z.wh.length + 1) c)) lab lab') := by
  have f1 : Fr (fun k => lab k = 7) w w1 := (hy.mono (fun _ _ e => e.elim)).grown hgrow (fun k e => .inl (h.lw k e))
  have hq1 := h.blk.fr f1 (by rw [h.lq]; decide)
  have hf : Fr (fun k => lab k = 7 ∨ lab k = 2) w (w1.setCell ⟨q, 6, none⟩ (.slice (some ⟨g, 0, none⟩) (z.wh.length + 1) c)) := (f1.mono (fun _ _ e => .inl e)).put (p := ⟨q, 6, none⟩) (.inl (.inr h.lq)) _
  have ha : Agree w lab (relab lab w.heap.size 7) := fun k hk => by unfold relab; rw [if_neg (by omega)]
  have hp := h.mv (fun l => l = 7 ∨ l = 2) hf ha
  have hg : g ≠ q := fun e => own_ne hown hq1 (by decide) (by rw [e]; rfl)
  have hgl : relab lab w.heap.size 7 g = 7 := by
    unfold relab
    rcases hat with hat | hat
    · rw [if_neg (by have := own_lt h.who hat; omega)]; exact h.lw g hat
    · rw [if_pos hat]
  refine ⟨hq1.cell 6, hq1.cold 6, relab lab w.heap.size 7, ⟨(hq1.put 6 _).eq rfl, hp.mem (by decide), hp.cB (by decide), hp.aB (by decide), hp.gB (by decide), hp.evo (by decide), ?_, fun t v l hv hl => hp.gvo t v l hv hl (by omega), hp.cl, hp.al, hp.gl, hp.tl, hp.lq, hp.lc, hp.la, hp.lg, hp.le, fun g' e => ?_, hp.lv⟩, ha, hf.mono (fun k _ e => by rcases e with e | e <;> rw [e] <;> decide)⟩
  · have := own_fr hown ((Fr.refl (fun b => b = q) w1).put (p := ⟨q, 6, none⟩) (.inl rfl) (.slice (some ⟨g, 0, none⟩) (z.wh.length + 1) c)) (by intro g' e; simp [Value.ownBlock] at e; subst e; exact hg)
    simpa [is64] using this
  · have e : g = g' := by simpa [Value.ownBlock] using e
    subst e; exact hgl
/-- an access is made -/
theorem ZX.did (h : ZX w lab q rm n pv z cg ag gg ev wv gvs) {A' : Mem} (hD : RDid w w1 (fun k => lab k = 1) rm false A') : ∃ lab', ZX w1 lab' q rm n pv { z with A := A' } cg ag gg ev wv gvs ∧ Zk w w1 lab lab' := by
  obtain ⟨hm, hf⟩ := hD
  have ha : Agree w lab (relab lab w.heap.size 1) := fun k hk => by unfold relab; rw [if_neg (by omega)]
  have hp := h.mv (fun l => l = 1) hf ha
  refine ⟨relab lab w.heap.size 1, ⟨hp.blk (by decide), hm.wide ?_, hp.cB (by decide), hp.aB (by decide), hp.gB (by decide), hp.evo (by decide), hp.who (by decide), fun t v l hv hl => hp.gvo t v l hv hl (by omega), hp.cl, hp.al, hp.gl, hp.tl, hp.lq, hp.lc, hp.la, hp.lg, hp.le, hp.lw, hp.lv⟩, ha, hf.mono (fun k _ e => by rw [e]; decide)⟩
  intro k hk
  unfold relab
  split
  · rfl
  · rcases hk with hk | hk
    · exact hk
    · exact absurd hk (by assumption)
/-- what an access told is kept -/
theorem ZX.tell (h : ZX w lab q rm n pv z cg ag gg ev wv gvs) (hv : gvs[t]? = some v) {l : List Int} (hl : z.tolds[t]? = some l) (hy : Fr (fun _ => False) w wy) {y : Int} (hown : w1.ownsRow 0 72 1 (.slice (some ⟨g, 0, none⟩) (l.length + 1) c) (l.length + 1) (us l ++ [.int .u64 y])) (hgrow : wy.grownBy w1 v.ownBlock) (hat : v.ownBlock = some g ∨ w.heap.size ≤ g) :
    w1.cell? ⟨gg, t, none⟩ = some v ∧ w1.frozen? ⟨gg, t, none⟩ = false ∧
      Hid (∃ lab', ZX (w1.setCell ⟨gg, t, none⟩ (.slice (some ⟨g, 0, none⟩) (l.length + 1) c)) lab' q rm n pv { z with tolds := z.tolds.set t (l ++ [y]) } cg ag gg ev wv (gvs.set t (.slice (some ⟨g, 0, none⟩) (l.length + 1) c)) ∧ Zk w (w1.setCell ⟨gg, t, none⟩ (.slice (some ⟨g, 0, none⟩) (l.length + 1) c)) lab lab') := by
  have f1 : Fr (fun k => lab k = 8 + t) w w1 := (hy.mono (fun _ _ e => e.elim)).grown hgrow (fun k e => .inl (h.lv t v k hv e))
  have hg1 := h.gB.fr f1 (by rw [h.lg]; omega)
  have hf : Fr (fun k => lab k = 8 + t ∨ lab k = 5) w (w1.setCell ⟨gg, t, none⟩ (.slice (some ⟨g, 0, none⟩) (l.length + 1) c)) := (f1.mono (fun _ _ e => .inl e)).put (p := ⟨gg, t, none⟩) (.inl (.inr h.lg)) _
  have ha : Agree w lab (relab lab w.heap.size (8 + t)) := fun k hk => by unfold relab; rw [if_neg (by omega)]
  have hp := h.mv (fun l => l = 8 + t ∨ l = 5) hf ha
  have hg : g ≠ gg := fun e => own_ne hown hg1 (by decide) (by rw [e]; rfl)
  have hgl : relab lab w.heap.size (8 + t) g = 8 + t := by
    unfold relab
    rcases hat with hat | hat
    · rw [if_neg (by have := own_lt (h.gvo t v l hv hl) hat; omega)]; exact h.lv t v g hv hat
    · rw [if_pos hat]
  refine ⟨(hg1.cell t).trans (by simpa using hv), hg1.cold t, relab lab w.heap.size (8 + t), ⟨hp.blk (by omega), hp.mem (by omega), hp.cB (by omega), hp.aB (by omega), (hg1.put t _).eq (by simp), hp.evo (by omega), hp.who (by omega), fun u v' l' hv' hl' => ?_, hp.cl, hp.al, by simp [hp.gl], by simp [hp.tl], hp.lq, hp.lc, hp.la, hp.lg, hp.le, hp.lw, fun u v' g' hv' e => ?_⟩, ha, hf.mono (fun k _ e => by rcases e with e | e <;> rw [e] <;> omega)⟩
  · by_cases e : t = u
    · subst e
      rw [List.getElem?_set_self (List.getElem?_eq_some_iff.1 hv).1] at hv'
      have hl' : (z.tolds.set t (l ++ [y]))[t]? = some l' := hl'
      rw [List.getElem?_set_self (List.getElem?_eq_some_iff.1 hl).1] at hl'
      injection hv' with hv'; injection hl' with hl'
      subst hv' hl'
      have := own_fr hown ((Fr.refl (fun b => b = gg) w1).put (p := ⟨gg, t, none⟩) (.inl rfl) (.slice (some ⟨g, 0, none⟩) (l.length + 1) c)) (by intro g' e; simp [Value.ownBlock] at e; subst e; exact hg)
      simpa [us] using this
    · rw [List.getElem?_set_ne e] at hv'
      have hl' : (z.tolds.set t (l ++ [y]))[u]? = some l' := hl'
      rw [List.getElem?_set_ne e] at hl'
      exact hp.gvo u v' l' hv' hl' (by omega)
  · by_cases e2 : t = u
    · subst e2
      rw [List.getElem?_set_self (List.getElem?_eq_some_iff.1 hv).1] at hv'
      injection hv' with hv'
      subst hv'
      have e : g = g' := by simpa [Value.ownBlock] using e
      subst e; exact hgl
    · rw [List.getElem?_set_ne e2] at hv'
      exact hp.lv u v' g' hv' e
/-- a thread's steps are counted -/
theorem ZX.step (h : ZX w lab q rm n pv z cg ag gg ev wv gvs) (t m : Nat) : ZX (w.setCell ⟨ag, t, none⟩ (.int .i64 m)) lab q rm n pv { z with ats := z.ats.set t m } cg ag gg ev wv gvs ∧ Zk w (w.setCell ⟨ag, t, none⟩ (.int .i64 m)) lab lab := by
  have hf : Fr (fun k => lab k = 4) w (w.setCell ⟨ag, t, none⟩ (.int .i64 m)) := (Fr.refl (fun k => lab k = 4) w).put (p := ⟨ag, t, none⟩) (.inl h.la) _
  have hp := h.mv (fun l => l = 4) hf (fun _ _ => rfl)
  exact ⟨⟨hp.blk (by decide), hp.mem (by decide), hp.cB (by decide), (h.aB.put t _).eq (by simp [ns64, List.map_set]), hp.gB (by decide), hp.evo (by decide), hp.who (by decide), fun t v l hv hl => hp.gvo t v l hv hl (by omega), hp.cl, by simp [hp.al], hp.gl, hp.tl, hp.lq, hp.lc, hp.la, hp.lg, hp.le, hp.lw, hp.lv⟩, fun _ _ => rfl, hf.mono (fun k _ e => by rw [e]; decide)⟩
/-- a thread's calls are counted -/
theorem ZX.call (h : ZX w lab q rm n pv z cg ag gg ev wv gvs) (t m : Nat) : ZX (w.setCell ⟨cg, t, none⟩ (.int .i64 m)) lab q rm n pv { z with calls := z.calls.set t m } cg ag gg ev wv gvs ∧ Zk w (w.setCell ⟨cg, t, none⟩ (.int .i64 m)) lab lab := by
  have hf : Fr (fun k => lab k = 3) w (w.setCell ⟨cg, t, none⟩ (.int .i64 m)) := (Fr.refl (fun k => lab k = 3) w).put (p := ⟨cg, t, none⟩) (.inl h.lc) _
  have hp := h.mv (fun l => l = 3) hf (fun _ _ => rfl)
  exact ⟨⟨hp.blk (by decide), hp.mem (by decide), (h.cB.put t _).eq (by simp [ns64, List.map_set]), hp.aB (by decide), hp.gB (by decide), hp.evo (by decide), hp.who (by decide), fun t v l hv hl => hp.gvo t v l hv hl (by omega), by simp [hp.cl], hp.al, hp.gl, hp.tl, hp.lq, hp.lc, hp.la, hp.lg, hp.le, hp.lw, hp.lv⟩, fun _ _ => rfl, hf.mono (fun k _ e => by rw [e]; decide)⟩
theorem ZX.ccell (h : ZX w lab q rm n pv z cg ag gg ev wv gvs) {m : Nat} (hc : z.calls[t]? = some m) : w.cell? ⟨cg, t, none⟩ = some (.int .i64 m) := (h.cB.cell t).trans (by simp [ns64, hc])
theorem ZX.acell (h : ZX w lab q rm n pv z cg ag gg ev wv gvs) {m : Nat} (hc : z.ats[t]? = some m) : w.cell? ⟨ag, t, none⟩ = some (.int .i64 m) := (h.aB.cell t).trans (by simp [ns64, hc])
theorem ZX.gcell (h : ZX w lab q rm n pv z cg ag gg ev wv gvs) (hc : gvs[t]? = some v) : w.cell? ⟨gg, t, none⟩ = some v := (h.gB.cell t).trans (by simpa using hc)
end
end Go.Proofs.YtkaplifhaafpdaaGreat
end
section
/-
  The document's runner: has a thread something to do? are all done? No condition.
-/
namespace Go.Proofs.YtkaplifhaafpdaaGreat
open Go Go.RowKit
set_option linter.unusedSimpArgs false
set_option linter.unusedVariables false
/-- the document's runner over plans that came in -/
structure ZR (w0 w : World) (lab : Nat → Nat) (q rm : Nat) (ll : List (List Plan)) (s : St) : Prop where
  ex : ∃ pv cg ag gg ev wv gvs, ZX w lab q rm ll.length pv s.z cg ag gg ev wv gvs ∧ PlansAt w0 pv ll
  bel : Below w0.heap.size w0 w
  ok : s.Ok ll
  lb : ∀ k, lab k ≠ 0 → w0.heap.size ≤ k
/-- bounds of plans -/
structure Fits (ll : List (List Plan)) : Prop where
  n : ll.length ≤ 64
  l : ∀ l ∈ ll, l.length ≤ 4096
  p : ∀ l ∈ ll, ∀ x ∈ l, x.l.length ≤ 1048576 ∧ ∀ d ∈ x.l, d.fits ∧ d.vals.length ≤ 1048576
section
variable {w0 w w1 : World} {lab : Nat → Nat} {q rm cg ag gg t : Nat} {pv ev wv : Value} {ll : List (List Plan)} {s : St} {gvs : List Value}
theorem ZR.drawn (h : ZR w0 w lab q rm ll s) (n : Nat) : ZR w0 (w.drewN n) lab q rm ll s :=
  let ⟨⟨pv, cg, ag, gg, ev, wv, gvs, h1, h2⟩, b, c, d⟩ := h
  ⟨⟨pv, cg, ag, gg, ev, wv, gvs, h1.drawn n, h2⟩, b.trans (((Fr.refl (fun _ => False) w).drawn n).to_below b.size (fun _ _ e => e)), c, d⟩
theorem ZR.fr {S : Nat → Prop} (h : ZR w0 w lab q rm ll s) (hf : Fr S w w1) (hS : ∀ k, lab k ≠ 0 → ¬ S k) (hS0 : ∀ k, k < w0.heap.size → ¬ S k) : ZR w0 w1 lab q rm ll s :=
  let ⟨⟨pv, cg, ag, gg, ev, wv, gvs, h1, h2⟩, b, c, d⟩ := h
  ⟨⟨pv, cg, ag, gg, ev, wv, gvs, h1.fr hf hS (fun _ _ => rfl), h2⟩, b.trans (hf.to_below b.size hS0), c, d⟩
theorem Zk.bel {lab' : Nat → Nat} (h : Zk w w1 lab lab') (hb : Below w0.heap.size w0 w) (lb : ∀ k, lab k ≠ 0 → w0.heap.size ≤ k) : Below w0.heap.size w0 w1 :=
  hb.trans (h.fr.to_below hb.size fun k hk e => by have := lb k e; omega)
/-- new blocks' labels may be wiped -/
theorem ZR.wipe (h : ZR w0 w lab q rm ll s) : ∃ lab', ZR w0 w lab' q rm ll s ∧ Agree w lab lab' ∧ ∀ k, w.heap.size ≤ k → lab' k = 0 := by
  obtain ⟨⟨pv, cg, ag, gg, ev, wv, gvs, h1, h2⟩, b, c, d⟩ := h
  have ha : Agree w lab (relab lab w.heap.size 0) := fun k hk => by unfold relab; rw [if_neg (by omega)]
  refine ⟨relab lab w.heap.size 0, ⟨⟨pv, cg, ag, gg, ev, wv, gvs, h1.fr (Fr.refl (fun _ => False) w) (fun _ _ e => e) ha, h2⟩, b, c, ?_⟩, ha, fun k hk => by unfold relab; rw [if_pos hk]⟩
  intro k hk
  unfold relab at hk
  split at hk
  · exact absurd rfl hk
  · exact d k hk
theorem idle_neg {t : Int} (h : t < 0) : s.idle ll t = true := by unfold St.idle; rw [if_neg (by omega)]
theorem idle_out {t : Nat} (h : ll.length ≤ t) : s.idle ll (t : Int) = true := by
  unfold St.idle St.at?
  rw [if_pos (by omega)]
  have : ll[t]? = none := List.getElem?_eq_none h
  simp only [Int.toNat_natCast, this]
  split
  · rename_i h1 h2; cases h2
  · rfl
theorem idle_at {t : Nat} {x : TS} {l : List Plan} (hx : s.th[t]? = some x) (hl : ll[t]? = some l) : s.idle ll (t : Int) = decide (l.length ≤ x.call) := by
  unfold St.idle St.at?
  rw [if_pos (by omega)]
  simp only [Int.toNat_natCast, hx, hl]
  by_cases h : l.length ≤ x.call
  · rw [List.getElem?_eq_none h]; simp [h]
  · rw [List.getElem?_eq_getElem (by omega)]; simp [h]
set_option maxRecDepth 100000 in
theorem left_any (h : ZR w0 w lab q rm ll s) (hn : Fits ll) (t : Int) : Calls Tryz.prog 29 #[.pointer (some ⟨q, 0, none⟩), .int .i64 t] w fun e w' => e = .returned (.bool (!s.idle ll t)) ∧ ∃ n, w' = w.drewN n := by
  obtain ⟨⟨pv, cg, ag, gg, ev, wv, gvs, h, hp⟩, hb, ok, -⟩ := h
  obtain ⟨tp, tc, rfl, _, hc⟩ := hp
  have hn1 := hn.n
  by_cases h0 : t < 0
  · have h1 : decide (0 ≤ t) = false := by simp; omega
    rw [idle_neg h0]
    clear h0 h hc
    go_enter Tryz.func29, Tryz.ntmps29
    go_wp2_with fail
    go_quiet (fail)
    all_goals
      go_wp2
      go_ret
      exact ⟨rfl, _, rfl⟩
  · have h1 : decide (0 ≤ t) = true := by simp; omega
    obtain ⟨k, rfl⟩ : ∃ k : Nat, t = k := ⟨t.toNat, by omega⟩
    have c1 : w.cell? ⟨q, 1, none⟩ = some (.slice tp ll.length tc) := h.blk.cell 1
    by_cases h2 : k < ll.length
    · obtain ⟨l, hl⟩ : ∃ l, ll[k]? = some l := ⟨_, List.getElem?_eq_getElem h2⟩
      obtain ⟨x, hx⟩ : ∃ x, s.th[k]? = some x := ⟨_, List.getElem?_eq_getElem (by rw [ok.tl]; exact h2)⟩
      obtain ⟨b, o, v, rfl, hbl, d0, hpa⟩ := hc k l hl
      obtain ⟨pp, pc, rfl, -, -⟩ := hpa
      have d1 : w.cell? ⟨b, o + k, none⟩ = some (.slice pp l.length pc) := (hb.cell (p := ⟨b, _, none⟩) hbl).trans d0
      have c2 : w.cell? ⟨q, 2, none⟩ = some (.slice (some ⟨cg, 0, none⟩) ll.length ll.length) := h.blk.cell 2
      have c3 : w.cell? ⟨cg, k, none⟩ = some (.int .i64 x.call) := h.ccell (by simp [St.z, hx])
      have hl2 := hn.l l (List.mem_of_getElem? hl)
      have hcl := (ok.th k x l hx hl).cl
      rw [idle_at hx hl]
      have h3 : decide ((k : Int) < (ll.length : Int)) = true := by simp; omega
      have h4 : decide (k < ll.length) = true := by simpa using h2
      have hr : (!decide (l.length ≤ x.call)) = decide ((x.call : Int) < (l.length : Int)) := by
        by_cases hq : l.length ≤ x.call
        · simp [hq]
        · simp [hq]; omega
      rw [hr]
      clear h hc hx hl d0 h0 ok hr
      generalize l.length = pn at *
      generalize x.call = px at *
      generalize ll.length = n at *
      go_enter Tryz.func29, Tryz.ntmps29
      go_wp2_with fail
      go_quiet (fail)
      all_goals
        go_wp2
        go_ret
        exact ⟨by simp, _, rfl⟩
    · have h3 : decide ((k : Int) < (ll.length : Int)) = false := by simp; omega
      have h4 : decide (k < ll.length) = false := by simp; omega
      rw [idle_out (by omega)]
      clear h hc h0
      generalize ll.length = n at *
      go_enter Tryz.func29, Tryz.ntmps29
      go_wp2_with fail
      go_quiet (fail)
      all_goals
        go_wp2
        go_ret
        exact ⟨rfl, _, rfl⟩
end
end Go.Proofs.YtkaplifhaafpdaaGreat
end

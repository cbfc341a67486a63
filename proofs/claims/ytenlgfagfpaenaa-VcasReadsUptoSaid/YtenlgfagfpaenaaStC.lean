/-
  A runner: what a store and an append leave; all are done; accesses are written down. No condition.
-/
import Derived.Test.YtenlgfagfpaenaaStB
import Derived.Deep.AppendLies
namespace Go.Proofs.Ytenlgfagfpaenaa
open Go Go.RowKit
set_option linter.unusedSimpArgs false
set_option linter.unusedVariables false
/-- have all threads nothing to do? -/
def allDone (T : List Thr) : Bool := T.all (fun x => decide (x.procs.length ≤ x.pos))
/-- the steps of new accesses -/
def noted (ats : List Int) (step : Int) (ahead now : Nat) : List Int := (ats ++ List.replicate (ahead - ats.length) (-1)) ++ List.replicate (now - (ats.length + (ahead - ats.length))) step
section
variable {w0 w w' w1 : World} {R S G : Nat → Prop} {rp bm : Nat} {vws : List Nat} {T : List Thr} {steps : Nat} {evs : List Ev} {ats : List Int} {cs : Array Value} {tv ev av u v' : Value}
theorem RX.put66 (h : RX w R rp bm vws T steps evs ats cs tv ev av) (s : Nat) : RX (w.setCell ⟨rp, 66, none⟩ (.int .i64 s)) R rp bm vws T s evs ats (cs.setIfInBounds 66 (.int .i64 s)) tv ev av ∧ Fr R w (w.setCell ⟨rp, 66, none⟩ (.int .i64 s)) := by
  have f : Fr (fun b => b = rp) w (w.setCell ⟨rp, 66, none⟩ (.int .i64 s)) := (Fr.refl (fun b => b = rp) w).put (p := ⟨rp, 66, none⟩) (.inl rfl) _
  refine ⟨⟨h.blk.put 66 _, h.rc.put66 s, own_fr h.thr f ?_, fun x hx => ⟨own_fr (h.prc x hx).1 f ?_, (h.prc x hx).2⟩, own_fr h.evo f ?_, own_fr h.avo f ?_, h.fR, h.fT, h.fE, h.fA⟩, f.mono (fun k _ e => e ▸ h.fR)⟩
  · rintro g e rfl; exact own_ne h.thr h.blk (by decide) e
  · rintro g e rfl; exact own_ne (h.prc x hx).1 h.blk (by decide) e
  · rintro g e rfl; exact own_ne h.evo h.blk (by decide) e
  · rintro g e rfl; exact own_ne h.avo h.blk (by decide) e
/-- a thread's cell is written -/
theorem RX.putThr (h : RX w R rp bm vws T steps evs ats cs tv ev av) {t j : Nat} {x y : Thr} (hx : T[t]? = some x) (hj : j < 3) (he : thrC y = (thrC x).set j u) (hp : y.pv = x.pv) (hq : y.procs = x.procs) {tg tc : Nat} (htv : tv = .slice (some ⟨tg, 0, none⟩) T.length tc) :
    RX (w.setCell ⟨tg, t * 3 + j, none⟩ u) R rp bm vws (T.set t y) steps evs ats cs tv ev av ∧ Fr R w (w.setCell ⟨tg, t * 3 + j, none⟩ u) := by
  have f : Fr (fun b => b = tg) w (w.setCell ⟨tg, t * 3 + j, none⟩ u) := (Fr.refl (fun b => b = tg) w).put (p := ⟨tg, t * 3 + j, none⟩) (.inl rfl) _
  have htg : tv.ownBlock = some tg := by rw [htv]; rfl
  have ht := (List.getElem?_eq_some_iff.1 hx).1
  have hown := h.thr
  rw [htv] at hown
  obtain ⟨bcs, hbt⟩ := bk_blk hown (g := tg) rfl
  have hput := bk_put hown (j := t * 3 + j) (by omega) u
  rw [thr_set T t j x y u hx hj he] at hput
  refine ⟨⟨h.blk.fr f ?_, h.rc, ?_, fun z hz => ?_, own_fr h.evo f ?_, own_fr h.avo f ?_, h.fR, h.fT, h.fE, h.fA⟩, f.mono (fun k _ e => e ▸ h.fT _ htg)⟩
  · intro e; exact own_ne hown h.blk (by decide) (by rw [e]; rfl)
  · rw [htv, List.length_set]; exact hput
  · have hz' : ∃ z' ∈ T, z.pv = z'.pv ∧ z.procs = z'.procs := by
      rcases List.mem_or_eq_of_mem_set hz with hz | rfl
      · exact ⟨z, hz, rfl, rfl⟩
      · exact ⟨x, List.mem_of_getElem? hx, hp, hq⟩
    obtain ⟨z', hz', e1, e2⟩ := hz'
    rw [e1, e2]
    refine ⟨own_fr (h.prc z' hz').1 f ?_, (h.prc z' hz').2⟩
    rintro g e rfl
    exact own_ne (h.prc z' hz').1 hbt (by decide) e
  · rintro g e rfl; exact own_ne h.evo hbt (by decide) e
  · rintro g e rfl; exact own_ne h.avo hbt (by decide) e
/-- one more in the row of steps -/
theorem RX.push68 (h : RX w R rp bm vws T steps evs ats cs tv ev av) (o : Obj) {x : Int} {g c : Nat} (hown : w1.ownsRow 0 3 1 (.slice (some ⟨g, 0, none⟩) (ats.length + 1) c) (ats.length + 1) (is64 ats ++ [.int .i64 x])) (hgrow : (w.alloc o).grownBy w1 av.ownBlock) (hat : av.ownBlock = some g ∨ g = w.heap.size + 1) :
    RX (w1.setCell ⟨rp, 68, none⟩ (.slice (some ⟨g, 0, none⟩) (ats.length + 1) c)) (Ext R w) rp bm vws T steps evs (ats ++ [x]) (cs.setIfInBounds 68 (.slice (some ⟨g, 0, none⟩) (ats.length + 1) c)) tv ev (.slice (some ⟨g, 0, none⟩) (ats.length + 1) c) ∧ Fr R w (w1.setCell ⟨rp, 68, none⟩ (.slice (some ⟨g, 0, none⟩) (ats.length + 1) c)) ∧
      w1.cell? ⟨rp, 68, none⟩ = some av ∧ w1.frozen? ⟨rp, 68, none⟩ = false := by
  have f1 : Fr (fun b => av.ownBlock = some b) w w1 := ((Fr.refl (fun b => av.ownBlock = some b) w).alloc o).grown hgrow (fun k e => .inl e)
  have f2 : Fr (fun b => av.ownBlock = some b ∨ b = rp) w (w1.setCell ⟨rp, 68, none⟩ (.slice (some ⟨g, 0, none⟩) (ats.length + 1) c)) := (f1.mono (fun _ _ e => .inl e)).put (p := ⟨rp, 68, none⟩) (.inl (.inr rfl)) _
  have hrp : ¬ av.ownBlock = some rp := own_ne h.avo h.blk (by decide)
  have hb1 := h.blk.fr f1 hrp
  have hgr : g ≠ rp := fun e => own_ne hown hb1 (by decide) (by rw [e]; rfl)
  have hS : ∀ {e : TypeId} {n size : Nat} {v : Value} {xs : List Value}, w.ownsRow 0 e size v n xs → e ≠ 3 → e ≠ 176 → (w1.setCell ⟨rp, 68, none⟩ (.slice (some ⟨g, 0, none⟩) (ats.length + 1) c)).ownsRow 0 e size v n xs := by
    intro e n size v xs hv h1 h2
    refine own_fr hv f2 ?_
    rintro k hk (e2 | rfl)
    · obtain ⟨cs1, b1⟩ := bk_blk h.avo e2
      exact own_ne hv b1 h1 hk
    · exact own_ne hv h.blk h2 hk
  refine ⟨⟨hb1.put 68 _, h.rc.put68 _, hS h.thr (by decide) (by decide), fun x hx => ⟨hS (h.prc x hx).1 (by decide) (by decide), fun g e => .inl ((h.prc x hx).2 g e)⟩, hS h.evo (by decide) (by decide), ?_, .inl h.fR, fun g e => .inl (h.fT g e), fun g e => .inl (h.fE g e), fun g' e => ?_⟩, f2.mono ?_, (hb1.cell 68).trans h.rc.c68, hb1.cold 68⟩
  · have := own_fr hown ((Fr.refl (fun b => b = rp) w1).put (p := ⟨rp, 68, none⟩) (.inl rfl) (.slice (some ⟨g, 0, none⟩) (ats.length + 1) c)) (by intro g' e; simp [Value.ownBlock] at e; subst e; exact hgr)
    simpa [is64] using this
  · have e : g = g' := by simpa [Value.ownBlock] using e
    subst e
    rcases hat with hat | hat
    · exact .inl (h.fA g hat)
    · right; omega
  · rintro k _ (e | e)
    · exact h.fA k e
    · subst e; exact h.fR
/-- one more event -/
theorem RX.push67 (h : RX w R rp bm vws T steps evs ats cs tv ev av) {wy : World} (hy : Fr (fun _ => False) w wy) {x : Ev} {g c : Nat} (hown : w1.ownsRow 0 182 4 (.slice (some ⟨g, 0, none⟩) (evs.length + 1) c) (evs.length + 1) (evs.flatMap evC ++ evC x)) (hgrow : wy.grownBy w1 ev.ownBlock) (hat : ev.ownBlock = some g ∨ w.heap.size ≤ g) :
    RX (w1.setCell ⟨rp, 67, none⟩ (.slice (some ⟨g, 0, none⟩) (evs.length + 1) c)) (Ext R w) rp bm vws T steps (evs ++ [x]) ats (cs.setIfInBounds 67 (.slice (some ⟨g, 0, none⟩) (evs.length + 1) c)) tv (.slice (some ⟨g, 0, none⟩) (evs.length + 1) c) av ∧ Fr R w (w1.setCell ⟨rp, 67, none⟩ (.slice (some ⟨g, 0, none⟩) (evs.length + 1) c)) ∧
      w1.cell? ⟨rp, 67, none⟩ = some ev ∧ w1.frozen? ⟨rp, 67, none⟩ = false := by
  have f1 : Fr (fun b => ev.ownBlock = some b) w w1 := (hy.mono (fun _ _ e => e.elim)).grown hgrow (fun k e => .inl e)
  have f2 : Fr (fun b => ev.ownBlock = some b ∨ b = rp) w (w1.setCell ⟨rp, 67, none⟩ (.slice (some ⟨g, 0, none⟩) (evs.length + 1) c)) := (f1.mono (fun _ _ e => .inl e)).put (p := ⟨rp, 67, none⟩) (.inl (.inr rfl)) _
  have hrp : ¬ ev.ownBlock = some rp := own_ne h.evo h.blk (by decide)
  have hb1 := h.blk.fr f1 hrp
  have hgr : g ≠ rp := fun e => own_ne hown hb1 (by decide) (by rw [e]; rfl)
  have hS : ∀ {e : TypeId} {n size : Nat} {v : Value} {xs : List Value}, w.ownsRow 0 e size v n xs → e ≠ 182 → e ≠ 176 → (w1.setCell ⟨rp, 67, none⟩ (.slice (some ⟨g, 0, none⟩) (evs.length + 1) c)).ownsRow 0 e size v n xs := by
    intro e n size v xs hv h1 h2
    refine own_fr hv f2 ?_
    rintro k hk (e2 | rfl)
    · obtain ⟨cs1, b1⟩ := bk_blk h.evo e2
      exact own_ne hv b1 h1 hk
    · exact own_ne hv h.blk h2 hk
  refine ⟨⟨hb1.put 67 _, h.rc.put67 _, hS h.thr (by decide) (by decide), fun x hx => ⟨hS (h.prc x hx).1 (by decide) (by decide), fun g e => .inl ((h.prc x hx).2 g e)⟩, ?_, hS h.avo (by decide) (by decide), .inl h.fR, fun g e => .inl (h.fT g e), fun g' e => ?_, fun g e => .inl (h.fA g e)⟩, f2.mono ?_, (hb1.cell 67).trans h.rc.c67, hb1.cold 67⟩
  · have := own_fr hown ((Fr.refl (fun b => b = rp) w1).put (p := ⟨rp, 67, none⟩) (.inl rfl) (.slice (some ⟨g, 0, none⟩) (evs.length + 1) c)) (by intro g' e; simp [Value.ownBlock] at e; subst e; exact hgr)
    simpa using this
  · have e : g = g' := by simpa [Value.ownBlock] using e
    subst e
    rcases hat with hat | hat
    · exact .inl (h.fE g hat)
    · right; exact hat
  · rintro k _ (e | e)
    · exact h.fE k e
    · subst e; exact h.fR
end
end Go.Proofs.Ytenlgfagfpaenaa

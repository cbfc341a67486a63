/-
  StLE, StLive: the texts of the proof, merged. No condition.
-/
import Derived.Test.YtkaplifhaafpdaaGreatM20
import Derived.Test.YtkaplifhaafpdaaGreatM21
import Derived.Test.YtkaplifhaafpdaaGreatM16
section
/-
  Two threads of one Load each, on a memory: what they work on. A runner as New made it. No condition.
-/
namespace Go.Proofs.YtkaplifhaafpdaaGreat
open Go Go.RowKit
set_option linter.unusedSimpArgs false
set_option linter.unusedVariables false
/-- a memory of the call's own with two views and two Loads -/
structure LE (w0 : World) (bm v0 v1 p0 p1 : Nat) (A : Mem) (m0 m1 : Int) (d0 d1 : Bool) (x0 x1 : Int) (E : Nat → Prop) (w : World) : Prop where
  own : ∃ F, Mine w w0.heap.size F bm A ∧ (¬ F v0 ∧ ¬ F v1 ∧ ¬ F p0 ∧ ¬ F p1) ∧ ∀ k, E k ↔ F k ∨ k = v0 ∨ k = v1 ∨ k = p0 ∨ k = p1
  vw0 : VW w v0 bm 0 m0
  vw1 : VW w v1 bm 1 m1
  ld0 : LD w p0 5 d0 x0
  ld1 : LD w p1 6 d1 x1
  nv : v0 ≠ v1
  np : p0 ≠ p1
  ge : w0.heap.size ≤ v0 ∧ w0.heap.size ≤ v1 ∧ w0.heap.size ≤ p0 ∧ w0.heap.size ≤ p1
section
variable {w0 w w' w1 w2 : World} {R S G F E E' U : Nat → Prop} {rp bm n pb v v0 v1 p0 p1 : Nat} {vws : List Nat} {T T' : List Thr} {x : Thr} {cs : Array Value} {tv ev av : Value} {ps : List (List Value)} {A : Mem} {m0 m1 x0 x1 : Int} {d0 d1 : Bool}
theorem LE.ok (w0 : World) (bm v0 v1 p0 p1 : Nat) (A : Mem) (m0 m1 : Int) (d0 d1 : Bool) (x0 x1 : Int) : EnvOK w0 bm (LE w0 bm v0 v1 p0 p1 A m0 m1 d0 d1 x0 x1) A.trace.length where
  st := by
    rintro E S w w' ⟨⟨F, hm, hn, he⟩, a, b, c, d, nv, np, ge⟩ hf hS
    have h0 := (he v0).2 (.inr (.inl rfl))
    have h1 := (he v1).2 (.inr (.inr (.inl rfl)))
    have h2 := (he p0).2 (.inr (.inr (.inr (.inl rfl))))
    have h3 := (he p1).2 (.inr (.inr (.inr (.inr rfl))))
    exact ⟨⟨F, hm.fr hf (fun k hk => hS k ((he k).2 (.inl hk))), hn, he⟩, a.fr hf (hS _ h0), b.fr hf (hS _ h1), Blk.fr c hf (hS _ h2), Blk.fr d hf (hS _ h3), nv, np, ge⟩
  pos := by
    rintro E w ⟨⟨F, hm, hn, he⟩, a, b, c, d, nv, np, ge⟩ k hk
    rcases (he k).1 hk with e | rfl | rfl | rfl | rfl
    · exact hm.2 k e
    · exact ⟨ge.1, Blk.lt a⟩
    · exact ⟨ge.2.1, Blk.lt b⟩
    · exact ⟨ge.2.2.1, Blk.lt c⟩
    · exact ⟨ge.2.2.2, Blk.lt d⟩
  made := by
    rintro E w ⟨⟨F, ⟨⟨q, r, tv, rows, hx⟩, _⟩, _⟩, _⟩
    exact Made_any hx
/-- the first thread's Load steps -/
theorem LE.step0 (hn : A.cells.length ≤ 4194304) (ht : A.trace.length ≤ 1000000000) (hm0 : 0 ≤ m0) (hm1 : m0 ≤ 1000000000) (E : Nat → Prop) (w1 : World) (h : LE w0 bm v0 v1 p0 p1 A m0 m1 false d1 x0 x1 E w1) :
    Calls Tryz.prog 99 #[.pointer (some ⟨p0, 0, none⟩), .pointer (some ⟨v0, 0, none⟩)] w1 fun e w' => e = .returned (.bool true) ∧ ∃ E', LE w0 bm v0 v1 p0 p1 (A.load 0 5) (m0 + 1) m1 true d1 (A.peek 5) x1 E' w' ∧ (∀ b, b < w1.heap.size → ¬ E b → ¬ E' b) ∧ Fr E w1 w' := by
  obtain ⟨⟨F, hm, hF, he⟩, a, b, c, d, nv, np, ge⟩ := h
  have hl : w0.heap.size ≤ w1.heap.size := Nat.le_trans ge.1 (Nat.le_of_lt (Blk.lt a))
  have hpv : p1 ≠ v0 := fun e => Blk.ne d (e ▸ a) (by decide) rfl
  have hpv2 : p0 ≠ v1 := fun e => Blk.ne c (e ▸ b) (by decide) rfl
  have hpv0 : p0 ≠ v0 := fun e => Blk.ne c (e ▸ a) (by decide) rfl
  refine (LStep_on hm.1 a c hF.2.2.1 (by decide) hn ht hm0 hm1).mono ?_
  rintro e w2 ⟨rfl, hm2, a2, c2, hf⟩
  have hb2 : VW w2 v1 bm 1 m1 := b.fr hf (by rintro (e | e | e); exact hF.2.1 e; exact nv e.symm; exact hpv2 e.symm)
  have hd2 : LD w2 p1 6 d1 x1 := Blk.fr d hf (by rintro (e | e | e); exact hF.2.2.2 e; exact hpv e; exact np e.symm)
  have h3 : PM w2 (Ext F w1) bm (A.load 0 5) := hm2.wide (fun _ e => e.1)
  obtain ⟨F2, hM, hk⟩ := hm.step hl h3
  refine ⟨rfl, fun k => F2 k ∨ k = v0 ∨ k = v1 ∨ k = p0 ∨ k = p1, ⟨⟨F2, hM, ⟨hk _ (Blk.lt a) hF.1, hk _ (Blk.lt b) hF.2.1, hk _ (Blk.lt c) hF.2.2.1, hk _ (Blk.lt d) hF.2.2.2⟩, fun k => Iff.rfl⟩, a2, hb2, c2, hd2, nv, np, ge⟩, ?_, hf.mono ?_⟩
  · rintro b hb hn (e | e)
    · exact hk b hb (fun e2 => hn ((he b).2 (.inl e2))) e
    · exact hn ((he b).2 (.inr e))
  · rintro k _ (e | e | e)
    · exact (he k).2 (.inl e)
    · exact (he k).2 (.inr (.inl e))
    · exact (he k).2 (.inr (.inr (.inr (.inl e))))
/-- the second thread's Load steps -/
theorem LE.step1 (hn : A.cells.length ≤ 4194304) (ht : A.trace.length ≤ 1000000000) (hm0 : 0 ≤ m1) (hm1 : m1 ≤ 1000000000) (E : Nat → Prop) (w1 : World) (h : LE w0 bm v0 v1 p0 p1 A m0 m1 d0 false x0 x1 E w1) :
    Calls Tryz.prog 99 #[.pointer (some ⟨p1, 0, none⟩), .pointer (some ⟨v1, 0, none⟩)] w1 fun e w' => e = .returned (.bool true) ∧ ∃ E', LE w0 bm v0 v1 p0 p1 (A.load 1 6) m0 (m1 + 1) d0 true x0 (A.peek 6) E' w' ∧ (∀ b, b < w1.heap.size → ¬ E b → ¬ E' b) ∧ Fr E w1 w' := by
  obtain ⟨⟨F, hm, hF, he⟩, a, b, c, d, nv, np, ge⟩ := h
  have hl : w0.heap.size ≤ w1.heap.size := Nat.le_trans ge.1 (Nat.le_of_lt (Blk.lt a))
  have hpv : p1 ≠ v0 := fun e => Blk.ne d (e ▸ a) (by decide) rfl
  have hpv2 : p0 ≠ v1 := fun e => Blk.ne c (e ▸ b) (by decide) rfl
  refine (LStep_on hm.1 b d hF.2.2.2 (by decide) hn ht hm0 hm1).mono ?_
  rintro e w2 ⟨rfl, hm2, b2, d2, hf⟩
  have ha2 : VW w2 v0 bm 0 m0 := a.fr hf (by rintro (e | e | e); exact hF.1 e; exact nv e; exact hpv e.symm)
  have hc2 : LD w2 p0 5 d0 x0 := Blk.fr c hf (by rintro (e | e | e); exact hF.2.2.1 e; exact hpv2 e; exact np e)
  have h3 : PM w2 (Ext F w1) bm (A.load 1 6) := hm2.wide (fun _ e => e.1)
  obtain ⟨F2, hM, hk⟩ := hm.step hl h3
  refine ⟨rfl, fun k => F2 k ∨ k = v0 ∨ k = v1 ∨ k = p0 ∨ k = p1, ⟨⟨F2, hM, ⟨hk _ (Blk.lt a) hF.1, hk _ (Blk.lt b) hF.2.1, hk _ (Blk.lt c) hF.2.2.1, hk _ (Blk.lt d) hF.2.2.2⟩, fun k => Iff.rfl⟩, ha2, b2, hc2, d2, nv, np, ge⟩, ?_, hf.mono ?_⟩
  · rintro b hb hn (e | e)
    · exact hk b hb (fun e2 => hn ((he b).2 (.inl e2))) e
    · exact hn ((he b).2 (.inr e))
  · rintro k _ (e | e | e)
    · exact (he k).2 (.inl e)
    · exact (he k).2 (.inr (.inr (.inl e)))
    · exact (he k).2 (.inr (.inr (.inr (.inr e))))
/-- a runner as New left it, apart from its views -/
theorem NewAt.ro {k : Nat} (h : NewAt w w1 rp bm ps k T vws cs tv) (hw : w0.heap.size ≤ w.heap.size) : RO w0 w1 (fun b => w.heap.size ≤ b ∧ b < w1.heap.size ∧ b ∉ vws) rp bm vws T 0 [] [] := by
  have hn : ∀ v ∈ vws, ∃ i : Nat, VW w1 v bm i 0 := by
    intro v hv
    obtain ⟨i, hi⟩ := List.getElem?_of_mem hv
    exact ⟨i, (h.vw i v hi).1⟩
  have hx := h.rx
  refine ⟨⟨cs, tv, .slice none 0 0, .slice none 0 0, hx.blk, hx.rc, hx.thr, fun x hxx => ⟨(hx.prc x hxx).1, fun g e => ⟨(hx.prc x hxx).2 g e, own_lt (hx.prc x hxx).1 e, fun hv => ?_⟩⟩, hx.evo, hx.avo, ⟨hx.fR, hx.blk.lt, fun hv => ?_⟩, fun g e => ⟨hx.fT g e, own_lt hx.thr e, fun hv => ?_⟩, (by intro g e; cases e), (by intro g e; cases e)⟩, fun k hk => ⟨Nat.le_trans hw hk.1, hk.2.1⟩⟩
  · obtain ⟨i, hv⟩ := hn g hv
    exact own_ne (hx.prc x hxx).1 hv (by decide) e
  · obtain ⟨i, hv⟩ := hn rp hv
    exact Blk.ne hx.blk hv (by decide) rfl
  · obtain ⟨i, hv⟩ := hn g hv
    exact own_ne hx.thr hv (by decide) e
end
end Go.Proofs.YtkaplifhaafpdaaGreat
end
section
/-
  What must be whatever is asked: two threads of one Load each. No condition.
-/
namespace Go.Proofs.YtkaplifhaafpdaaGreat
open Go Go.RowKit
set_option linter.unusedSimpArgs false
set_option linter.unusedVariables false
/-- the runner with what its two Loads work on -/
def LS (w0 w : World) (bm rp v0 v1 p0 p1 : Nat) (A : Mem) (m0 m1 : Int) (d0 d1 : Bool) (x0 x1 : Int) (T : List Thr) (steps : Nat) (evs : List Ev) (ats : List Int) : Prop :=
  ∃ R E, PJ w0 w R E (LE w0 bm v0 v1 p0 p1 A m0 m1 d0 d1 x0 x1) rp bm [v0, v1] T steps evs ats ∧ Below w0.heap.size w0 w
section
variable {w0 w w' w1 w2 : World} {R S G F E E' U : Nat → Prop} {Env Env' : (Nat → Prop) → World → Prop} {rp bm n pb v v0 v1 p0 p1 made : Nat} {vws : List Nat} {T T' : List Thr} {steps steps' : Nat} {evs evs' : List Ev} {ats ats' : List Int} {cs : Array Value} {tv : Value} {ps : List (List Value)} {A A' : Mem} {m0 m1 x0 x1 m0' m1' x0' x1' : Int} {d0 d1 d0' d1' : Bool}
theorem PS.bel (j : PJ w0 w R E Env rp bm vws T steps evs ats) (ok : EnvOK w0 bm Env made) (hs : PS w0 w w' (fun k => R k ∨ E k) Env' rp bm vws T' steps' evs' ats') : Below w0.heap.size w w' := by
  obtain ⟨R', E', j', hk, hf⟩ := hs
  refine hf.to_below j.sz ?_
  rintro k hk2 (e | e)
  · have := (j.ro.pos k e).1; omega
  · have := (ok.pos _ _ j.env k e).1; omega
theorem LS.step (j : PJ w0 w R E (LE w0 bm v0 v1 p0 p1 A m0 m1 d0 d1 x0 x1) rp bm [v0, v1] T steps evs ats) (hb : Below w0.heap.size w0 w) (hs : PS w0 w w' (fun k => R k ∨ E k) (LE w0 bm v0 v1 p0 p1 A' m0' m1' d0' d1' x0' x1') rp bm [v0, v1] T' steps' evs' ats') : LS w0 w' bm rp v0 v1 p0 p1 A' m0' m1' d0' d1' x0' x1' T' steps' evs' ats' := by
  have hb2 := PS.bel j (LE.ok _ _ _ _ _ _ _ _ _ _ _ _ _) hs
  obtain ⟨R', E', j', hk, hf⟩ := hs
  exact ⟨R', E', j', hb.trans hb2⟩
theorem LS.idle (h : LS w0 w bm rp v0 v1 p0 p1 A m0 m1 d0 d1 x0 x1 T steps evs ats) (t : Int) (hi : idle T t = true) (hn : T.length ≤ 1000000) (hpl : ∀ x ∈ T, x.procs.length ≤ 1000000) (hs : steps ≤ 100000) :
    Calls Tryz.prog 6 #[.pointer (some ⟨rp, 0, none⟩), .int .i64 t] w fun e w' => e = .returned (.bool false) ∧ Hid (LS w0 w' bm rp v0 v1 p0 p1 A m0 m1 d0 d1 x0 x1 T (steps + 1) evs ats) := by
  obtain ⟨R, E, j, hb⟩ := h
  exact (Pick_idle j (LE.ok _ _ _ _ _ _ _ _ _ _ _ _ _) t hi (by omega) (fun x hx => by have := hpl x hx; omega) (by omega)).mono fun e w' hh => ⟨hh.1, LS.step j hb hh.2⟩
theorem LS.pick0 (h : LS w0 w bm rp v0 v1 p0 p1 A m0 m1 false d1 x0 x1 T steps evs ats) {x : Thr} (hx : T[0]? = some x) (hp : x.procs = [.iface 70 (.pointer (some ⟨p0, 0, none⟩))]) (hpos : x.pos = 0) (hn : T.length ≤ 1000000) (hpl : ∀ x ∈ T, x.procs.length ≤ 1000000) (hs : steps ≤ 100000) (he : evs.length ≤ 100000) (ha : ats.length ≤ 100000) (hc : A.cells.length ≤ 4194304) (ht : A.trace.length ≤ 100000) (hm0 : 0 ≤ m0) (hm1 : m0 ≤ 1000000000) :
    Calls Tryz.prog 6 #[.pointer (some ⟨rp, 0, none⟩), .int .i64 (0 : Int)] w fun e w' => e = .returned (.bool true) ∧ Hid (LS w0 w' bm rp v0 v1 p0 p1 (A.load 0 5) (m0 + 1) m1 true d1 (A.peek 5) x1 (pickT T 0 x true) (steps + 1) (pickE evs steps 0 x true) (noted ats steps A.trace.length (A.load 0 5).trace.length)) := by
  obtain ⟨R, E, j, hb⟩ := h
  have hl : (A.load 0 5).trace.length = A.trace.length + 1 := by simp [Mem.load, Mem.note]
  have := Pick_Load j (LE.ok _ _ _ _ _ _ _ _ _ _ _ _ _) (LE.ok _ _ _ _ _ _ _ _ _ _ _ _ _) (t := 0) (v := v0) (pb := p0) hx (by rw [hp, hpos]; simp) (by rw [hp, hpos]; rfl) rfl hn hpl (by omega) (by omega) (by omega) (by omega) (by omega) (fun E w1 hE => LE.step0 hc (by omega) hm0 hm1 E w1 hE)
  exact this.mono fun e w' hh => ⟨hh.1, LS.step j hb hh.2⟩
theorem LS.pick1 (h : LS w0 w bm rp v0 v1 p0 p1 A m0 m1 d0 false x0 x1 T steps evs ats) {x : Thr} (hx : T[1]? = some x) (hp : x.procs = [.iface 70 (.pointer (some ⟨p1, 0, none⟩))]) (hpos : x.pos = 0) (hn : T.length ≤ 1000000) (hpl : ∀ x ∈ T, x.procs.length ≤ 1000000) (hs : steps ≤ 100000) (he : evs.length ≤ 100000) (ha : ats.length ≤ 100000) (hc : A.cells.length ≤ 4194304) (ht : A.trace.length ≤ 100000) (hm0 : 0 ≤ m1) (hm1 : m1 ≤ 1000000000) :
    Calls Tryz.prog 6 #[.pointer (some ⟨rp, 0, none⟩), .int .i64 (1 : Int)] w fun e w' => e = .returned (.bool true) ∧ Hid (LS w0 w' bm rp v0 v1 p0 p1 (A.load 1 6) m0 (m1 + 1) d0 true x0 (A.peek 6) (pickT T 1 x true) (steps + 1) (pickE evs steps 1 x true) (noted ats steps A.trace.length (A.load 1 6).trace.length)) := by
  obtain ⟨R, E, j, hb⟩ := h
  have hl : (A.load 1 6).trace.length = A.trace.length + 1 := by simp [Mem.load, Mem.note]
  have := Pick_Load j (LE.ok _ _ _ _ _ _ _ _ _ _ _ _ _) (LE.ok _ _ _ _ _ _ _ _ _ _ _ _ _) (t := 1) (v := v1) (pb := p1) hx (by rw [hp, hpos]; simp) (by rw [hp, hpos]; rfl) rfl hn hpl (by omega) (by omega) (by omega) (by omega) (by omega) (fun E w1 hE => LE.step1 hc (by omega) hm0 hm1 E w1 hE)
  exact this.mono fun e w' hh => ⟨hh.1, LS.step j hb hh.2⟩
theorem LS.drawn (h : LS w0 w bm rp v0 v1 p0 p1 A m0 m1 d0 d1 x0 x1 T steps evs ats) (n : Nat) : LS w0 (w.drewN n) bm rp v0 v1 p0 p1 A m0 m1 d0 d1 x0 x1 T steps evs ats := by
  obtain ⟨R, E, j, hb⟩ := h
  exact ⟨R, E, j.drawn (LE.ok _ _ _ _ _ _ _ _ _ _ _ _ _) n, hb.trans (((Fr.refl (fun _ => False) w).drawn n).to_below j.sz (fun _ _ e => e))⟩
theorem LS.done (h : LS w0 w bm rp v0 v1 p0 p1 A m0 m1 d0 d1 x0 x1 T steps evs ats) (hn : T.length ≤ 1000000) (hpl : ∀ x ∈ T, x.procs.length ≤ 1000000) :
    Calls Tryz.prog 18 #[.pointer (some ⟨rp, 0, none⟩)] w fun e w' => e = .returned (.bool (allDone T)) ∧ Hid (LS w0 w' bm rp v0 v1 p0 p1 A m0 m1 d0 d1 x0 x1 T steps evs ats) := by
  obtain ⟨R, E, j, hb⟩ := id h
  obtain ⟨⟨cs, tv, ev, av, hx⟩, _⟩ := j.ro
  refine (Done_any hx (by omega) (fun x hx => by have := hpl x hx; omega)).mono ?_
  rintro e w' ⟨rfl, n, rfl⟩
  exact ⟨rfl, h.drawn n⟩
theorem LS.nsteps (h : LS w0 w bm rp v0 v1 p0 p1 A m0 m1 d0 d1 x0 x1 T steps evs ats) :
    Calls Tryz.prog 19 #[.pointer (some ⟨rp, 0, none⟩)] w fun e w' => e = .returned (.int .i64 steps) ∧ w = w' := by
  obtain ⟨R, E, j, hb⟩ := h
  obtain ⟨⟨cs, tv, ev, av, hx⟩, _⟩ := j.ro
  exact steps_any hx
theorem LS.bel (h : LS w0 w bm rp v0 v1 p0 p1 A m0 m1 d0 d1 x0 x1 T steps evs ats) (hb : Below w.heap.size w w') : LS w0 w' bm rp v0 v1 p0 p1 A m0 m1 d0 d1 x0 x1 T steps evs ats := by
  obtain ⟨R, E, j, hb0⟩ := h
  have ok := LE.ok w0 bm v0 v1 p0 p1 A m0 m1 d0 d1 x0 x1
  exact ⟨R, E, ⟨j.ro.bel hb, ok.st E (fun _ => False) _ _ j.env (Fr.of_below hb) (fun _ _ e => e), j.dis, Nat.le_trans j.sz hb.size⟩, hb0.trans (hb.mono j.sz)⟩
theorem LS.events (h : LS w0 w bm rp v0 v1 p0 p1 A m0 m1 d0 d1 x0 x1 T steps evs ats) (hn : evs.length ≤ 100000) :
    Calls Tryz.prog 9 #[.pointer (some ⟨rp, 0, none⟩)] w fun e w' => ∃ p c, e = .returned (.slice p evs.length c) ∧ Hid (LS w0 w' bm rp v0 v1 p0 p1 A m0 m1 d0 d1 x0 x1 T steps evs ats) := by
  obtain ⟨R, E, j, hb⟩ := id h
  obtain ⟨⟨cs, tv, ev, av, hx⟩, _⟩ := j.ro
  refine (Events_any hx (by omega)).mono ?_
  rintro e w' ⟨v', rfl, ho, hb2⟩
  obtain ⟨p, c, rfl⟩ := bk_form ho
  exact ⟨p, c, rfl, h.bel hb2⟩
theorem LS.at (h : LS w0 w bm rp v0 v1 p0 p1 A m0 m1 d0 d1 x0 x1 T steps evs ats) (hn : ats.length ≤ 100000) (ht : A.trace.length ≤ 100000) :
    Calls Tryz.prog 11 #[.pointer (some ⟨rp, 0, none⟩)] w fun e w' => ∃ p c, e = .returned (.slice p (ats.length + (A.trace.length - ats.length)) c) ∧ Hid (LS w0 w' bm rp v0 v1 p0 p1 A m0 m1 d0 d1 x0 x1 T steps evs ats) := by
  obtain ⟨R, E, j, hb⟩ := id h
  obtain ⟨⟨cs, tv, ev, av, hx⟩, _⟩ := j.ro
  obtain ⟨F, ⟨⟨q, r, tv2, rows, hm⟩, _⟩, _⟩ := j.env.own
  refine (At_any hx (by omega) (made := A.trace.length) (by omega) (Live_any hm) (fun w1 hb1 => Made_any (hm.fr (Fr.of_below (S := fun _ => False) hb1) (fun _ _ e => e)))).mono ?_
  rintro e w' ⟨v', rfl, ho, hb2⟩
  obtain ⟨p, c, rfl⟩ := bk_form ho
  exact ⟨p, c, rfl, h.bel hb2⟩
theorem reads_blk {g : Nat} {t : TypeId} {n : Nat} (h : Blk w g t cs) (hn : n = cs.toList.length) (c : Nat) : Reads w (.slice (some ⟨g, 0, none⟩) n c) cs.toList := by
  refine ⟨_, c, by rw [hn], (by intro e; cases e), fun j x hj => ⟨g, 0, rfl, Blk.lt h, ?_⟩⟩
  rw [Nat.zero_add, Blk.cell h j]
  simpa using hj
/-- the rows that New is handed -/
theorem live_rows (hm : PM w1 (fun b => w.heap.size ≤ b) bm A) (hb : Below w.heap.size w w1) :
    ∀ we, we = (((((w1.alloc (.cells #[.int .u64 5, .bool false, .int .u64 0] 146)).alloc (.cells #[.iface 70 (.pointer (some ⟨w1.heap.size, 0, none⟩))] 88)).alloc (.cells #[.int .u64 6, .bool false, .int .u64 0] 146)).alloc (.cells #[.iface 70 (.pointer (some ⟨w1.heap.size + 1 + 1, 0, none⟩))] 88)).alloc (.cells #[.slice (some ⟨w1.heap.size + 1, 0, none⟩) 1 1, .slice (some ⟨w1.heap.size + 1 + 1 + 1, 0, none⟩) 1 1] 73)) →
    Reads2 we (.slice (some ⟨w1.heap.size + 1 + 1 + 1 + 1, 0, none⟩) 2 2) [[.iface 70 (.pointer (some ⟨w1.heap.size, 0, none⟩))], [.iface 70 (.pointer (some ⟨w1.heap.size + 1 + 1, 0, none⟩))]] ∧
      (∃ F, Mine we w.heap.size F bm A ∧ ¬ F w1.heap.size ∧ ¬ F (w1.heap.size + 1 + 1)) ∧ LD we w1.heap.size 5 false 0 ∧ LD we (w1.heap.size + 1 + 1) 6 false 0 ∧ Below w.heap.size w we ∧ we.heap.size = w1.heap.size + 5 := by
  have b0 := Blk.made w1 146 #[.int .u64 5, .bool false, .int .u64 0]
  generalize ha : w1.alloc (.cells #[.int .u64 5, .bool false, .int .u64 0] 146) = wa at *
  have sa : wa.heap.size = w1.heap.size + 1 := by rw [← ha]; simp
  have b1 := Blk.made wa 88 #[.iface 70 (.pointer (some ⟨w1.heap.size, 0, none⟩))]
  have b0 := Blk.alloc b0 (.cells #[.iface 70 (.pointer (some ⟨w1.heap.size, 0, none⟩))] 88)
  have fa : Below w1.heap.size w1 wa := by rw [← ha]; exact (Below.refl _ w1).alloc (Nat.le_refl _) _
  have fb : Below wa.heap.size wa (wa.alloc (.cells #[.iface 70 (.pointer (some ⟨w1.heap.size, 0, none⟩))] 88)) := (Below.refl _ wa).alloc (Nat.le_refl _) _
  generalize hb2 : wa.alloc (.cells #[.iface 70 (.pointer (some ⟨w1.heap.size, 0, none⟩))] 88) = wb at *
  have sb : wb.heap.size = w1.heap.size + 1 + 1 := by rw [← hb2, ← sa]; simp
  have b2 := Blk.made wb 146 #[.int .u64 6, .bool false, .int .u64 0]
  have b0 := Blk.alloc b0 (.cells #[.int .u64 6, .bool false, .int .u64 0] 146)
  have b1 := Blk.alloc b1 (.cells #[.int .u64 6, .bool false, .int .u64 0] 146)
  have fc : Below wb.heap.size wb (wb.alloc (.cells #[.int .u64 6, .bool false, .int .u64 0] 146)) := (Below.refl _ wb).alloc (Nat.le_refl _) _
  generalize hc2 : wb.alloc (.cells #[.int .u64 6, .bool false, .int .u64 0] 146) = wc at *
  have sc : wc.heap.size = w1.heap.size + 1 + 1 + 1 := by rw [← hc2, ← sb]; simp
  have b3 := Blk.made wc 88 #[.iface 70 (.pointer (some ⟨w1.heap.size + 1 + 1, 0, none⟩))]
  have b0 := Blk.alloc b0 (.cells #[.iface 70 (.pointer (some ⟨w1.heap.size + 1 + 1, 0, none⟩))] 88)
  have b1 := Blk.alloc b1 (.cells #[.iface 70 (.pointer (some ⟨w1.heap.size + 1 + 1, 0, none⟩))] 88)
  have b2 := Blk.alloc b2 (.cells #[.iface 70 (.pointer (some ⟨w1.heap.size + 1 + 1, 0, none⟩))] 88)
  have fd : Below wc.heap.size wc (wc.alloc (.cells #[.iface 70 (.pointer (some ⟨w1.heap.size + 1 + 1, 0, none⟩))] 88)) := (Below.refl _ wc).alloc (Nat.le_refl _) _
  generalize hd2 : wc.alloc (.cells #[.iface 70 (.pointer (some ⟨w1.heap.size + 1 + 1, 0, none⟩))] 88) = wd at *
  have sd : wd.heap.size = w1.heap.size + 1 + 1 + 1 + 1 := by rw [← hd2, ← sc]; simp
  intro we hwe
  have b4 := Blk.made wd 73 #[.slice (some ⟨w1.heap.size + 1, 0, none⟩) 1 1, .slice (some ⟨w1.heap.size + 1 + 1 + 1, 0, none⟩) 1 1]
  have fe : Below wd.heap.size wd we := by rw [hwe]; exact (Below.refl _ wd).alloc (Nat.le_refl _) _
  have b0 := Blk.alloc b0 (.cells #[.slice (some ⟨w1.heap.size + 1, 0, none⟩) 1 1, .slice (some ⟨w1.heap.size + 1 + 1 + 1, 0, none⟩) 1 1] 73)
  have b1 := Blk.alloc b1 (.cells #[.slice (some ⟨w1.heap.size + 1, 0, none⟩) 1 1, .slice (some ⟨w1.heap.size + 1 + 1 + 1, 0, none⟩) 1 1] 73)
  have b2 := Blk.alloc b2 (.cells #[.slice (some ⟨w1.heap.size + 1, 0, none⟩) 1 1, .slice (some ⟨w1.heap.size + 1 + 1 + 1, 0, none⟩) 1 1] 73)
  have b3 := Blk.alloc b3 (.cells #[.slice (some ⟨w1.heap.size + 1, 0, none⟩) 1 1, .slice (some ⟨w1.heap.size + 1 + 1 + 1, 0, none⟩) 1 1] 73)
  rw [← hwe] at b0 b1 b2 b3 b4
  have se : we.heap.size = w1.heap.size + 1 + 1 + 1 + 1 + 1 := by rw [hwe, ← sd]; simp
  rw [sa] at b1
  rw [sb] at b2
  rw [sc] at b3
  rw [sd] at b4
  have f15 : Below w1.heap.size w1 we := fa.trans ((fb.mono (by omega)).trans ((fc.mono (by omega)).trans ((fd.mono (by omega)).trans (fe.mono (by omega)))))
  refine ⟨⟨_, reads_blk b4 rfl 2, rfl, ?_⟩, ⟨_, (Mine.start hm).fr (Fr.of_below (S := fun _ => False) f15) (fun _ _ e => e), by rintro ⟨_, e⟩; omega, by rintro ⟨_, e⟩; omega⟩, b0, b2, hb.trans (f15.mono hb.size), by omega⟩
  intro j u l hu hl
  match j with
  | 0 =>
    simp at hu hl
    subst hu hl
    exact reads_blk b1 rfl 1
  | 1 =>
    simp at hu hl
    subst hu hl
    exact reads_blk b3 rfl 1
  | j + 2 => simp at hl
/-- the runner behind New -/
theorem live_start {i0 i1 : Value} (hF : ∃ F, Mine w w0.heap.size F bm A ∧ ¬ F p0 ∧ ¬ F p1) (l0 : LD w p0 5 false 0) (l1 : LD w p1 6 false 0) (np : p0 ≠ p1) (hge : w0.heap.size ≤ p0 ∧ w0.heap.size ≤ p1) (hb : Below w0.heap.size w0 w) (h : NewAt w w1 rp bm [[i0], [i1]] 2 T vws cs tv) :
    ∃ v0 v1 a b, LS w0 w1 bm rp v0 v1 p0 p1 A 0 0 false false 0 0 [⟨a, [i0], 0, false⟩, ⟨b, [i1], 0, false⟩] 0 [] [] := by
  obtain ⟨v0, v1, rfl⟩ : ∃ v0 v1, vws = [v0, v1] := by
    have := h.lv
    match vws, this with
    | [a, b], _ => exact ⟨a, b, rfl⟩
  obtain ⟨x, y, rfl⟩ : ∃ x y, T = [x, y] := by
    have := h.lt
    match T, this with
    | [a, b], _ => exact ⟨a, b, rfl⟩
  obtain ⟨q0, q1, q2⟩ := h.th 0 x rfl
  obtain ⟨r0, r1, r2⟩ := h.th 1 y rfl
  obtain ⟨a, xp, xpos, xop⟩ := x
  obtain ⟨b, yp, ypos, yop⟩ := y
  simp at q0 q1 q2 r0 r1 r2
  subst q0 q1 q2 r0 r1 r2
  obtain ⟨F, hm, f0, f1⟩ := hF
  obtain ⟨a0, g0⟩ := h.vw 0 v0 rfl
  obtain ⟨a1, g1⟩ := h.vw 1 v1 rfl
  have hbel := h.bel
  have e0 : p0 < w.heap.size := Blk.lt l0
  have e1 : p1 < w.heap.size := Blk.lt l1
  have hF2 : ∀ k, F k → k < w.heap.size := fun k hk => (hm.2 k hk).2
  have hs := hb.size
  have hfr : Fr (fun _ => False) w w1 := Fr.of_below hbel
  have hv : v0 ≠ v1 := by
    intro e
    subst e
    have c0 : w1.cell? ⟨v0, 1, none⟩ = some (.int .i64 (0 : Nat)) := Blk.cell a0 1
    have c1 : w1.cell? ⟨v0, 1, none⟩ = some (.int .i64 (1 : Nat)) := Blk.cell a1 1
    rw [c0] at c1
    simp at c1
  refine ⟨v0, v1, a, b, _, fun k => F k ∨ k = v0 ∨ k = v1 ∨ k = p0 ∨ k = p1, ⟨h.ro hs, ⟨⟨F, hm.fr hfr (fun _ _ e => e), ⟨?_, ?_, f0, f1⟩, fun k => Iff.rfl⟩, a0, a1, Blk.fr l0 hfr id, Blk.fr l1 hfr id, hv, np, by omega⟩, ?_, Nat.le_trans hs hbel.size⟩, hb.trans (hbel.mono hs)⟩
  · intro e; have := hF2 _ e; omega
  · intro e; have := hF2 _ e; omega
  · rintro k (e | rfl | rfl | rfl | rfl) ⟨h1, h2, h3⟩
    · have := hF2 _ e; omega
    · exact h3 (by simp)
    · exact h3 (by simp)
    · omega
    · omega
end
/-- the two threads -/
def TT (a b : Value) (p0 p1 n0 n1 : Nat) : List Thr := [⟨a, [.iface 70 (.pointer (some ⟨p0, 0, none⟩))], n0, false⟩, ⟨b, [.iface 70 (.pointer (some ⟨p1, 0, none⟩))], n1, false⟩]
theorem TT_pl (a b : Value) (p0 p1 n0 n1 : Nat) : ∀ x ∈ TT a b p0 p1 n0 n1, x.procs.length ≤ 1000000 := by
  intro x hx
  simp [TT] at hx
  rcases hx with rfl | rfl <;> simp
def ev4 : List Ev := [⟨0, 1, 0, false⟩, ⟨0, 1, 0, true⟩, ⟨3, 0, 0, false⟩, ⟨3, 0, 0, true⟩]
set_option maxHeartbeats 4000000 in
set_option maxRecDepth 100000 in
theorem live_any (w : World) : Calls Tryz.prog 4 #[] w fun e w' => e = .returned (.bool true) ∧ Below w.heap.size w w' := by
  go_enter Tryz.func4, Tryz.ntmps4
  go_wp2_with fail
  refine (New_128 w).mono ?_
  rintro e w1 ⟨bm, rfl, hm, hb⟩
  have HR := Lib.hid (live_rows hm hb)
  have HB := Lib.hid hb.size
  clear hm hb
  go_wp2_with fail
  refine (NewLoad_any _ _).mono ?_
  rintro e w2 ⟨rfl, rfl⟩
  go_wp2_with fail
  refine (NewLoad_any _ _).mono ?_
  rintro e w2 ⟨rfl, rfl⟩
  go_wp2_with fail
  obtain ⟨hr, hF, l0, l1, hb2, hsz⟩ := HR.out _ rfl
  refine (New_ok (ps := [_, _]) hr (by simp) rfl (by intro l hl x hx; simp at hl; rcases hl with rfl | rfl <;> (simp at hx; subst hx; rfl))).mono ?_
  rintro e w2 ⟨rp, rfl, hN⟩
  obtain ⟨v0, v1, a, b, hL⟩ : ∃ v0 v1 a b, Hid (LS w w2 bm rp v0 v1 w1.heap.size (w1.heap.size + 1 + 1) (Mem.made 128) 0 0 false false 0 0 [⟨a, [.iface 70 (.pointer (some ⟨w1.heap.size, 0, none⟩))], 0, false⟩, ⟨b, [.iface 70 (.pointer (some ⟨w1.heap.size + 1 + 1, 0, none⟩))], 0, false⟩] 0 [] []) := by
    obtain ⟨T, vws, cs, tv, hN⟩ := hN.out
    exact live_start hF l0 l1 (by omega) (by have := HB.out; omega) hb2 hN
  clear hr hF l0 l1 hb2 hsz HR HB hN
  generalize w1.heap.size = p0 at *
  generalize p0 + 1 + 1 = p1 at *
  have k0 : (Mem.made 128).cells.length ≤ 4194304 := by simp [Mem.made]
  have H1 := Lib.hid (hL.out.pick1 (x := ⟨b, [.iface 70 (.pointer (some ⟨p1, 0, none⟩))], 0, false⟩) rfl rfl rfl (by simp) (TT_pl a b p0 p1 0 0) (by omega) (by simp) (by simp) k0 (by simp [Mem.made]) (by omega) (by omega))
  clear hL
  go_wp2_with fail
  refine H1.out.mono ?_
  rintro e w3 ⟨rfl, hL3⟩
  clear H1
  have hA : ((Mem.made 128).load 1 6).cells.length ≤ 4194304 ∧ ((Mem.made 128).load 1 6).trace.length = 1 := by simp [Mem.load, Mem.note, Mem.made]
  replace hL3 : Hid (LS w w3 bm rp v0 v1 p0 p1 ((Mem.made 128).load 1 6) 0 (0 + 1) false true 0 ((Mem.made 128).peek 6) (TT a b p0 p1 0 1) 1 (ev4.take 2) [0]) := hL3
  generalize (Mem.made 128).load 1 6 = A1 at *
  generalize (Mem.made 128).peek 6 = x1 at *
  have H2 := Lib.hid (hL3.out.idle 7 rfl (by simp [TT]) (TT_pl _ _ _ _ _ _) (by omega))
  clear hL3
  go_wp2_with fail
  refine H2.out.mono ?_
  rintro e w4 ⟨rfl, hL4⟩
  clear H2
  have H3 := Lib.hid (hL4.out.idle 1 rfl (by simp [TT]) (TT_pl _ _ _ _ _ _) (by omega))
  clear hL4
  go_wp2_with fail
  refine H3.out.mono ?_
  rintro e w5 ⟨rfl, hL5⟩
  clear H3
  have H4 : Hid (Calls Tryz.prog 18 #[.pointer (some ⟨rp, 0, none⟩)] w5 fun e w' => e = .returned (.bool false) ∧ Hid (LS w w' bm rp v0 v1 p0 p1 A1 0 (0 + 1) false true 0 x1 (TT a b p0 p1 0 1) 3 (ev4.take 2) [0])) := hL5.out.done (by simp [TT]) (TT_pl _ _ _ _ _ _)
  clear hL5
  go_wp2_with fail
  refine H4.out.mono ?_
  rintro e w6 ⟨rfl, hL6⟩
  clear H4
  have hA2 : (A1.load 0 5).cells.length ≤ 4194304 ∧ (A1.load 0 5).trace.length = 2 := by simp [Mem.load, Mem.note, hA.2]; exact hA.1
  have H5 : Hid (Calls Tryz.prog 6 #[.pointer (some ⟨rp, 0, none⟩), .int .i64 0] w6 fun e w' => e = .returned (.bool true) ∧ Hid (LS w w' bm rp v0 v1 p0 p1 (A1.load 0 5) (0 + 1) (0 + 1) true true (A1.peek 5) x1 (TT a b p0 p1 1 1) 4 ev4 [0, 3])) := by
    have := hL6.out.pick0 (x := ⟨a, [.iface 70 (.pointer (some ⟨p0, 0, none⟩))], 0, false⟩) rfl rfl rfl (by simp [TT]) (TT_pl _ _ _ _ _ _) (by omega) (by simp [ev4]) (by simp) hA.1 (by omega) (by omega) (by omega)
    rw [hA.2, hA2.2] at this
    exact this
  clear hL6
  go_wp2_with fail
  refine H5.out.mono ?_
  rintro e w7 ⟨rfl, hL7⟩
  clear H5 hA
  generalize A1.load 0 5 = A2 at *
  generalize A1.peek 5 = x0 at *
  have H6 : Hid (Calls Tryz.prog 18 #[.pointer (some ⟨rp, 0, none⟩)] w7 fun e w' => e = .returned (.bool true) ∧ Hid (LS w w' bm rp v0 v1 p0 p1 A2 (0 + 1) (0 + 1) true true x0 x1 (TT a b p0 p1 1 1) 4 ev4 [0, 3])) := hL7.out.done (by simp [TT]) (TT_pl _ _ _ _ _ _)
  clear hL7
  go_wp2_with fail
  refine H6.out.mono ?_
  rintro e w8 ⟨rfl, hL8⟩
  clear H6
  have H7 : Hid (Calls Tryz.prog 19 #[.pointer (some ⟨rp, 0, none⟩)] w8 fun e w' => e = .returned (.int .i64 4) ∧ w8 = w') := hL8.out.nsteps
  go_wp2_with fail
  refine H7.out.mono ?_
  rintro e w9 ⟨rfl, rfl⟩
  clear H7
  have H8 : Hid (Calls Tryz.prog 9 #[.pointer (some ⟨rp, 0, none⟩)] w8 fun e w' => ∃ p c, e = .returned (.slice p 4 c) ∧ Hid (LS w w' bm rp v0 v1 p0 p1 A2 (0 + 1) (0 + 1) true true x0 x1 (TT a b p0 p1 1 1) 4 ev4 [0, 3])) := hL8.out.events (by simp [ev4])
  clear hL8
  go_wp2_with fail
  refine H8.out.mono ?_
  rintro e w9 ⟨pe, ce, rfl, hL9⟩
  clear H8
  have H9 : Hid (Calls Tryz.prog 11 #[.pointer (some ⟨rp, 0, none⟩)] w9 fun e w' => ∃ p c, e = .returned (.slice p 2 c) ∧ Hid (LS w w' bm rp v0 v1 p0 p1 A2 (0 + 1) (0 + 1) true true x0 x1 (TT a b p0 p1 1 1) 4 ev4 [0, 3])) := by
    have := hL9.out.at (by simp) (by omega)
    rw [hA2.2] at this
    exact this
  clear hL9
  go_wp2_with fail
  refine H9.out.mono ?_
  rintro e wz ⟨pa, ca, rfl, hLz⟩
  clear H9
  go_wp2_with fail
  go_ret
  obtain ⟨R, E, j, hbz⟩ := hLz.out
  exact ⟨rfl, hbz⟩
end Go.Proofs.YtkaplifhaafpdaaGreat
end

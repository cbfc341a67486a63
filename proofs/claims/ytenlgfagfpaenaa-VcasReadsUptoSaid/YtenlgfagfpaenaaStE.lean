/-
  A runner and what its procs work on, side by side; a pick of a thread that has nothing to do. No condition.
-/
import Derived.Test.YtenlgfagfpaenaaStD
import Derived.Deep.Cut
import Derived.Deep.DeepCutAuto
import Derived.Deep.RegionHeld3
import Derived.Deep.RegionHeldLaw
namespace Go.Proofs.Ytenlgfagfpaenaa
open Go Go.RowKit
set_option linter.unusedSimpArgs false
set_option linter.unusedVariables false
/-- what procs work on: a memory at bm with so many accesses, within E; it stays where nobody writes -/
structure EnvOK (w0 : World) (bm : Nat) (Env : (Nat → Prop) → World → Prop) (made : Nat) : Prop where
  st : ∀ E S w w', Env E w → Fr S w w' → (∀ k, E k → ¬ S k) → Env E w'
  pos : ∀ E w, Env E w → ∀ k, E k → w0.heap.size ≤ k ∧ k < w.heap.size
  made : ∀ E w, Env E w → Calls Try.prog 79 #[.pointer (some ⟨bm, 0, none⟩)] w fun e w' => e = .returned (.int .i64 made) ∧ w = w'
/-- a runner and what its procs work on -/
structure PJ (w0 w : World) (R E : Nat → Prop) (Env : (Nat → Prop) → World → Prop) (rp bm : Nat) (vws : List Nat) (T : List Thr) (steps : Nat) (evs : List Ev) (ats : List Int) : Prop where
  ro : RO w0 w R rp bm vws T steps evs ats
  env : Env E w
  dis : ∀ k, E k → ¬ R k
  sz : w0.heap.size ≤ w.heap.size
/-- a step from w -/
def PS (w0 w w' : World) (U : Nat → Prop) (Env : (Nat → Prop) → World → Prop) (rp bm : Nat) (vws : List Nat) (T : List Thr) (steps : Nat) (evs : List Ev) (ats : List Int) : Prop :=
  ∃ R E, PJ w0 w' R E Env rp bm vws T steps evs ats ∧ (∀ b, b < w.heap.size → ¬ U b → ¬ (R b ∨ E b)) ∧ Fr U w w'
section
variable {w0 w w' w1 w2 : World} {R S G E E' U : Nat → Prop} {Env Env' : (Nat → Prop) → World → Prop} {rp bm made made' : Nat} {vws : List Nat} {T T' : List Thr} {steps steps' : Nat} {evs evs' : List Ev} {ats ats' : List Int} {cs : Array Value} {tv ev av u v' : Value}
theorem PJ.refl (h : PJ w0 w R E Env rp bm vws T steps evs ats) : PS w0 w w (fun k => R k ∨ E k) Env rp bm vws T steps evs ats := ⟨R, E, h, fun _ _ e => e, Fr.refl _ _⟩
theorem PJ.rstep (h : PJ w0 w R E Env rp bm vws T steps evs ats) (ok : EnvOK w0 bm Env made) (hs : RStep w0 w w' R rp bm vws T' steps' evs' ats') : PS w0 w w' (fun k => R k ∨ E k) Env rp bm vws T' steps' evs' ats' := by
  obtain ⟨R', o, hk, hf⟩ := hs
  refine ⟨R', E, ⟨o, ok.st _ _ _ _ h.env hf h.dis, fun k hE => hk k (ok.pos _ _ h.env k hE).2 (h.dis k hE), Nat.le_trans h.sz hf.size⟩, ?_, hf.mono (fun _ _ e => .inl e)⟩
  rintro b hb hn (e | e)
  · exact hk b hb (fun e2 => hn (.inl e2)) e
  · exact hn (.inr e)
theorem PJ.estep (h : PJ w0 w R E Env rp bm vws T steps evs ats) (henv : Env' E' w') (hk : ∀ b, b < w.heap.size → ¬ E b → ¬ E' b) (hf : Fr E w w') : PS w0 w w' (fun k => R k ∨ E k) Env' rp bm vws T steps evs ats := by
  refine ⟨R, E', ⟨h.ro.fr hf (fun k hR hE => h.dis k hE hR), henv, fun k hE hR => ?_, Nat.le_trans h.sz hf.size⟩, ?_, hf.mono (fun _ _ e => .inr e)⟩
  · exact hk k (h.ro.pos k hR).2 (fun e => h.dis k e hR) hE
  · rintro b hb hn (e | e)
    · exact hn (.inl e)
    · exact hk b hb (fun e2 => hn (.inr e2)) e
theorem PS.trans (h : PS w0 w w1 U Env rp bm vws T steps evs ats) (h2 : ∀ R E, PJ w0 w1 R E Env rp bm vws T steps evs ats → PS w0 w1 w2 (fun k => R k ∨ E k) Env' rp bm vws T' steps' evs' ats') : PS w0 w w2 U Env' rp bm vws T' steps' evs' ats' := by
  obtain ⟨R, E, j, hk, hf⟩ := h
  obtain ⟨R', E', j', hk', hf'⟩ := h2 R E j
  refine ⟨R', E', j', fun b hb hn => hk' b (Nat.lt_of_lt_of_le hb hf.size) (hk b hb hn), ⟨hf'.os.trans hf.os, hf'.tape.trans hf.tape, hf'.output.trans hf.output, Nat.le_trans hf.size hf'.size, fun k hkk hn => ?_⟩⟩
  exact (hf'.block k (Nat.lt_of_lt_of_le hkk hf.size) (hk k hkk hn)).trans (hf.block k hkk hn)
theorem PJ.drawn (h : PJ w0 w R E Env rp bm vws T steps evs ats) (ok : EnvOK w0 bm Env made) (n : Nat) : PJ w0 (w.drewN n) R E Env rp bm vws T steps evs ats :=
  ⟨h.ro.drawn n, ok.st E (fun _ => False) _ _ h.env ((Fr.refl (fun _ => False) w).drawn n) (fun _ _ e => e), h.dis, h.sz⟩
theorem PS.drawn (h : PS w0 w w1 U Env rp bm vws T steps evs ats) (ok : EnvOK w0 bm Env made) (n : Nat) : PS w0 w (w1.drewN n) U Env rp bm vws T steps evs ats :=
  let ⟨R, E, j, hk, hf⟩ := h
  ⟨R, E, j.drawn ok n, hk, hf.drawn n⟩
theorem RO.bump (h : RO w0 w R rp bm vws T steps evs ats) (h0 : w0.heap.size ≤ w.heap.size) (s : Nat) : RStep w0 w (w.setCell ⟨rp, 66, none⟩ (.int .i64 s)) R rp bm vws T s evs ats := by
  obtain ⟨⟨cs, tv, ev, av, hx⟩, hp⟩ := h
  obtain ⟨h1, h2⟩ := hx.put66 s
  exact (h1.wide (G := Ext R w) (fun _ e => .inl e)).toStep hp h0 h2
set_option maxRecDepth 100000 in
theorem Pick_idle (h : PJ w0 w R E Env rp bm vws T steps evs ats) (ok : EnvOK w0 bm Env made) (t : Int) (hi : idle T t = true) (hn : T.length ≤ 1000000000) (hpl : ∀ x ∈ T, x.procs.length ≤ 1000000000) (hs : steps ≤ 1000000000) :
    Calls Try.prog 63 #[.pointer (some ⟨rp, 0, none⟩), .int .i64 t] w fun e w' => e = .returned (.bool false) ∧ PS w0 w w' (fun k => R k ∨ E k) Env rp bm vws T (steps + 1) evs ats := by
  obtain ⟨⟨cs, tv, ev, av, hx⟩, hp⟩ := h.ro
  have c1 : w.cell? ⟨rp, 66, none⟩ = some (.int .i64 steps) := (hx.blk.cell 66).trans hx.rc.c66
  have f1 := hx.blk.cold 66
  have HS := Lib.hid (h.rstep ok (h.ro.bump h.sz (steps + 1)))
  have HI := Lib.hid (isIdle_any (hx.put66 (steps + 1)).1 hn t hpl)
  rw [hi] at HI
  clear hx hp h hi hpl
  go_enter Try.func63, Try.ntmps63
  go_wp2_with fail
  refine HI.out.mono ?_
  rintro e w2 ⟨rfl, n, rfl⟩
  go_wp2
  go_ret
  exact ⟨rfl, HS.out.drawn ok n⟩
end
end Go.Proofs.Ytenlgfagfpaenaa

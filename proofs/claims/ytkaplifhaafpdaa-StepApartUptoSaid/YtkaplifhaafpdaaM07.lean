/-
  StD, StE, StF, StN: the texts of the proof, merged. No condition.
-/
import Derived.Test.YtkaplifhaafpdaaM06
import Derived.Deep.Cut
import Derived.Deep.DeepCutAuto
import Derived.Deep.RegionHeld3
import Derived.Deep.RegionHeldLaw
import Derived.RangeFuncCalls
section
/-
  A runner: accesses are written down. No condition.
-/
namespace Go.Proofs.Ytkaplifhaafpdaa
open Go Go.RowKit
set_option linter.unusedSimpArgs false
set_option linter.unusedVariables false
/-- how many steps are written down -/
def atLen (w : World) (rp : Nat) : Nat := match w.cell? ⟨rp, 68, none⟩ with | some (.slice _ n _) => n | _ => 0
theorem infoI : (Try.prog.info? 3).map (fun i => (i.zero, i.size, i.bytes)) = some (some (.int .i64 0), 1, 8) := by kernel_rfl
section
variable {w0 w w' w1 : World} {R S G : Nat → Prop} {rp bm : Nat} {vws : List Nat} {T : List Thr} {steps : Nat} {evs : List Ev} {ats : List Int} {cs : Array Value} {tv ev av u v' : Value}
theorem RX.atLen (h : RX w R rp bm vws T steps evs ats cs tv ev av) : atLen w rp = ats.length := by
  obtain ⟨p, c, rfl⟩ := bk_form h.avo
  unfold Go.Proofs.Ytkaplifhaafpdaa.atLen
  rw [(h.blk.cell 68).trans h.rc.c68]
theorem RStep.next {A : List Int} (h : RStep w0 w w1 R rp bm vws T steps evs A) (h0 : w0.heap.size ≤ w.heap.size) : ∃ ap ac, w1.cell? ⟨rp, 68, none⟩ = some (.slice ap A.length ac) ∧ atLen w1 rp = A.length ∧ rp < w1.heap.size ∧ w.heap.size ≤ w1.heap.size ∧
    (∀ o, (w1.alloc o).ownsRow 0 3 1 (.slice ap A.length ac) A.length (is64 A)) ∧
    ∀ o x g c w2, w2.ownsRow 0 3 1 (.slice (some ⟨g, 0, none⟩) (A.length + 1) c) (A.length + 1) (is64 A ++ [.int .i64 x]) → (w1.alloc o).grownBy w2 (Value.slice ap A.length ac).ownBlock → ((Value.slice ap A.length ac).ownBlock = some g ∨ g = w1.heap.size + 1) →
      w2.cell? ⟨rp, 68, none⟩ = some (.slice ap A.length ac) ∧ w2.frozen? ⟨rp, 68, none⟩ = false ∧ Hid (RStep w0 w (w2.setCell ⟨rp, 68, none⟩ (.slice (some ⟨g, 0, none⟩) (A.length + 1) c)) R rp bm vws T steps evs (A ++ [x]) ∧ atLen (w2.setCell ⟨rp, 68, none⟩ (.slice (some ⟨g, 0, none⟩) (A.length + 1) c)) rp = A.length + 1) := by
  obtain ⟨R1, ⟨⟨cs, tv, ev, av, hx⟩, hp⟩, k1, f1⟩ := h
  obtain ⟨ap, ac, rfl⟩ := bk_form hx.avo
  have hs1 := f1.size
  refine ⟨ap, ac, (hx.blk.cell 68).trans hx.rc.c68, hx.atLen, hx.blk.lt, hs1, fun o => own_fr hx.avo ((Fr.refl (fun _ => False) w1).alloc o) (fun _ _ e => e), ?_⟩
  intro o x g c w2 hown' hgrow hat
  obtain ⟨hx2, f2, c2, z2⟩ := hx.push68 o hown' hgrow hat
  refine ⟨c2, z2, ?_, ?_⟩
  · obtain ⟨R2, o2, k2, f3⟩ := hx2.toStep (w0 := w0) hp (Nat.le_trans h0 hs1) f2
    exact ⟨R2, o2, fun b hb hn => k2 b (Nat.lt_of_lt_of_le hb hs1) (k1 b hb hn), ⟨f3.os.trans f1.os, f3.tape.trans f1.tape, f3.output.trans f1.output, Nat.le_trans f1.size f3.size, fun k hk hn => (f3.block k (Nat.lt_of_lt_of_le hk f1.size) (k1 k hk hn)).trans (f1.block k hk hn)⟩⟩
  · unfold Go.Proofs.Ytkaplifhaafpdaa.atLen
    rw [World.cell?_setCell_same _ _ _ c2]
theorem pad_next (ats : List Int) (k : Nat) (x : Int) : ats ++ List.replicate (k + 1) x = ats ++ List.replicate k x ++ [x] := by rw [List.replicate_succ', List.append_assoc]
set_option maxHeartbeats 2000000 in
set_option maxRecDepth 100000 in
theorem snote_any (h : RO w0 w R rp bm vws T steps evs ats) (h0 : w0.heap.size ≤ w.heap.size) (step : Int) (ahead now : Nat) (h1 : ats.length ≤ 1000000000) (h2 : ahead ≤ 1000000000) (h3 : now ≤ 1000000000) :
    Calls Try.prog 58 #[.pointer (some ⟨rp, 0, none⟩), .int .i64 step, .int .i64 (ahead : Int), .int .i64 (now : Int)] w fun e w' => e = .returned (.tuple #[]) ∧ RStep w0 w w' R rp bm vws T steps evs (noted ats step ahead now) := by
  obtain ⟨i0, hi, hz0, hz1, hz2⟩ := info_parts infoI
  have H := Lib.hid h
  clear h
  go_enter Try.func58, Try.ntmps58
  go_wp2_with fail
  go_loopw [] (fun wr => ∃ (k : Nat), k ≤ ahead - ats.length ∧ RStep w0 w wr R rp bm vws T steps evs (ats ++ List.replicate k (-1))) (fun wr => ahead - atLen wr rp)
  case atStart => exact ⟨0, Nat.zero_le _, by simpa using H.out.refl⟩
  case round =>
    obtain ⟨k, hk, hS⟩ := hrel
    have hlen : (ats ++ List.replicate k (-1 : Int)).length = ats.length + k := by simp
    obtain ⟨ap, ac, c1, hal, hrl, hs1, hown, hE⟩ := hS.next h0
    rw [hlen] at c1 hal hown hE
    by_cases hlt : ats.length + k < ahead
    · have HE := Lib.hid (hE (.cells #[.int .i64 (-1)] 3) (-1))
      have hown := hown (.cells #[.int .i64 (-1)] 3)
      have HAL := Lib.hid hal
      clear hS hlen hal hE
      go_wp2_with (at_builtin; refine wpList_append_lies _ rfl _ _ 46 rfl 0 3 i0 _ 1 8 Try.underlying46 hi hz0 hz1 hz2 rfl (by decide) _ (ats.length + k) _ rfl hown ⟨wr.heap.size, 0, none⟩ 1 1 [.int .i64 (-1)] rfl rfl (cell_one_new _ _ _) (by simp [Value.oneCell']) (by decide) (by unfold maxLen; omega) (by omega) (Nat.zero_le _) (wr.heap.size + 1) (by simp) ?_; intro g c w2 hown' hgrow hat _; obtain ⟨q1, q2, HH⟩ := HE.out g c w2 hown' hgrow hat; clear hown' hgrow hat)
      go_roundw
      case rel => exact ⟨k + 1, by omega, by rw [pad_next]; exact HH.out.1⟩
      case measure => rw [HH.out.2, HAL.out]; omega
    · have hkk : k = ahead - ats.length := by omega
      rw [hkk] at hS
      have HC2 := Lib.hid hS
      obtain ⟨wo, rfl⟩ : ∃ wo : World, wo = wr := ⟨_, rfl⟩
      clear hlen hal hE hown hkk hS
      go_wp2_with fail
      have hln : (ats ++ List.replicate (ahead - ats.length) (-1 : Int)).length = ats.length + (ahead - ats.length) := by simp
      have HLN := Lib.hid hln
      clear hln
      go_loopw [] (fun wr => ∃ (k : Nat), k ≤ now - (ats.length + (ahead - ats.length)) ∧ RStep w0 w wr R rp bm vws T steps evs ((ats ++ List.replicate (ahead - ats.length) (-1)) ++ List.replicate k step)) (fun wr => now - atLen wr rp)
      case atStart => exact ⟨0, Nat.zero_le _, by simpa using HC2.out⟩
      case round =>
        obtain ⟨j, hj, hS⟩ := hrel
        have hlen : ((ats ++ List.replicate (ahead - ats.length) (-1 : Int)) ++ List.replicate j step).length = ats.length + (ahead - ats.length) + j := by rw [List.length_append, HLN.out, List.length_replicate]
        obtain ⟨bp, bc, c1, hal, hrl, hs1, hown, hE⟩ := hS.next h0
        rw [hlen] at c1 hal hown hE
        have hm : ∃ m, m = ats.length + (ahead - ats.length) := ⟨_, rfl⟩
        obtain ⟨m, hm⟩ := hm
        have hmb : m ≤ 2000000000 := by omega
        rw [← hm] at c1 hal hown hE hj hlen
        have HM := Lib.hid hm
        clear hm
        by_cases hlt2 : m + j < now
        · have HE := Lib.hid (hE (.cells #[.int .i64 step] 3) step)
          have hown := hown (.cells #[.int .i64 step] 3)
          have HAL := Lib.hid hal
          clear hS hlen hal hE
          go_wp2_with (at_builtin; refine wpList_append_lies _ rfl _ _ 46 rfl 0 3 i0 _ 1 8 Try.underlying46 hi hz0 hz1 hz2 rfl (by decide) _ (m + j) _ rfl hown ⟨wr.heap.size, 0, none⟩ 1 1 [.int .i64 step] rfl rfl (cell_one_new _ _ _) (by simp [Value.oneCell']) (by decide) (by unfold maxLen; omega) (by omega) (Nat.zero_le _) (wr.heap.size + 1) (by simp) ?_; intro g c w2 hown' hgrow hat _; obtain ⟨q1, q2, HH⟩ := HE.out g c w2 hown' hgrow hat; clear hown' hgrow hat)
          go_roundw
          case rel => exact ⟨j + 1, by rw [← HM.out]; omega, by rw [pad_next]; exact HH.out.1⟩
          case measure => rw [HH.out.2, HAL.out]; omega
        · have hjj : j = now - m := by omega
          rw [hjj, HM.out] at hS
          have HF := Lib.hid hS
          clear hlen hal hE hown hjj hS
          go_wp2_with fail
          go_end0
          exact ⟨rfl, HF.out⟩
end
end Go.Proofs.Ytkaplifhaafpdaa
end
section
/-
  A runner and what its procs work on, side by side; a pick of a thread that has nothing to do. No condition.
-/
namespace Go.Proofs.Ytkaplifhaafpdaa
open Go Go.RowKit
set_option linter.unusedSimpArgs false
set_option linter.unusedVariables false
/-- what procs work on: a memory at bm with so many accesses, within E; it stays where nobody writes -/
structure EnvOK (w0 : World) (bm : Nat) (Env : (Nat → Prop) → World → Prop) (made : Nat) : Prop where
  st : ∀ E S w w', Env E w → Fr S w w' → (∀ k, E k → ¬ S k) → Env E w'
  pos : ∀ E w, Env E w → ∀ k, E k → w0.heap.size ≤ k ∧ k < w.heap.size
  made : ∀ E w, Env E w → Calls Try.prog 57 #[.pointer (some ⟨bm, 0, none⟩)] w fun e w' => e = .returned (.int .i64 made) ∧ w = w'
/-- a runner and what its procs work on -/
structure PJ (w0 w : World) (R E : Nat → Prop) (Env : (Nat → Prop) → World → Prop) (rp bm : Nat) (vws : List Nat) (T : List Thr) (steps : Nat) (evs : List Ev) (ats : List Int) : Prop where
  ro : RO w0 w R rp bm vws T steps evs ats
  env : Env E w
  dis : ∀ k, E k → ¬ R k
  sz : w0.heap.size ≤ w.heap.size
/-- a step from w -/
def PS (w0 w w' : World) (U : Nat → Prop) (Env : (Nat → Prop) → World → Prop) (rp bm : Nat) (vws : List Nat) (T : List Thr) (steps : Nat) (evs : List Ev) (ats : List Int) : Prop :=
  ∃ R E, PJ w0 w' R E Env rp bm vws T steps evs ats ∧ (∀ b, b < w.heap.size → ¬ U b → ¬ (R b ∨ E b)) ∧ Fr U w w'
section
variable {w0 w w' w1 w2 : World} {R S G E E' U : Nat → Prop} {Env Env' : (Nat → Prop) → World → Prop} {rp bm made made' : Nat} {vws : List Nat} {T T' : List Thr} {steps steps' : Nat} {evs evs' : List Ev} {ats ats' : List Int} {cs : Array Value} {tv ev av u v' : Value}
theorem PJ.refl (h : PJ w0 w R E Env rp bm vws T steps evs ats) : PS w0 w w (fun k => R k ∨ E k) Env rp bm vws T steps evs ats := ⟨R, E, h, fun _ _ e => e, Fr.refl _ _⟩
theorem PJ.rstep (h : PJ w0 w R E Env rp bm vws T steps evs ats) (ok : EnvOK w0 bm Env made) (hs : RStep w0 w w' R rp bm vws T' steps' evs' ats') : PS w0 w w' (fun k => R k ∨ E k) Env rp bm vws T' steps' evs' ats' := by
  obtain ⟨R', o, hk, hf⟩ := hs
  refine ⟨R', E, ⟨o, ok.st _ _ _ _ h.env hf h.dis, fun k hE => hk k (ok.pos _ _ h.env k hE).2 (h.dis k hE), Nat.le_trans h.sz hf.size⟩, ?_, hf.mono (fun _ _ e => .inl e)⟩
  rintro b hb hn (e | e)
  · exact hk b hb (fun e2 => hn (.inl e2)) e
  · exact hn (.inr e)
theorem PJ.estep (h : PJ w0 w R E Env rp bm vws T steps evs ats) (henv : Env' E' w') (hk : ∀ b, b < w.heap.size → ¬ E b → ¬ E' b) (hf : Fr E w w') : PS w0 w w' (fun k => R k ∨ E k) Env' rp bm vws T steps evs ats := by
  refine ⟨R, E', ⟨h.ro.fr hf (fun k hR hE => h.dis k hE hR), henv, fun k hE hR => ?_, Nat.le_trans h.sz hf.size⟩, ?_, hf.mono (fun _ _ e => .inr e)⟩
  · exact hk k (h.ro.pos k hR).2 (fun e => h.dis k e hR) hE
  · rintro b hb hn (e | e)
    · exact hn (.inl e)
    · exact hk b hb (fun e2 => hn (.inr e2)) e
theorem PS.trans (h : PS w0 w w1 U Env rp bm vws T steps evs ats) (h2 : ∀ R E, PJ w0 w1 R E Env rp bm vws T steps evs ats → PS w0 w1 w2 (fun k => R k ∨ E k) Env' rp bm vws T' steps' evs' ats') : PS w0 w w2 U Env' rp bm vws T' steps' evs' ats' := by
  obtain ⟨R, E, j, hk, hf⟩ := h
  obtain ⟨R', E', j', hk', hf'⟩ := h2 R E j
  refine ⟨R', E', j', fun b hb hn => hk' b (Nat.lt_of_lt_of_le hb hf.size) (hk b hb hn), ⟨hf'.os.trans hf.os, hf'.tape.trans hf.tape, hf'.output.trans hf.output, Nat.le_trans hf.size hf'.size, fun k hkk hn => ?_⟩⟩
  exact (hf'.block k (Nat.lt_of_lt_of_le hkk hf.size) (hk k hkk hn)).trans (hf.block k hkk hn)
theorem PJ.drawn (h : PJ w0 w R E Env rp bm vws T steps evs ats) (ok : EnvOK w0 bm Env made) (n : Nat) : PJ w0 (w.drewN n) R E Env rp bm vws T steps evs ats :=
  ⟨h.ro.drawn n, ok.st E (fun _ => False) _ _ h.env ((Fr.refl (fun _ => False) w).drawn n) (fun _ _ e => e), h.dis, h.sz⟩
theorem PS.drawn (h : PS w0 w w1 U Env rp bm vws T steps evs ats) (ok : EnvOK w0 bm Env made) (n : Nat) : PS w0 w (w1.drewN n) U Env rp bm vws T steps evs ats :=
  let ⟨R, E, j, hk, hf⟩ := h
  ⟨R, E, j.drawn ok n, hk, hf.drawn n⟩
theorem RO.bump (h : RO w0 w R rp bm vws T steps evs ats) (h0 : w0.heap.size ≤ w.heap.size) (s : Nat) : RStep w0 w (w.setCell ⟨rp, 66, none⟩ (.int .i64 s)) R rp bm vws T s evs ats := by
  obtain ⟨⟨cs, tv, ev, av, hx⟩, hp⟩ := h
  obtain ⟨h1, h2⟩ := hx.put66 s
  exact (h1.wide (G := Ext R w) (fun _ e => .inl e)).toStep hp h0 h2
set_option maxRecDepth 100000 in
theorem Pick_idle (h : PJ w0 w R E Env rp bm vws T steps evs ats) (ok : EnvOK w0 bm Env made) (t : Int) (hi : idle T t = true) (hn : T.length ≤ 1000000000) (hpl : ∀ x ∈ T, x.procs.length ≤ 1000000000) (hs : steps ≤ 1000000000) :
    Calls Try.prog 25 #[.pointer (some ⟨rp, 0, none⟩), .int .i64 t] w fun e w' => e = .returned (.bool false) ∧ PS w0 w w' (fun k => R k ∨ E k) Env rp bm vws T (steps + 1) evs ats := by
  obtain ⟨⟨cs, tv, ev, av, hx⟩, hp⟩ := h.ro
  have c1 : w.cell? ⟨rp, 66, none⟩ = some (.int .i64 steps) := (hx.blk.cell 66).trans hx.rc.c66
  have f1 := hx.blk.cold 66
  have HS := Lib.hid (h.rstep ok (h.ro.bump h.sz (steps + 1)))
  have HI := Lib.hid (isIdle_any (hx.put66 (steps + 1)).1 hn t hpl)
  rw [hi] at HI
  clear hx hp h hi hpl
  go_enter Try.func25, Try.ntmps25
  go_wp2_with fail
  refine HI.out.mono ?_
  rintro e w2 ⟨rfl, n, rfl⟩
  go_wp2
  go_ret
  exact ⟨rfl, HS.out.drawn ok n⟩
end
end Go.Proofs.Ytkaplifhaafpdaa
end
section
/-
  A pick: what it leaves, and what it reads on its way. No condition.
-/
namespace Go.Proofs.Ytkaplifhaafpdaa
open Go Go.RowKit
set_option linter.unusedSimpArgs false
set_option linter.unusedVariables false
/-- the threads behind a step of one (d: its proc is done) -/
def pickT (T : List Thr) (t : Nat) (x : Thr) (d : Bool) : List Thr := T.set t (if d then { x with op := false, pos := x.pos + 1 } else { x with op := true })
/-- the events behind it -/
def begun (evs : List Ev) (steps t : Nat) (x : Thr) : List Ev := if x.op then evs else evs ++ [⟨steps, t, x.pos, false⟩]
def pickE (evs : List Ev) (steps t : Nat) (x : Thr) (d : Bool) : List Ev := if d then begun evs steps t x ++ [⟨steps, t, x.pos, true⟩] else begun evs steps t x
theorem infoEv : (Try.prog.info? 137).map (fun i => (i.zero, i.size, i.bytes)) = some (some (.agg #[.int .i64 0, .int .i64 0, .int .i64 0, .bool false]), 4, 32) := by kernel_rfl
/-- from w to w' only U was written, and V took in new blocks alone -/
def Lk (w w' : World) (U V : Nat → Prop) : Prop := (∀ b, b < w.heap.size → ¬ U b → ¬ V b) ∧ Fr U w w'
section
variable {w0 w w' w1 w2 : World} {R S G E E' U : Nat → Prop} {Env Env' : (Nat → Prop) → World → Prop} {rp bm made made' pb v : Nat} {vws : List Nat} {T T' : List Thr} {steps steps' : Nat} {evs evs' : List Ev} {ats ats' : List Int} {x : Thr} {t : Nat} {d : Bool}
theorem Lk.trans {V X : Nat → Prop} (h : Lk w w1 U V) (k : Lk w1 w2 V X) : Lk w w2 U X := by
  obtain ⟨h1, hf⟩ := h
  obtain ⟨k1, hf'⟩ := k
  exact ⟨fun b hb hn => k1 b (Nat.lt_of_lt_of_le hb hf.size) (h1 b hb hn), ⟨hf'.os.trans hf.os, hf'.tape.trans hf.tape, hf'.output.trans hf.output, Nat.le_trans hf.size hf'.size, fun k hkk hn => (hf'.block k (Nat.lt_of_lt_of_le hkk hf.size) (h1 k hkk hn)).trans (hf.block k hkk hn)⟩⟩
theorem Lk.drawn {V : Nat → Prop} (h : Lk w w1 U V) (n : Nat) : Lk w (w1.drewN n) U V := ⟨h.1, h.2.drawn n⟩
theorem Lk.ps {R E : Nat → Prop} (h : Lk w w1 U (fun k => R k ∨ E k)) (j : PJ w0 w1 R E Env rp bm vws T steps evs ats) : PS w0 w w1 U Env rp bm vws T steps evs ats := ⟨R, E, j, h.1, h.2⟩
theorem PJ.mcell (h : PJ w0 w R E Env rp bm vws T steps evs ats) : w.cell? ⟨rp, 0, none⟩ = some (.pointer (some ⟨bm, 0, none⟩)) := by
  obtain ⟨⟨cs, tv, ev, av, hr⟩, hp⟩ := h.ro
  exact (hr.blk.cell 0).trans hr.rc.c0
theorem PJ.bumped (h : PJ w0 w R E Env rp bm vws T steps evs ats) (ok : EnvOK w0 bm Env made) (s : Nat) : PS w0 w (w.setCell ⟨rp, 66, none⟩ (.int .i64 s)) (fun k => R k ∨ E k) Env rp bm vws T s evs ats := h.rstep ok (h.ro.bump h.sz s)
theorem PJ.idle_not (h : PJ w0 w R E Env rp bm vws T steps evs ats) (ok : EnvOK w0 bm Env made) (hx : T[t]? = some x) (hi : x.pos < x.procs.length) (hn : T.length ≤ 1000000) (hpl : ∀ x ∈ T, x.procs.length ≤ 1000000) (s : Nat) :
    Calls Try.prog 54 #[.pointer (some ⟨rp, 0, none⟩), .int .i64 (t : Int)] (w.setCell ⟨rp, 66, none⟩ (.int .i64 s)) fun e w' => e = .returned (.bool false) ∧ ∃ n, w' = (w.setCell ⟨rp, 66, none⟩ (.int .i64 s)).drewN n := by
  obtain ⟨⟨cs, tv, ev, av, hr⟩, hp⟩ := h.ro
  have := isIdle_any (hr.put66 s).1 (by omega) t (fun y hy => by have := hpl y hy; omega)
  rwa [idle_in hx, decide_eq_false (by omega)] at this
theorem PJ.stepcell (h : PJ w0 w R E Env rp bm vws T steps evs ats) : w.cell? ⟨rp, 66, none⟩ = some (.int .i64 steps) ∧ w.frozen? ⟨rp, 66, none⟩ = false := by
  obtain ⟨⟨cs, tv, ev, av, hr⟩, hp⟩ := h.ro
  exact ⟨(hr.blk.cell 66).trans hr.rc.c66, hr.blk.cold 66⟩
/-- what may be read of a runner, in whatever world it is as it was -/
structure Sees (w : World) (rp bm : Nat) (tg tc t v : Nat) (n : Nat) (x : Thr) (p : Value) (en : Nat) (ep : Option Addr) (ec : Nat) : Prop where
  m : w.cell? ⟨rp, 0, none⟩ = some (.pointer (some ⟨bm, 0, none⟩))
  th : w.cell? ⟨rp, 1, none⟩ = some (.slice (some ⟨tg, 0, none⟩) n tc)
  vw : w.cell? ⟨rp, 2 + t, none⟩ = some (.pointer (some ⟨v, 0, none⟩))
  ev : w.cell? ⟨rp, 67, none⟩ = some (.slice ep en ec)
  pv : w.cell? ⟨tg, t * 3, none⟩ = some x.pv
  pos : w.cell? ⟨tg, t * 3 + 1, none⟩ = some (.int .i64 x.pos)
  op : w.cell? ⟨tg, t * 3 + 2, none⟩ = some (.bool x.op)
  cold : ∀ j, w.frozen? ⟨tg, j, none⟩ = false
  coldr : ∀ j, w.frozen? ⟨rp, j, none⟩ = false
  prc : ∃ pg pc, x.pv = .slice (some ⟨pg, 0, none⟩) x.procs.length pc ∧ w.cell? ⟨pg, x.pos, none⟩ = some p
theorem RX.sees {cs : Array Value} {tv ev av p : Value} (h : RX w R rp bm vws T steps evs ats cs tv ev av) (hx : T[t]? = some x) (hp : x.procs[x.pos]? = some p) (hv : vws[t]? = some v) : ∃ tg tc ep ec, tv = .slice (some ⟨tg, 0, none⟩) T.length tc ∧ ev = .slice ep evs.length ec ∧ Sees w rp bm tg tc t v T.length x p evs.length ep ec := by
  obtain ⟨tg, tc, e1, d0, d1, d2, d3, -⟩ := h.tcell hx
  obtain ⟨ep, ec, e2⟩ := bk_form h.evo
  obtain ⟨q, pc, e3, hq⟩ := h.pcell hx
  obtain ⟨pg, e4, d4⟩ := hq _ _ hp
  subst e4
  refine ⟨tg, tc, ep, ec, e1, e2, ⟨(h.blk.cell 0).trans h.rc.c0, ?_, (h.blk.cell (2 + t)).trans (h.rc.cv t v hv), ?_, d0, d1, d2, d3, fun j => h.blk.cold j, pg, pc, e3, d4⟩⟩
  · rw [← e1]; exact (h.blk.cell 1).trans h.rc.c1
  · rw [← e2]; exact (h.blk.cell 67).trans h.rc.c67
theorem PS.pre (hf : Fr U w w1) (h : PS w0 w1 w2 U Env rp bm vws T steps evs ats) : PS w0 w w2 U Env rp bm vws T steps evs ats := by
  obtain ⟨R', E', j', hk', hf'⟩ := h
  exact ⟨R', E', j', fun b hb hn => hk' b (Nat.lt_of_lt_of_le hb hf.size) hn, hf.trans hf'⟩
/-- a thread's cell is written -/
theorem PJ.putThr (h : PJ w0 w R E Env rp bm vws T steps evs ats) (ok : EnvOK w0 bm Env made) {cs : Array Value} {tv ev av : Value} (hr : RX w R rp bm vws T steps evs ats cs tv ev av) {j : Nat} {y : Thr} {u : Value} (hx : T[t]? = some x) (hj : j < 3) (he : thrC y = (thrC x).set j u) (hp : y.pv = x.pv) (hq : y.procs = x.procs) {tg tc : Nat} (htv : tv = .slice (some ⟨tg, 0, none⟩) T.length tc) :
    PJ w0 (w.setCell ⟨tg, t * 3 + j, none⟩ u) R E Env rp bm vws (T.set t y) steps evs ats ∧ RX (w.setCell ⟨tg, t * 3 + j, none⟩ u) R rp bm vws (T.set t y) steps evs ats cs tv ev av ∧ Fr R w (w.setCell ⟨tg, t * 3 + j, none⟩ u) := by
  obtain ⟨h1, h2⟩ := hr.putThr hx hj he hp hq htv
  exact ⟨⟨⟨⟨_, _, _, _, h1⟩, fun k hk => ⟨(h.ro.pos k hk).1, Nat.lt_of_lt_of_le (h.ro.pos k hk).2 h2.size⟩⟩, ok.st _ _ _ _ h.env h2 h.dis, h.dis, Nat.le_trans h.sz h2.size⟩, h1, h2⟩
theorem PS.toR (h : RStep w0 w w' R rp bm vws T steps evs ats) : w.heap.size ≤ w'.heap.size := let ⟨_, _, _, f⟩ := h; f.size
theorem RStep.szle (h : RStep w0 w w' R rp bm vws T steps evs ats) : w.heap.size ≤ w'.heap.size := let ⟨_, _, _, f⟩ := h; f.size
theorem set_self (hx : T[t]? = some x) (ho : x.op = true) : T.set t { x with op := true } = T := by
  have e : ({ x with op := true } : Thr) = x := by cases x; simp_all
  rw [e]
  apply List.ext_getElem?
  intro i
  rw [List.getElem?_set]
  split
  · rename_i h; subst h
    rw [hx, if_pos (List.getElem?_eq_some_iff.1 hx).1]
  · rfl
/-- an event is appended -/
theorem RX.evend {cs : Array Value} {tv ev av : Value} (h : RX w R rp bm vws T steps evs ats cs tv ev av) (hp : ∀ k, R k → w0.heap.size ≤ k ∧ k < w.heap.size) (h0 : w0.heap.size ≤ w.heap.size) (y : Ev) {wy : World} (hy : Fr (fun _ => False) w wy) {g c : Nat} (hown : w1.ownsRow 0 137 4 (.slice (some ⟨g, 0, none⟩) (evs.length + 1) c) (evs.length + 1) (evs.flatMap evC ++ evC y)) (hgrow : wy.grownBy w1 ev.ownBlock) (hat : ev.ownBlock = some g ∨ w.heap.size ≤ g) :
    w1.cell? ⟨rp, 67, none⟩ = some ev ∧ w1.frozen? ⟨rp, 67, none⟩ = false ∧ Hid (RStep w0 w (w1.setCell ⟨rp, 67, none⟩ (.slice (some ⟨g, 0, none⟩) (evs.length + 1) c)) R rp bm vws T steps (evs ++ [y]) ats) ∧ (∀ b i, R b → (∀ k, ev.ownBlock = some k → b ≠ k) → w1.cell? ⟨b, i, none⟩ = w.cell? ⟨b, i, none⟩) := by
  obtain ⟨h1, h2, h3, h4⟩ := h.push67 hy hown hgrow hat
  refine ⟨h3, h4, h1.toStep hp h0 h2, fun b i hb hn => ?_⟩
  have f1 : Fr (fun b => ev.ownBlock = some b) w w1 := (hy.mono (fun _ _ e => e.elim)).grown hgrow (fun k e => .inl e)
  have := f1.block b (hp b hb).2 (fun e => hn b e rfl)
  unfold World.cell?
  rw [this]
end
end Go.Proofs.Ytkaplifhaafpdaa
end
section
/-
  A runner that is made: what is copied of the threads, their views. No condition.
-/
namespace Go.Proofs.Ytkaplifhaafpdaa
open Go Go.RowKit
set_option linter.unusedSimpArgs false
set_option linter.unusedVariables false
theorem infoP : (Try.prog.info? 80).map (fun i => (i.zero, i.size, i.bytes)) = some (some .nilIface, 1, 16) := by kernel_rfl
theorem infoTh : (Try.prog.info? 131).map (fun i => (i.zero, i.size, i.bytes)) = some (some (.agg #[.slice none 0 0, .int .i64 0, .bool false]), 3, 40) := by kernel_rfl
/-- a row of values that reads as l, wherever it lies -/
def Reads (w : World) (v : Value) (l : List Value) : Prop := ∃ p c, v = .slice p l.length c ∧ (p = none → c = 0) ∧ ∀ j x, l[j]? = some x → ∃ b o, p = some ⟨b, o, none⟩ ∧ b < w.heap.size ∧ w.cell? ⟨b, o + j, none⟩ = some x
section
variable {w0 w w' w1 w2 : World} {R S G E E' U : Nat → Prop} {rp bm n : Nat} {vws : List Nat} {T T' : List Thr} {x : Thr} {t : Nat} {v : Value} {l : List Value}
theorem Reads.below (h : Reads w v l) (hb : Below w.heap.size w w') : Reads w' v l := by
  obtain ⟨p, c, e, hn, hc⟩ := h
  refine ⟨p, c, e, hn, fun j x hj => ?_⟩
  obtain ⟨b, o, e1, hl, hx⟩ := hc j x hj
  exact ⟨b, o, e1, Nat.lt_of_lt_of_le hl hb.size, (hb.cell (p := ⟨b, o + j, none⟩) hl).trans hx⟩
set_option maxRecDepth 100000 in
theorem CloneP_own (h : Reads w v l) (hn : l.length ≤ 1000000000) (h1 : ∀ x ∈ l, x.oneCell' = true) : Calls Try.prog 53 #[v] w fun e w' => ∃ v', e = .returned v' ∧ w'.ownsRow w.heap.size 80 1 v' l.length l ∧ Below w.heap.size w w' := by
  obtain ⟨p, c, rfl, hpc, hc⟩ := h
  have heq := fun (w : World) (a : Option Addr) (n c n' c' : Nat) => Lib.run_eql_slice_nil (P := Try.prog) w 38 80 a n c n' c' Try.underlying38
  cases p with
  | none =>
    have h0 : l = [] := by
      cases l with
      | nil => rfl
      | cons y l => obtain ⟨b, o, e, _⟩ := hc 0 y rfl; cases e
    subst h0
    obtain rfl := hpc rfl
    clear hc h1
    go_enter Try.func53, Try.ntmps53
    go_wp2
    go_ret
    exact ⟨_, rfl, World.ownsRow_nil _ _ _ _, Below.refl _ _⟩
  | some ad =>
    obtain ⟨i0, hi, hz0, hz1, hz2⟩ := info_parts infoP
    have hc' : ∀ o j u, l[j]? = some u → (w.alloc o).cell? (ad.add j) = some u := by
      intro o j u hu
      obtain ⟨b, o', e, hl, hx⟩ := hc j u hu
      injection e with e
      subst e
      have ea : (⟨b, o', none⟩ : Addr).add j = ⟨b, o' + j, none⟩ := by unfold Addr.add; split <;> simp_all
      rw [ea, World.cell?_alloc_lt w o _ hl]
      exact hx
    have HC := Lib.hid hc'
    have H1 := Lib.hid h1
    have HE := Lib.hid (emp_own w 80 1)
    clear hc hc' h1 hpc
    go_enter Try.func53, Try.ntmps53
    go_wp2_with (at_builtin; refine wpList_append_own _ rfl _ _ 38 rfl w.heap.size 80 i0 _ 1 16 Try.underlying38 hi hz0 hz1 hz2 rfl (by decide) _ _ _ rfl HE.out ad l.length c l rfl (by omega) (HC.out _) H1.out (by unfold maxLen; omega) (by omega) (by simp) ?_; intro v' w' hown' hgrow _)
    have hB : Below w.heap.size w w' := ((Below.refl _ w).alloc (Nat.le_refl _) _).grown hgrow (by simp) (by intro k hk; have hk' : some w.heap.size = some k := hk; injection hk' with e; omega)
    go_ret
    exact ⟨_, rfl, by simpa using hown', hB⟩
/-- rows of rows -/
def Reads2 (w : World) (v : Value) (ps : List (List Value)) : Prop := ∃ vs : List Value, Reads w v vs ∧ vs.length = ps.length ∧ ∀ (j : Nat) (u : Value) (l : List Value), vs[j]? = some u → ps[j]? = some l → Reads w u l
theorem Reads2.below {ps : List (List Value)} (h : Reads2 w v ps) (hb : Below w.heap.size w w') : Reads2 w' v ps := by
  obtain ⟨vs, h1, h2, h3⟩ := h
  exact ⟨vs, h1.below hb, h2, fun j u l hu hl => (h3 j u l hu hl).below hb⟩
theorem over_any (w : World) (p : Option Addr) (n c : Nat) : Calls Try.prog 52 #[.slice p n c] w fun e w' => e = .returned (.bool (decide (4096 < n))) ∧ w = w' := by
  go_enter Try.func52, Try.ntmps52
  go_wp2
  go_ret
  exact ⟨by simp; omega, rfl⟩
def tooLong (ps : List (List Value)) : Bool := ps.any fun l => decide (4096 < l.length)
set_option maxRecDepth 100000 in
theorem index_any {ps : List (List Value)} {p : Option Addr} {c : Nat} (h : Reads2 w (.slice p ps.length c) ps) (hn : ps.length ≤ 1048576) : Calls Try.prog 76 #[.slice p ps.length c, .func (.func 52) #[] #[]] w fun e w' => ∃ r : Int, e = .returned (.int .i64 r) ∧ Hid (decide (0 ≤ r) = tooLong ps ∧ -1 ≤ r ∧ r ≤ 1048576) ∧ w = w' := by
  have H := Lib.hid h
  clear h
  go_enter Try.func76, Try.ntmps76
  go_wp2_with fail
  go_loop [8] (fun i => ∃ k : Nat, i = .int .i64 k ∧ k ≤ ps.length ∧ ∀ (j : Nat) l, j < k → ps[j]? = some l → l.length ≤ 4096) (fun i => ps.length - (intOf i).toNat)
  case atStart => exact ⟨0, rfl, Nat.zero_le _, fun j l hj => by omega⟩
  case round =>
    obtain ⟨k, rfl, hk, hall⟩ := hrel
    by_cases hlt : k < ps.length
    · obtain ⟨l, hl⟩ : ∃ l, ps[k]? = some l := ⟨_, List.getElem?_eq_getElem hlt⟩
      obtain ⟨vs, ⟨p', c', e, -, hc⟩, hvl, hr⟩ := H.out
      obtain ⟨u, hu⟩ : ∃ u, vs[k]? = some u := ⟨_, List.getElem?_eq_getElem (by omega)⟩
      injection e with e1 e2 e3
      subst e1 e3
      obtain ⟨b, o, rfl, hbl, c1⟩ := hc k u hu
      obtain ⟨q, d, rfl, -, -⟩ := hr k u l hu hl
      by_cases hov : 4096 < l.length
      · have hF : Hid (tooLong ps = true) := by
          show _ = _
          unfold tooLong
          rw [List.any_eq_true]
          exact ⟨l, List.mem_of_getElem? hl, by simpa using hov⟩
        have HO := over_any w q l.length d
        rw [decide_eq_true hov] at HO
        have HO := Lib.hid HO
        clear hall hc hr hu hl hvl e2 hov
        go_wp2_with fail
        refine HO.out.mono ?_
        rintro e w' ⟨rfl, rfl⟩
        go_wp2
        go_ret
        exact ⟨k, rfl, by rw [hF.out]; exact ⟨by simp, by omega, by omega⟩, rfl⟩
      · have HO := over_any w q l.length d
        rw [decide_eq_false hov] at HO
        have HO := Lib.hid HO
        have HALL : Hid (∀ (j : Nat) l, j < k + 1 → ps[j]? = some l → l.length ≤ 4096) := by
          intro j l' hj hl'
          by_cases e : j = k
          · subst e; rw [hl] at hl'; injection hl' with hl'; subst hl'; omega
          · exact hall j l' (by omega) hl'
        clear hall hc hr hu hl hvl e2 hov
        go_wp2_with fail
        refine HO.out.mono ?_
        rintro e w' ⟨rfl, rfl⟩
        go_wp2_with fail
        go_round
        case rel => exact ⟨k + 1, by go_num, by omega, HALL.out⟩
        case measure => simp [intOf]; omega
    · obtain rfl : k = ps.length := by omega
      have hF : Hid (tooLong ps = false) := by
        show _ = _
        unfold tooLong
        rw [List.any_eq_false]
        intro l hl
        obtain ⟨j, hj, rfl⟩ := List.getElem_of_mem hl
        have := hall j _ hj (List.getElem?_eq_getElem hj)
        simp; omega
      clear hall
      go_wp2
      go_ret
      exact ⟨-1, rfl, by rw [hF.out]; exact ⟨by simp, by omega, by omega⟩, rfl⟩
theorem within_any {ps : List (List Value)} {p : Option Addr} {c : Nat} (h : Reads2 w (.slice p ps.length c) ps) (hn : ps.length ≤ 1048576) : Calls Try.prog 51 #[.slice p ps.length c, .func (.func 52) #[] #[]] w fun e w' => e = .returned (.bool (tooLong ps)) ∧ w = w' := by
  have H := Lib.hid (index_any h hn)
  clear h
  go_enter Try.func51, Try.ntmps51
  go_wp2_with fail
  refine H.out.mono ?_
  rintro e w' ⟨r, rfl, hr, rfl⟩
  go_wp2
  go_ret
  exact ⟨by rw [← hr.out.1]; rfl, rfl⟩
end
end Go.Proofs.Ytkaplifhaafpdaa
end

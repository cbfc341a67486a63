/-
  A pick: what it leaves, and what it reads on its way. No condition.
-/
import Derived.Test.YtenlgfagfpaenaaStE
namespace Go.Proofs.Ytenlgfagfpaenaa
open Go Go.RowKit
set_option linter.unusedSimpArgs false
set_option linter.unusedVariables false
/-- the threads behind a step of one (d: its proc is done) -/
def pickT (T : List Thr) (t : Nat) (x : Thr) (d : Bool) : List Thr := T.set t (if d then { x with op := false, pos := x.pos + 1 } else { x with op := true })
/-- the events behind it -/
def begun (evs : List Ev) (steps t : Nat) (x : Thr) : List Ev := if x.op then evs else evs ++ [⟨steps, t, x.pos, false⟩]
def pickE (evs : List Ev) (steps t : Nat) (x : Thr) (d : Bool) : List Ev := if d then begun evs steps t x ++ [⟨steps, t, x.pos, true⟩] else begun evs steps t x
theorem infoEv : (Try.prog.info? 182).map (fun i => (i.zero, i.size, i.bytes)) = some (some (.agg #[.int .i64 0, .int .i64 0, .int .i64 0, .bool false]), 4, 32) := by kernel_rfl
/-- from w to w' only U was written, and V took in new blocks alone -/
def Lk (w w' : World) (U V : Nat → Prop) : Prop := (∀ b, b < w.heap.size → ¬ U b → ¬ V b) ∧ Fr U w w'
section
variable {w0 w w' w1 w2 : World} {R S G E E' U : Nat → Prop} {Env Env' : (Nat → Prop) → World → Prop} {rp bm made made' pb v : Nat} {vws : List Nat} {T T' : List Thr} {steps steps' : Nat} {evs evs' : List Ev} {ats ats' : List Int} {x : Thr} {t : Nat} {d : Bool}
theorem Lk.trans {V X : Nat → Prop} (h : Lk w w1 U V) (k : Lk w1 w2 V X) : Lk w w2 U X := by
  obtain ⟨h1, hf⟩ := h
  obtain ⟨k1, hf'⟩ := k
  exact ⟨fun b hb hn => k1 b (Nat.lt_of_lt_of_le hb hf.size) (h1 b hb hn), ⟨hf'.os.trans hf.os, hf'.tape.trans hf.tape, hf'.output.trans hf.output, Nat.le_trans hf.size hf'.size, fun k hkk hn => (hf'.block k (Nat.lt_of_lt_of_le hkk hf.size) (h1 k hkk hn)).trans (hf.block k hkk hn)⟩⟩
theorem Lk.drawn {V : Nat → Prop} (h : Lk w w1 U V) (n : Nat) : Lk w (w1.drewN n) U V := ⟨h.1, h.2.drawn n⟩
theorem Lk.ps {R E : Nat → Prop} (h : Lk w w1 U (fun k => R k ∨ E k)) (j : PJ w0 w1 R E Env rp bm vws T steps evs ats) : PS w0 w w1 U Env rp bm vws T steps evs ats := ⟨R, E, j, h.1, h.2⟩
theorem PJ.mcell (h : PJ w0 w R E Env rp bm vws T steps evs ats) : w.cell? ⟨rp, 0, none⟩ = some (.pointer (some ⟨bm, 0, none⟩)) := by
  obtain ⟨⟨cs, tv, ev, av, hr⟩, hp⟩ := h.ro
  exact (hr.blk.cell 0).trans hr.rc.c0
theorem PJ.bumped (h : PJ w0 w R E Env rp bm vws T steps evs ats) (ok : EnvOK w0 bm Env made) (s : Nat) : PS w0 w (w.setCell ⟨rp, 66, none⟩ (.int .i64 s)) (fun k => R k ∨ E k) Env rp bm vws T s evs ats := h.rstep ok (h.ro.bump h.sz s)
theorem PJ.idle_not (h : PJ w0 w R E Env rp bm vws T steps evs ats) (ok : EnvOK w0 bm Env made) (hx : T[t]? = some x) (hi : x.pos < x.procs.length) (hn : T.length ≤ 1000000) (hpl : ∀ x ∈ T, x.procs.length ≤ 1000000) (s : Nat) :
    Calls Try.prog 78 #[.pointer (some ⟨rp, 0, none⟩), .int .i64 (t : Int)] (w.setCell ⟨rp, 66, none⟩ (.int .i64 s)) fun e w' => e = .returned (.bool false) ∧ ∃ n, w' = (w.setCell ⟨rp, 66, none⟩ (.int .i64 s)).drewN n := by
  obtain ⟨⟨cs, tv, ev, av, hr⟩, hp⟩ := h.ro
  have := isIdle_any (hr.put66 s).1 (by omega) t (fun y hy => by have := hpl y hy; omega)
  rwa [idle_in hx, decide_eq_false (by omega)] at this
theorem PJ.stepcell (h : PJ w0 w R E Env rp bm vws T steps evs ats) : w.cell? ⟨rp, 66, none⟩ = some (.int .i64 steps) ∧ w.frozen? ⟨rp, 66, none⟩ = false := by
  obtain ⟨⟨cs, tv, ev, av, hr⟩, hp⟩ := h.ro
  exact ⟨(hr.blk.cell 66).trans hr.rc.c66, hr.blk.cold 66⟩
/-- what may be read of a runner, in whatever world it is as it was -/
structure Sees (w : World) (rp bm : Nat) (tg tc t v : Nat) (n : Nat) (x : Thr) (p : Value) (en : Nat) (ep : Option Addr) (ec : Nat) : Prop where
  m : w.cell? ⟨rp, 0, none⟩ = some (.pointer (some ⟨bm, 0, none⟩))
  th : w.cell? ⟨rp, 1, none⟩ = some (.slice (some ⟨tg, 0, none⟩) n tc)
  vw : w.cell? ⟨rp, 2 + t, none⟩ = some (.pointer (some ⟨v, 0, none⟩))
  ev : w.cell? ⟨rp, 67, none⟩ = some (.slice ep en ec)
  pv : w.cell? ⟨tg, t * 3, none⟩ = some x.pv
  pos : w.cell? ⟨tg, t * 3 + 1, none⟩ = some (.int .i64 x.pos)
  op : w.cell? ⟨tg, t * 3 + 2, none⟩ = some (.bool x.op)
  cold : ∀ j, w.frozen? ⟨tg, j, none⟩ = false
  coldr : ∀ j, w.frozen? ⟨rp, j, none⟩ = false
  prc : ∃ pg pc, x.pv = .slice (some ⟨pg, 0, none⟩) x.procs.length pc ∧ w.cell? ⟨pg, x.pos, none⟩ = some p
theorem RX.sees {cs : Array Value} {tv ev av p : Value} (h : RX w R rp bm vws T steps evs ats cs tv ev av) (hx : T[t]? = some x) (hp : x.procs[x.pos]? = some p) (hv : vws[t]? = some v) : ∃ tg tc ep ec, tv = .slice (some ⟨tg, 0, none⟩) T.length tc ∧ ev = .slice ep evs.length ec ∧ Sees w rp bm tg tc t v T.length x p evs.length ep ec := by
  obtain ⟨tg, tc, e1, d0, d1, d2, d3, -⟩ := h.tcell hx
  obtain ⟨ep, ec, e2⟩ := bk_form h.evo
  obtain ⟨q, pc, e3, hq⟩ := h.pcell hx
  obtain ⟨pg, e4, d4⟩ := hq _ _ hp
  subst e4
  refine ⟨tg, tc, ep, ec, e1, e2, ⟨(h.blk.cell 0).trans h.rc.c0, ?_, (h.blk.cell (2 + t)).trans (h.rc.cv t v hv), ?_, d0, d1, d2, d3, fun j => h.blk.cold j, pg, pc, e3, d4⟩⟩
  · rw [← e1]; exact (h.blk.cell 1).trans h.rc.c1
  · rw [← e2]; exact (h.blk.cell 67).trans h.rc.c67
theorem PS.pre (hf : Fr U w w1) (h : PS w0 w1 w2 U Env rp bm vws T steps evs ats) : PS w0 w w2 U Env rp bm vws T steps evs ats := by
  obtain ⟨R', E', j', hk', hf'⟩ := h
  exact ⟨R', E', j', fun b hb hn => hk' b (Nat.lt_of_lt_of_le hb hf.size) hn, hf.trans hf'⟩
/-- a thread's cell is written -/
theorem PJ.putThr (h : PJ w0 w R E Env rp bm vws T steps evs ats) (ok : EnvOK w0 bm Env made) {cs : Array Value} {tv ev av : Value} (hr : RX w R rp bm vws T steps evs ats cs tv ev av) {j : Nat} {y : Thr} {u : Value} (hx : T[t]? = some x) (hj : j < 3) (he : thrC y = (thrC x).set j u) (hp : y.pv = x.pv) (hq : y.procs = x.procs) {tg tc : Nat} (htv : tv = .slice (some ⟨tg, 0, none⟩) T.length tc) :
    PJ w0 (w.setCell ⟨tg, t * 3 + j, none⟩ u) R E Env rp bm vws (T.set t y) steps evs ats ∧ RX (w.setCell ⟨tg, t * 3 + j, none⟩ u) R rp bm vws (T.set t y) steps evs ats cs tv ev av ∧ Fr R w (w.setCell ⟨tg, t * 3 + j, none⟩ u) := by
  obtain ⟨h1, h2⟩ := hr.putThr hx hj he hp hq htv
  exact ⟨⟨⟨⟨_, _, _, _, h1⟩, fun k hk => ⟨(h.ro.pos k hk).1, Nat.lt_of_lt_of_le (h.ro.pos k hk).2 h2.size⟩⟩, ok.st _ _ _ _ h.env h2 h.dis, h.dis, Nat.le_trans h.sz h2.size⟩, h1, h2⟩
theorem PS.toR (h : RStep w0 w w' R rp bm vws T steps evs ats) : w.heap.size ≤ w'.heap.size := let ⟨_, _, _, f⟩ := h; f.size
theorem RStep.szle (h : RStep w0 w w' R rp bm vws T steps evs ats) : w.heap.size ≤ w'.heap.size := let ⟨_, _, _, f⟩ := h; f.size
theorem set_self (hx : T[t]? = some x) (ho : x.op = true) : T.set t { x with op := true } = T := by
  have e : ({ x with op := true } : Thr) = x := by cases x; simp_all
  rw [e]
  apply List.ext_getElem?
  intro i
  rw [List.getElem?_set]
  split
  · rename_i h; subst h
    rw [hx, if_pos (List.getElem?_eq_some_iff.1 hx).1]
  · rfl
/-- an event is appended -/
theorem RX.evend {cs : Array Value} {tv ev av : Value} (h : RX w R rp bm vws T steps evs ats cs tv ev av) (hp : ∀ k, R k → w0.heap.size ≤ k ∧ k < w.heap.size) (h0 : w0.heap.size ≤ w.heap.size) (y : Ev) {wy : World} (hy : Fr (fun _ => False) w wy) {g c : Nat} (hown : w1.ownsRow 0 182 4 (.slice (some ⟨g, 0, none⟩) (evs.length + 1) c) (evs.length + 1) (evs.flatMap evC ++ evC y)) (hgrow : wy.grownBy w1 ev.ownBlock) (hat : ev.ownBlock = some g ∨ w.heap.size ≤ g) :
    w1.cell? ⟨rp, 67, none⟩ = some ev ∧ w1.frozen? ⟨rp, 67, none⟩ = false ∧ Hid (RStep w0 w (w1.setCell ⟨rp, 67, none⟩ (.slice (some ⟨g, 0, none⟩) (evs.length + 1) c)) R rp bm vws T steps (evs ++ [y]) ats) ∧ (∀ b i, R b → (∀ k, ev.ownBlock = some k → b ≠ k) → w1.cell? ⟨b, i, none⟩ = w.cell? ⟨b, i, none⟩) := by
  obtain ⟨h1, h2, h3, h4⟩ := h.push67 hy hown hgrow hat
  refine ⟨h3, h4, h1.toStep hp h0 h2, fun b i hb hn => ?_⟩
  have f1 : Fr (fun b => ev.ownBlock = some b) w w1 := (hy.mono (fun _ _ e => e.elim)).grown hgrow (fun k e => .inl e)
  have := f1.block b (hp b hb).2 (fun e => hn b e rfl)
  unfold World.cell?
  rw [this]
end
end Go.Proofs.Ytenlgfagfpaenaa

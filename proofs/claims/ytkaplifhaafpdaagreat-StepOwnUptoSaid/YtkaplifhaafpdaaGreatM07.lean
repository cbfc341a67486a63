/-
  StF, StN, StArgs: the texts of the proof, merged. No condition.
-/
import Derived.Test.YtkaplifhaafpdaaGreatM06
import Derived.RangeFuncCalls
import Derived.Deep.Slices
import Derived.Deep.Fields
import Derived.ChangeSame
import Derived.Lib.SmallJoins
import Derived.ProofKit
import Derived.OpenShut
section
/-
  A pick: what it leaves, and what it reads on its way. No condition.
-/
namespace Go.Proofs.YtkaplifhaafpdaaGreat
open Go Go.RowKit
set_option linter.unusedSimpArgs false
set_option linter.unusedVariables false
/-- the threads behind a step of one (d: its proc is done) -/
def pickT (T : List Thr) (t : Nat) (x : Thr) (d : Bool) : List Thr := T.set t (if d then { x with op := false, pos := x.pos + 1 } else { x with op := true })
/-- the events behind it -/
def begun (evs : List Ev) (steps t : Nat) (x : Thr) : List Ev := if x.op then evs else evs ++ [⟨steps, t, x.pos, false⟩]
def pickE (evs : List Ev) (steps t : Nat) (x : Thr) (d : Bool) : List Ev := if d then begun evs steps t x ++ [⟨steps, t, x.pos, true⟩] else begun evs steps t x
theorem infoEv : (Tryz.prog.info? 97).map (fun i => (i.zero, i.size, i.bytes)) = some (some (.agg #[.int .i64 0, .int .i64 0, .int .i64 0, .bool false]), 4, 32) := by kernel_rfl
/-- from w to w' only U was written, and V took in new blocks alone -/
def Lk (w w' : World) (U V : Nat → Prop) : Prop := (∀ b, b < w.heap.size → ¬ U b → ¬ V b) ∧ Fr U w w'
section
variable {w0 w w' w1 w2 : World} {R S G E E' U : Nat → Prop} {Env Env' : (Nat → Prop) → World → Prop} {rp bm made made' pb v : Nat} {vws : List Nat} {T T' : List Thr} {steps steps' : Nat} {evs evs' : List Ev} {ats ats' : List Int} {x : Thr} {t : Nat} {d : Bool}
theorem Lk.trans {V X : Nat → Prop} (h : Lk w w1 U V) (k : Lk w1 w2 V X) : Lk w w2 U X := by
  obtain ⟨h1, hf⟩ := h
  obtain ⟨k1, hf'⟩ := k
  exact ⟨fun b hb hn => k1 b (Nat.lt_of_lt_of_le hb hf.size) (h1 b hb hn), ⟨hf'.os.trans hf.os, hf'.tape.trans hf.tape, hf'.output.trans hf.output, Nat.le_trans hf.size hf'.size, fun k hkk hn => (hf'.block k (Nat.lt_of_lt_of_le hkk hf.size) (h1 k hkk hn)).trans (hf.block k hkk hn)⟩⟩
theorem Lk.drawn {V : Nat → Prop} (h : Lk w w1 U V) (n : Nat) : Lk w (w1.drewN n) U V := ⟨h.1, h.2.drawn n⟩
theorem Lk.ps {R E : Nat → Prop} (h : Lk w w1 U (fun k => R k ∨ E k)) (j : PJ w0 w1 R E Env rp bm vws T steps evs ats) : PS w0 w w1 U Env rp bm vws T steps evs ats := ⟨R, E, j, h.1, h.2⟩
theorem PJ.mcell (h : PJ w0 w R E Env rp bm vws T steps evs ats) : w.cell? ⟨rp, 0, none⟩ = some (.pointer (some ⟨bm, 0, none⟩)) := by
  obtain ⟨⟨cs, tv, ev, av, hr⟩, hp⟩ := h.ro
  exact (hr.blk.cell 0).trans hr.rc.c0
theorem PJ.bumped (h : PJ w0 w R E Env rp bm vws T steps evs ats) (ok : EnvOK w0 bm Env made) (s : Nat) : PS w0 w (w.setCell ⟨rp, 66, none⟩ (.int .i64 s)) (fun k => R k ∨ E k) Env rp bm vws T s evs ats := h.rstep ok (h.ro.bump h.sz s)
theorem PJ.idle_not (h : PJ w0 w R E Env rp bm vws T steps evs ats) (ok : EnvOK w0 bm Env made) (hx : T[t]? = some x) (hi : x.pos < x.procs.length) (hn : T.length ≤ 1000000) (hpl : ∀ x ∈ T, x.procs.length ≤ 1000000) (s : Nat) :
    Calls Tryz.prog 26 #[.pointer (some ⟨rp, 0, none⟩), .int .i64 (t : Int)] (w.setCell ⟨rp, 66, none⟩ (.int .i64 s)) fun e w' => e = .returned (.bool false) ∧ ∃ n, w' = (w.setCell ⟨rp, 66, none⟩ (.int .i64 s)).drewN n := by
  obtain ⟨⟨cs, tv, ev, av, hr⟩, hp⟩ := h.ro
  have := isIdle_any (hr.put66 s).1 (by omega) t (fun y hy => by have := hpl y hy; omega)
  rwa [idle_in hx, decide_eq_false (by omega)] at this
theorem PJ.stepcell (h : PJ w0 w R E Env rp bm vws T steps evs ats) : w.cell? ⟨rp, 66, none⟩ = some (.int .i64 steps) ∧ w.frozen? ⟨rp, 66, none⟩ = false := by
  obtain ⟨⟨cs, tv, ev, av, hr⟩, hp⟩ := h.ro
  exact ⟨(hr.blk.cell 66).trans hr.rc.c66, hr.blk.cold 66⟩
/-- what may be read of a runner, in whatever world it is as it was -/
structure Sees (w : World) (rp bm : Nat) (tg tc t v : Nat) (n : Nat) (x : Thr) (p : Value) (en : Nat) (ep : Option Addr) (ec : Nat) : Prop where
  m : w.cell? ⟨rp, 0, none⟩ = some (.pointer (some ⟨bm, 0, none⟩))
  th : w.cell? ⟨rp, 1, none⟩ = some (.slice (some ⟨tg, 0, none⟩) n tc)
  vw : w.cell? ⟨rp, 2 + t, none⟩ = some (.pointer (some ⟨v, 0, none⟩))
  ev : w.cell? ⟨rp, 67, none⟩ = some (.slice ep en ec)
  pv : w.cell? ⟨tg, t * 3, none⟩ = some x.pv
  pos : w.cell? ⟨tg, t * 3 + 1, none⟩ = some (.int .i64 x.pos)
  op : w.cell? ⟨tg, t * 3 + 2, none⟩ = some (.bool x.op)
  cold : ∀ j, w.frozen? ⟨tg, j, none⟩ = false
  coldr : ∀ j, w.frozen? ⟨rp, j, none⟩ = false
  prc : ∃ pg pc, x.pv = .slice (some ⟨pg, 0, none⟩) x.procs.length pc ∧ w.cell? ⟨pg, x.pos, none⟩ = some p
theorem RX.sees {cs : Array Value} {tv ev av p : Value} (h : RX w R rp bm vws T steps evs ats cs tv ev av) (hx : T[t]? = some x) (hp : x.procs[x.pos]? = some p) (hv : vws[t]? = some v) : ∃ tg tc ep ec, tv = .slice (some ⟨tg, 0, none⟩) T.length tc ∧ ev = .slice ep evs.length ec ∧ Sees w rp bm tg tc t v T.length x p evs.length ep ec := by
  obtain ⟨tg, tc, e1, d0, d1, d2, d3, -⟩ := h.tcell hx
  obtain ⟨ep, ec, e2⟩ := bk_form h.evo
  obtain ⟨q, pc, e3, hq⟩ := h.pcell hx
  obtain ⟨pg, e4, d4⟩ := hq _ _ hp
  subst e4
  refine ⟨tg, tc, ep, ec, e1, e2, ⟨(h.blk.cell 0).trans h.rc.c0, ?_, (h.blk.cell (2 + t)).trans (h.rc.cv t v hv), ?_, d0, d1, d2, d3, fun j => h.blk.cold j, pg, pc, e3, d4⟩⟩
  · rw [← e1]; exact (h.blk.cell 1).trans h.rc.c1
  · rw [← e2]; exact (h.blk.cell 67).trans h.rc.c67
theorem PS.pre (hf : Fr U w w1) (h : PS w0 w1 w2 U Env rp bm vws T steps evs ats) : PS w0 w w2 U Env rp bm vws T steps evs ats := by
  obtain ⟨R', E', j', hk', hf'⟩ := h
  exact ⟨R', E', j', fun b hb hn => hk' b (Nat.lt_of_lt_of_le hb hf.size) hn, hf.trans hf'⟩
/-- a thread's cell is written -/
theorem PJ.putThr (h : PJ w0 w R E Env rp bm vws T steps evs ats) (ok : EnvOK w0 bm Env made) {cs : Array Value} {tv ev av : Value} (hr : RX w R rp bm vws T steps evs ats cs tv ev av) {j : Nat} {y : Thr} {u : Value} (hx : T[t]? = some x) (hj : j < 3) (he : thrC y = (thrC x).set j u) (hp : y.pv = x.pv) (hq : y.procs = x.procs) {tg tc : Nat} (htv : tv = .slice (some ⟨tg, 0, none⟩) T.length tc) :
    PJ w0 (w.setCell ⟨tg, t * 3 + j, none⟩ u) R E Env rp bm vws (T.set t y) steps evs ats ∧ RX (w.setCell ⟨tg, t * 3 + j, none⟩ u) R rp bm vws (T.set t y) steps evs ats cs tv ev av ∧ Fr R w (w.setCell ⟨tg, t * 3 + j, none⟩ u) := by
  obtain ⟨h1, h2⟩ := hr.putThr hx hj he hp hq htv
  exact ⟨⟨⟨⟨_, _, _, _, h1⟩, fun k hk => ⟨(h.ro.pos k hk).1, Nat.lt_of_lt_of_le (h.ro.pos k hk).2 h2.size⟩⟩, ok.st _ _ _ _ h.env h2 h.dis, h.dis, Nat.le_trans h.sz h2.size⟩, h1, h2⟩
theorem PS.toR (h : RStep w0 w w' R rp bm vws T steps evs ats) : w.heap.size ≤ w'.heap.size := let ⟨_, _, _, f⟩ := h; f.size
theorem RStep.szle (h : RStep w0 w w' R rp bm vws T steps evs ats) : w.heap.size ≤ w'.heap.size := let ⟨_, _, _, f⟩ := h; f.size
theorem set_self (hx : T[t]? = some x) (ho : x.op = true) : T.set t { x with op := true } = T := by
  have e : ({ x with op := true } : Thr) = x := by cases x; simp_all
  rw [e]
  apply List.ext_getElem?
  intro i
  rw [List.getElem?_set]
  split
  · rename_i h; subst h
    rw [hx, if_pos (List.getElem?_eq_some_iff.1 hx).1]
  · rfl
/-- an event is appended -/
theorem RX.evend {cs : Array Value} {tv ev av : Value} (h : RX w R rp bm vws T steps evs ats cs tv ev av) (hp : ∀ k, R k → w0.heap.size ≤ k ∧ k < w.heap.size) (h0 : w0.heap.size ≤ w.heap.size) (y : Ev) {wy : World} (hy : Fr (fun _ => False) w wy) {g c : Nat} (hown : w1.ownsRow 0 97 4 (.slice (some ⟨g, 0, none⟩) (evs.length + 1) c) (evs.length + 1) (evs.flatMap evC ++ evC y)) (hgrow : wy.grownBy w1 ev.ownBlock) (hat : ev.ownBlock = some g ∨ w.heap.size ≤ g) :
    w1.cell? ⟨rp, 67, none⟩ = some ev ∧ w1.frozen? ⟨rp, 67, none⟩ = false ∧ Hid (RStep w0 w (w1.setCell ⟨rp, 67, none⟩ (.slice (some ⟨g, 0, none⟩) (evs.length + 1) c)) R rp bm vws T steps (evs ++ [y]) ats) ∧ (∀ b i, R b → (∀ k, ev.ownBlock = some k → b ≠ k) → w1.cell? ⟨b, i, none⟩ = w.cell? ⟨b, i, none⟩) := by
  obtain ⟨h1, h2, h3, h4⟩ := h.push67 hy hown hgrow hat
  refine ⟨h3, h4, h1.toStep hp h0 h2, fun b i hb hn => ?_⟩
  have f1 : Fr (fun b => ev.ownBlock = some b) w w1 := (hy.mono (fun _ _ e => e.elim)).grown hgrow (fun k e => .inl e)
  have := f1.block b (hp b hb).2 (fun e => hn b e rfl)
  unfold World.cell?
  rw [this]
end
end Go.Proofs.YtkaplifhaafpdaaGreat
end
section
/-
  A runner that is made: what is copied of the threads, their views. No condition.
-/
namespace Go.Proofs.YtkaplifhaafpdaaGreat
open Go Go.RowKit
set_option linter.unusedSimpArgs false
set_option linter.unusedVariables false
theorem infoP : (Tryz.prog.info? 88).map (fun i => (i.zero, i.size, i.bytes)) = some (some .nilIface, 1, 16) := by kernel_rfl
theorem infoTh : (Tryz.prog.info? 95).map (fun i => (i.zero, i.size, i.bytes)) = some (some (.agg #[.slice none 0 0, .int .i64 0, .bool false]), 3, 40) := by kernel_rfl
/-- a row of values that reads as l, wherever it lies -/
def Reads (w : World) (v : Value) (l : List Value) : Prop := ∃ p c, v = .slice p l.length c ∧ (p = none → c = 0) ∧ ∀ j x, l[j]? = some x → ∃ b o, p = some ⟨b, o, none⟩ ∧ b < w.heap.size ∧ w.cell? ⟨b, o + j, none⟩ = some x
section
variable {w0 w w' w1 w2 : World} {R S G E E' U : Nat → Prop} {rp bm n : Nat} {vws : List Nat} {T T' : List Thr} {x : Thr} {t : Nat} {v : Value} {l : List Value}
theorem Reads.below (h : Reads w v l) (hb : Below w.heap.size w w') : Reads w' v l := by
  obtain ⟨p, c, e, hn, hc⟩ := h
  refine ⟨p, c, e, hn, fun j x hj => ?_⟩
  obtain ⟨b, o, e1, hl, hx⟩ := hc j x hj
  exact ⟨b, o, e1, Nat.lt_of_lt_of_le hl hb.size, (hb.cell (p := ⟨b, o + j, none⟩) hl).trans hx⟩
set_option maxRecDepth 100000 in
theorem CloneP_own (h : Reads w v l) (hn : l.length ≤ 1000000000) (h1 : ∀ x ∈ l, x.oneCell' = true) : Calls Tryz.prog 67 #[v] w fun e w' => ∃ v', e = .returned v' ∧ w'.ownsRow w.heap.size 88 1 v' l.length l ∧ Below w.heap.size w w' := by
  obtain ⟨p, c, rfl, hpc, hc⟩ := h
  have heq := fun (w : World) (a : Option Addr) (n c n' c' : Nat) => Lib.run_eql_slice_nil (P := Tryz.prog) w 73 88 a n c n' c' Tryz.underlying73
  cases p with
  | none =>
    have h0 : l = [] := by
      cases l with
      | nil => rfl
      | cons y l => obtain ⟨b, o, e, _⟩ := hc 0 y rfl; cases e
    subst h0
    obtain rfl := hpc rfl
    clear hc h1
    go_enter Tryz.func67, Tryz.ntmps67
    go_wp2
    go_ret
    exact ⟨_, rfl, World.ownsRow_nil _ _ _ _, Below.refl _ _⟩
  | some ad =>
    obtain ⟨i0, hi, hz0, hz1, hz2⟩ := info_parts infoP
    have hc' : ∀ o j u, l[j]? = some u → (w.alloc o).cell? (ad.add j) = some u := by
      intro o j u hu
      obtain ⟨b, o', e, hl, hx⟩ := hc j u hu
      injection e with e
      subst e
      have ea : (⟨b, o', none⟩ : Addr).add j = ⟨b, o' + j, none⟩ := by unfold Addr.add; split <;> simp_all
      rw [ea, World.cell?_alloc_lt w o _ hl]
      exact hx
    have HC := Lib.hid hc'
    have H1 := Lib.hid h1
    have HE := Lib.hid (emp_own w 88 1)
    clear hc hc' h1 hpc
    go_enter Tryz.func67, Tryz.ntmps67
    go_wp2_with (at_builtin; refine wpList_append_own _ rfl _ _ 73 rfl w.heap.size 88 i0 _ 1 16 Tryz.underlying73 hi hz0 hz1 hz2 rfl (by decide) _ _ _ rfl HE.out ad l.length c l rfl (by omega) (HC.out _) H1.out (by unfold maxLen; omega) (by omega) (by simp) ?_; intro v' w' hown' hgrow _)
    have hB : Below w.heap.size w w' := ((Below.refl _ w).alloc (Nat.le_refl _) _).grown hgrow (by simp) (by intro k hk; have hk' : some w.heap.size = some k := hk; injection hk' with e; omega)
    go_ret
    exact ⟨_, rfl, by simpa using hown', hB⟩
/-- rows of rows -/
def Reads2 (w : World) (v : Value) (ps : List (List Value)) : Prop := ∃ vs : List Value, Reads w v vs ∧ vs.length = ps.length ∧ ∀ (j : Nat) (u : Value) (l : List Value), vs[j]? = some u → ps[j]? = some l → Reads w u l
theorem Reads2.below {ps : List (List Value)} (h : Reads2 w v ps) (hb : Below w.heap.size w w') : Reads2 w' v ps := by
  obtain ⟨vs, h1, h2, h3⟩ := h
  exact ⟨vs, h1.below hb, h2, fun j u l hu hl => (h3 j u l hu hl).below hb⟩
theorem over_any (w : World) (p : Option Addr) (n c : Nat) : Calls Tryz.prog 66 #[.slice p n c] w fun e w' => e = .returned (.bool (decide (4096 < n))) ∧ w = w' := by
  go_enter Tryz.func66, Tryz.ntmps66
  go_wp2
  go_ret
  exact ⟨by simp; omega, rfl⟩
def tooLong (ps : List (List Value)) : Bool := ps.any fun l => decide (4096 < l.length)
set_option maxRecDepth 100000 in
theorem index_any {ps : List (List Value)} {p : Option Addr} {c : Nat} (h : Reads2 w (.slice p ps.length c) ps) (hn : ps.length ≤ 1048576) : Calls Tryz.prog 80 #[.slice p ps.length c, .func (.func 66) #[] #[]] w fun e w' => ∃ r : Int, e = .returned (.int .i64 r) ∧ Hid (decide (0 ≤ r) = tooLong ps ∧ -1 ≤ r ∧ r ≤ 1048576) ∧ w = w' := by
  have H := Lib.hid h
  clear h
  go_enter Tryz.func80, Tryz.ntmps80
  go_wp2_with fail
  go_loop [8] (fun i => ∃ k : Nat, i = .int .i64 k ∧ k ≤ ps.length ∧ ∀ (j : Nat) l, j < k → ps[j]? = some l → l.length ≤ 4096) (fun i => ps.length - (intOf i).toNat)
  case atStart => exact ⟨0, rfl, Nat.zero_le _, fun j l hj => by omega⟩
  case round =>
    obtain ⟨k, rfl, hk, hall⟩ := hrel
    by_cases hlt : k < ps.length
    · obtain ⟨l, hl⟩ : ∃ l, ps[k]? = some l := ⟨_, List.getElem?_eq_getElem hlt⟩
      obtain ⟨vs, ⟨p', c', e, -, hc⟩, hvl, hr⟩ := H.out
      obtain ⟨u, hu⟩ : ∃ u, vs[k]? = some u := ⟨_, List.getElem?_eq_getElem (by omega)⟩
      injection e with e1 e2 e3
      subst e1 e3
      obtain ⟨b, o, rfl, hbl, c1⟩ := hc k u hu
      obtain ⟨q, d, rfl, -, -⟩ := hr k u l hu hl
      by_cases hov : 4096 < l.length
      · have hF : Hid (tooLong ps = true) := by
          show _ = _
          unfold tooLong
          rw [List.any_eq_true]
          exact ⟨l, List.mem_of_getElem? hl, by simpa using hov⟩
        have HO := over_any w q l.length d
        rw [decide_eq_true hov] at HO
        have HO := Lib.hid HO
        clear hall hc hr hu hl hvl e2 hov
        go_wp2_with fail
        refine HO.out.mono ?_
        rintro e w' ⟨rfl, rfl⟩
        go_wp2
        go_ret
        exact ⟨k, rfl, by rw [hF.out]; exact ⟨by simp, by omega, by omega⟩, rfl⟩
      · have HO := over_any w q l.length d
        rw [decide_eq_false hov] at HO
        have HO := Lib.hid HO
        have HALL : Hid (∀ (j : Nat) l, j < k + 1 → ps[j]? = some l → l.length ≤ 4096) := by
          intro j l' hj hl'
          by_cases e : j = k
          · subst e; rw [hl] at hl'; injection hl' with hl'; subst hl'; omega
          · exact hall j l' (by omega) hl'
        clear hall hc hr hu hl hvl e2 hov
        go_wp2_with fail
        refine HO.out.mono ?_
        rintro e w' ⟨rfl, rfl⟩
        go_wp2_with fail
        go_round
        case rel => exact ⟨k + 1, by go_num, by omega, HALL.out⟩
        case measure => simp [intOf]; omega
    · obtain rfl : k = ps.length := by omega
      have hF : Hid (tooLong ps = false) := by
        show _ = _
        unfold tooLong
        rw [List.any_eq_false]
        intro l hl
        obtain ⟨j, hj, rfl⟩ := List.getElem_of_mem hl
        have := hall j _ hj (List.getElem?_eq_getElem hj)
        simp; omega
      clear hall
      go_wp2
      go_ret
      exact ⟨-1, rfl, by rw [hF.out]; exact ⟨by simp, by omega, by omega⟩, rfl⟩
theorem within_any {ps : List (List Value)} {p : Option Addr} {c : Nat} (h : Reads2 w (.slice p ps.length c) ps) (hn : ps.length ≤ 1048576) : Calls Tryz.prog 65 #[.slice p ps.length c, .func (.func 66) #[] #[]] w fun e w' => e = .returned (.bool (tooLong ps)) ∧ w = w' := by
  have H := Lib.hid (index_any h hn)
  clear h
  go_enter Tryz.func65, Tryz.ntmps65
  go_wp2_with fail
  refine H.out.mono ?_
  rintro e w' ⟨r, rfl, hr, rfl⟩
  go_wp2
  go_ret
  exact ⟨by rw [← hr.out.1]; rfl, rfl⟩
end
end Go.Proofs.YtkaplifhaafpdaaGreat
end
section
/-
  What an argument holds: rows of ints. No condition.
-/
namespace Go.Proofs.YtkaplifhaafpdaaGreat.sargs
open Go Go.Joins Go.ChangeShapes Go.WideShapes Go.RowKit Go.Deep
set_option linter.unusedVariables false
set_option maxRecDepth 100000
theorem one_le {H : Type} (d : DataW H) : 1 ≤ Rows.uptoBulk d := by
  cases d with
  | lit l => cases l <;> simp [Rows.uptoBulk]
  | nil => simp [Rows.uptoBulk]
  | ptr d => simp [Rows.uptoBulk]
  | slice elems spare => simp [Rows.uptoBulk]
  | agg parts => simp [Rows.uptoBulk]
  | iface t d => simp [Rows.uptoBulk]
  | map entries => simp [Rows.uptoBulk]
  | held h => simp [Rows.uptoBulk]
theorem part_le {H : Type} {d : DataW H} {l : List (DataW H)} (h : d ∈ l) : Rows.uptoBulk d ≤ Rows.uptoBulkAll l := by
  induction l with
  | nil => cases h
  | cons x r ih =>
    simp only [Rows.uptoBulkAll]
    cases List.mem_cons.1 h with
    | inl e => subst e; omega
    | inr e => have := ih e; omega
theorem length_le {H : Type} (l : List (DataW H)) : l.length ≤ Rows.uptoBulkAll l := by
  induction l with
  | nil => simp [Rows.uptoBulkAll]
  | cons x r ih => have := one_le x; simp only [Rows.uptoBulkAll, List.length_cons]; omega
section
variable {H : Type} {enc : TypeId × Value → H} {P : Program} {w : World} {base : Nat} {spare : Nat → Bool} {held : Bool}
theorem open_slice_fields {t e : TypeId} {fs : Array Field} {fuel : Nat} {cs : List Value} {x : DataW H × List MemPlace} (ht : P.underlying t = some (.slice e)) (he : P.underlying e = some (.struct fs))
    (hone : oneCellFields P fs = true) (hC : P.cellsOf e = fs.size) (h : DataW.trod enc P w base spare held fuel t cs = some x) :
    (cs = [.slice none 0 0] ∧ x = (.nil, [])) ∨
    ∃ (a : Addr) (len cap m : Nat) (D : Nat → DataW H) (Pl : Nat → List MemPlace), cs = [.slice (some a) len cap] ∧ base ≤ a.block ∧ len ≤ cap ∧ cap ≤ maxLen ∧ m = (if spare a.block then cap else len) ∧
      x = (.slice ((List.range len).map D) ((List.range (m - len)).map fun j => D (len + j)), MemPlace.row a (m * fs.size) ++ (List.range m).flatMap Pl) ∧
      ∀ i, i < m → ∃ (ys : List (DataW H × List MemPlace)) (n : Nat), D i = .agg (ys.map (·.1)) ∧ Pl i = ys.flatMap (·.2) ∧ ys.length = fs.size ∧
        ∀ (j : Nat) (f : Field), fs[j]? = some f → ∃ (v : Value) (y : DataW H × List MemPlace), w.cell? (a.add (i * fs.size + j)) = some v ∧ ys[j]? = some y ∧ DataW.trod enc P w base spare held n f.type [v] = some y := by
  rcases open_slice ht h with h0 | ⟨a, len, cap, m, n, D, Pl, hcs, hb, hl, hm, hmm, hx, hi⟩
  · exact .inl h0
  · refine .inr ⟨a, len, cap, m, D, Pl, hcs, hb, hl, hm, hmm, by rw [hC] at hx; exact hx, fun i him => ?_⟩
    obtain ⟨cs', hc, ht'⟩ := hi i him
    rw [hC] at hc
    obtain ⟨ys, n', hn', hy, hlen, hyl, hf⟩ := DataW.trod_struct he ht'
    obtain ⟨_, hcl, hat⟩ := World.cells?_some hc
    simp only [Prod.mk.injEq] at hy
    refine ⟨ys, n', hy.1, hy.2, hyl, fun j f hj => ?_⟩
    obtain ⟨ho, hk⟩ := hone_of hone j f hj
    have hjl : j < fs.size := (Array.getElem?_eq_some_iff.1 hj).1
    have hcell := hat j hjl
    have hv : cs'[j]? = some (cs'[j]'(by omega)) := List.getElem?_eq_getElem (by omega)
    have h1 := hf j f hj
    rw [ho, hk] at h1
    have hone' : (cs'.drop j).take 1 = [cs'[j]'(by omega)] := by
      rw [List.drop_eq_getElem_cons (by omega)]
      rfl
    rw [hone'] at h1
    have hys : ys[j]? = some (ys[j]'(by omega)) := List.getElem?_eq_getElem (by omega)
    refine ⟨_, _, ?_, hys, h1.trans hys⟩
    rw [← Go.Deep.add_add, hcell, hv]
end
theorem add_none (b o i : Nat) : (⟨b, o, none⟩ : Addr).add i = ⟨b, o + i, none⟩ := by
  unfold Addr.add; split <;> simp_all
theorem cell_form {w : World} {a : Addr} {v : Value} (h : w.cell? a = some v) : a = ⟨a.block, a.off, none⟩ ∧ a.block < w.heap.size := by
  refine ⟨?_, ?_⟩
  · obtain ⟨b, o, s⟩ := a
    have hs : s = none := by simpa using World.cell?_spot h
    subst hs; rfl
  · rcases Nat.lt_or_ge a.block w.heap.size with h1 | h1
    · exact h1
    · simp [World.cell?, Array.getElem?_eq_none h1] at h
theorem choose_list {α : Type} {n : Nat} {Q : Nat → α → Prop} (h : ∀ i, i < n → ∃ x, Q i x) : ∃ L : List α, L.length = n ∧ ∀ (i : Nat) (x : α), L[i]? = some x → Q i x := by
  induction n with
  | zero => exact ⟨[], rfl, fun i x hx => by simp at hx⟩
  | succ n ih =>
    obtain ⟨L, hl, hL⟩ := ih (fun i hi => h i (by omega))
    obtain ⟨x, hx⟩ := h n (by omega)
    refine ⟨L ++ [x], by simp [hl], fun i y hy => ?_⟩
    by_cases hi : i < n
    · rw [List.getElem?_append_left (by omega)] at hy
      exact hL i y hy
    · have := (List.getElem?_eq_some_iff.1 hy).1
      obtain rfl : i = n := by simp at this; omega
      rw [List.getElem?_append_right (by omega), hl] at hy
      simp at hy
      subst hy; exact hx
section
variable {H : Type} {enc : TypeId × Value → H} {W : World}
theorem ints_words {n : Nat} {u : Value} {x : DataW H × List MemPlace} (h : DataW.trod enc Tryz.prog W 0 (fun _ => true) true n 23 [u] = some x) : ∃ vs : List Int, Reads W u (is64 vs) ∧ vs.length + 1 ≤ Rows.uptoBulk x.1 ∧ ∀ y ∈ vs, -9223372036854775808 ≤ y ∧ y ≤ 9223372036854775807 := by
  rcases open_ints Tryz.underlying23 Tryz.underlying3 (by kernel_rfl) h with ⟨hu, rfl⟩ | ⟨a, len, cap, zs, hu, _, hl, _, hz, rfl, hcell, hwf⟩
  · injection hu with hu; subst hu
    exact ⟨[], ⟨none, 0, rfl, fun _ => rfl, fun j x hx => by simp [is64] at hx⟩, by simp [Rows.uptoBulk], by intro y hy; cases hy⟩
  · injection hu with hu; subst hu
    simp only [if_true] at hz
    refine ⟨zs.take len, ⟨some a, cap, by simp [is64]; omega, (by intro e; cases e), ?_⟩, ?_, ?_⟩
    · intro j v hj
      have hjl := (List.getElem?_eq_some_iff.1 hj).1
      simp [is64] at hjl
      have hc := hcell j (by omega)
      have hc0 := hcell 0 (by omega)
      obtain ⟨ea, hbl⟩ := cell_form (show W.cell? a = _ from by simpa [Addr.add] using hc0)
      refine ⟨a.block, a.off, by rw [← ea], hbl, ?_⟩
      rw [← add_none, ← ea, hc, ← hj]
      simp [is64, List.getD_eq_getElem?_getD, List.getElem?_take_of_lt (show j < len by omega), show j < zs.length by omega]
    · have := length_le (lits (H := H) .i64 (zs.take len))
      simp only [Rows.uptoBulk]
      simp only [lits, List.length_map, List.length_take] at this ⊢
      omega
    · intro y hy
      have := hwf y (List.mem_of_mem_take hy)
      simp [Lit.wf, IntKind.min, IntKind.max, IntKind.bits, IntKind.signed] at this
      omega
end
end Go.Proofs.YtkaplifhaafpdaaGreat.sargs
end

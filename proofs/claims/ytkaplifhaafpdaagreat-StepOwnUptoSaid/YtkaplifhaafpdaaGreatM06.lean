/-
  StC, StD, StE: the texts of the proof, merged. No condition.
-/
import Derived.Test.YtkaplifhaafpdaaGreatM04
import Derived.Deep.AppendLies
import Derived.Deep.Cut
import Derived.Deep.DeepCutAuto
import Derived.Deep.RegionHeld3
import Derived.Deep.RegionHeldLaw
section
/-
  A runner: what a store and an append leave; all are done; accesses are written down. No condition.
-/
namespace Go.Proofs.YtkaplifhaafpdaaGreat
open Go Go.RowKit
set_option linter.unusedSimpArgs false
set_option linter.unusedVariables false
/-- have all threads nothing to do? -/
def allDone (T : List Thr) : Bool := T.all (fun x => decide (x.procs.length ≤ x.pos))
/-- the steps of new accesses -/
def noted (ats : List Int) (step : Int) (ahead now : Nat) : List Int := (ats ++ List.replicate (ahead - ats.length) (-1)) ++ List.replicate (now - (ats.length + (ahead - ats.length))) step
section
variable {w0 w w' w1 : World} {R S G : Nat → Prop} {rp bm : Nat} {vws : List Nat} {T : List Thr} {steps : Nat} {evs : List Ev} {ats : List Int} {cs : Array Value} {tv ev av u v' : Value}
theorem RX.put66 (h : RX w R rp bm vws T steps evs ats cs tv ev av) (s : Nat) : RX (w.setCell ⟨rp, 66, none⟩ (.int .i64 s)) R rp bm vws T s evs ats (cs.setIfInBounds 66 (.int .i64 s)) tv ev av ∧ Fr R w (w.setCell ⟨rp, 66, none⟩ (.int .i64 s)) := by
  have f : Fr (fun b => b = rp) w (w.setCell ⟨rp, 66, none⟩ (.int .i64 s)) := (Fr.refl (fun b => b = rp) w).put (p := ⟨rp, 66, none⟩) (.inl rfl) _
  refine ⟨⟨h.blk.put 66 _, h.rc.put66 s, own_fr h.thr f ?_, fun x hx => ⟨own_fr (h.prc x hx).1 f ?_, (h.prc x hx).2⟩, own_fr h.evo f ?_, own_fr h.avo f ?_, h.fR, h.fT, h.fE, h.fA⟩, f.mono (fun k _ e => e ▸ h.fR)⟩
  · rintro g e rfl; exact own_ne h.thr h.blk (by decide) e
  · rintro g e rfl; exact own_ne (h.prc x hx).1 h.blk (by decide) e
  · rintro g e rfl; exact own_ne h.evo h.blk (by decide) e
  · rintro g e rfl; exact own_ne h.avo h.blk (by decide) e
/-- a thread's cell is written -/
theorem RX.putThr (h : RX w R rp bm vws T steps evs ats cs tv ev av) {t j : Nat} {x y : Thr} (hx : T[t]? = some x) (hj : j < 3) (he : thrC y = (thrC x).set j u) (hp : y.pv = x.pv) (hq : y.procs = x.procs) {tg tc : Nat} (htv : tv = .slice (some ⟨tg, 0, none⟩) T.length tc) :
    RX (w.setCell ⟨tg, t * 3 + j, none⟩ u) R rp bm vws (T.set t y) steps evs ats cs tv ev av ∧ Fr R w (w.setCell ⟨tg, t * 3 + j, none⟩ u) := by
  have f : Fr (fun b => b = tg) w (w.setCell ⟨tg, t * 3 + j, none⟩ u) := (Fr.refl (fun b => b = tg) w).put (p := ⟨tg, t * 3 + j, none⟩) (.inl rfl) _
  have htg : tv.ownBlock = some tg := by rw [htv]; rfl
  have ht := (List.getElem?_eq_some_iff.1 hx).1
  have hown := h.thr
  rw [htv] at hown
  obtain ⟨bcs, hbt⟩ := bk_blk hown (g := tg) rfl
  have hput := bk_put hown (j := t * 3 + j) (by omega) u
  rw [thr_set T t j x y u hx hj he] at hput
  refine ⟨⟨h.blk.fr f ?_, h.rc, ?_, fun z hz => ?_, own_fr h.evo f ?_, own_fr h.avo f ?_, h.fR, h.fT, h.fE, h.fA⟩, f.mono (fun k _ e => e ▸ h.fT _ htg)⟩
  · intro e; exact own_ne hown h.blk (by decide) (by rw [e]; rfl)
  · rw [htv, List.length_set]; exact hput
  · have hz' : ∃ z' ∈ T, z.pv = z'.pv ∧ z.procs = z'.procs := by
      rcases List.mem_or_eq_of_mem_set hz with hz | rfl
      · exact ⟨z, hz, rfl, rfl⟩
      · exact ⟨x, List.mem_of_getElem? hx, hp, hq⟩
    obtain ⟨z', hz', e1, e2⟩ := hz'
    rw [e1, e2]
    refine ⟨own_fr (h.prc z' hz').1 f ?_, (h.prc z' hz').2⟩
    rintro g e rfl
    exact own_ne (h.prc z' hz').1 hbt (by decide) e
  · rintro g e rfl; exact own_ne h.evo hbt (by decide) e
  · rintro g e rfl; exact own_ne h.avo hbt (by decide) e
/-- one more in the row of steps -/
theorem RX.push68 (h : RX w R rp bm vws T steps evs ats cs tv ev av) (o : Obj) {x : Int} {g c : Nat} (hown : w1.ownsRow 0 3 1 (.slice (some ⟨g, 0, none⟩) (ats.length + 1) c) (ats.length + 1) (is64 ats ++ [.int .i64 x])) (hgrow : (w.alloc o).grownBy w1 av.ownBlock) (hat : av.ownBlock = some g ∨ g = w.heap.size + 1) :
    RX (w1.setCell ⟨rp, 68, none⟩ (.slice (some ⟨g, 0, none⟩) (ats.length + 1) c)) (Ext R w) rp bm vws T steps evs (ats ++ [x]) (cs.setIfInBounds 68 (.slice (some ⟨g, 0, none⟩) (ats.length + 1) c)) tv ev (.slice (some ⟨g, 0, none⟩) (ats.length + 1) c) ∧ Fr R w (w1.setCell ⟨rp, 68, none⟩ (.slice (some ⟨g, 0, none⟩) (ats.length + 1) c)) ∧
      w1.cell? ⟨rp, 68, none⟩ = some av ∧ w1.frozen? ⟨rp, 68, none⟩ = false := by
  have f1 : Fr (fun b => av.ownBlock = some b) w w1 := ((Fr.refl (fun b => av.ownBlock = some b) w).alloc o).grown hgrow (fun k e => .inl e)
  have f2 : Fr (fun b => av.ownBlock = some b ∨ b = rp) w (w1.setCell ⟨rp, 68, none⟩ (.slice (some ⟨g, 0, none⟩) (ats.length + 1) c)) := (f1.mono (fun _ _ e => .inl e)).put (p := ⟨rp, 68, none⟩) (.inl (.inr rfl)) _
  have hrp : ¬ av.ownBlock = some rp := own_ne h.avo h.blk (by decide)
  have hb1 := h.blk.fr f1 hrp
  have hgr : g ≠ rp := fun e => own_ne hown hb1 (by decide) (by rw [e]; rfl)
  have hS : ∀ {e : TypeId} {n size : Nat} {v : Value} {xs : List Value}, w.ownsRow 0 e size v n xs → e ≠ 3 → e ≠ 92 → (w1.setCell ⟨rp, 68, none⟩ (.slice (some ⟨g, 0, none⟩) (ats.length + 1) c)).ownsRow 0 e size v n xs := by
    intro e n size v xs hv h1 h2
    refine own_fr hv f2 ?_
    rintro k hk (e2 | rfl)
    · obtain ⟨cs1, b1⟩ := bk_blk h.avo e2
      exact own_ne hv b1 h1 hk
    · exact own_ne hv h.blk h2 hk
  refine ⟨⟨hb1.put 68 _, h.rc.put68 _, hS h.thr (by decide) (by decide), fun x hx => ⟨hS (h.prc x hx).1 (by decide) (by decide), fun g e => .inl ((h.prc x hx).2 g e)⟩, hS h.evo (by decide) (by decide), ?_, .inl h.fR, fun g e => .inl (h.fT g e), fun g e => .inl (h.fE g e), fun g' e => ?_⟩, f2.mono ?_, (hb1.cell 68).trans h.rc.c68, hb1.cold 68⟩
  · have := own_fr hown ((Fr.refl (fun b => b = rp) w1).put (p := ⟨rp, 68, none⟩) (.inl rfl) (.slice (some ⟨g, 0, none⟩) (ats.length + 1) c)) (by intro g' e; simp [Value.ownBlock] at e; subst e; exact hgr)
    simpa [is64] using this
  · have e : g = g' := by simpa [Value.ownBlock] using e
    subst e
    rcases hat with hat | hat
    · exact .inl (h.fA g hat)
    · right; omega
  · rintro k _ (e | e)
    · exact h.fA k e
    · subst e; exact h.fR
/-- one more event -/
theorem RX.push67 (h : RX w R rp bm vws T steps evs ats cs tv ev av) {wy : World} (hy : Fr (fun _ => False) w wy) {x : Ev} {g c : Nat} (hown : w1.ownsRow 0 97 4 (.slice (some ⟨g, 0, none⟩) (evs.length + 1) c) (evs.length + 1) (evs.flatMap evC ++ evC x)) (hgrow : wy.grownBy w1 ev.ownBlock) (hat : ev.ownBlock = some g ∨ w.heap.size ≤ g) :
    RX (w1.setCell ⟨rp, 67, none⟩ (.slice (some ⟨g, 0, none⟩) (evs.length + 1) c)) (Ext R w) rp bm vws T steps (evs ++ [x]) ats (cs.setIfInBounds 67 (.slice (some ⟨g, 0, none⟩) (evs.length + 1) c)) tv (.slice (some ⟨g, 0, none⟩) (evs.length + 1) c) av ∧ Fr R w (w1.setCell ⟨rp, 67, none⟩ (.slice (some ⟨g, 0, none⟩) (evs.length + 1) c)) ∧
      w1.cell? ⟨rp, 67, none⟩ = some ev ∧ w1.frozen? ⟨rp, 67, none⟩ = false := by
  have f1 : Fr (fun b => ev.ownBlock = some b) w w1 := (hy.mono (fun _ _ e => e.elim)).grown hgrow (fun k e => .inl e)
  have f2 : Fr (fun b => ev.ownBlock = some b ∨ b = rp) w (w1.setCell ⟨rp, 67, none⟩ (.slice (some ⟨g, 0, none⟩) (evs.length + 1) c)) := (f1.mono (fun _ _ e => .inl e)).put (p := ⟨rp, 67, none⟩) (.inl (.inr rfl)) _
  have hrp : ¬ ev.ownBlock = some rp := own_ne h.evo h.blk (by decide)
  have hb1 := h.blk.fr f1 hrp
  have hgr : g ≠ rp := fun e => own_ne hown hb1 (by decide) (by rw [e]; rfl)
  have hS : ∀ {e : TypeId} {n size : Nat} {v : Value} {xs : List Value}, w.ownsRow 0 e size v n xs → e ≠ 97 → e ≠ 92 → (w1.setCell ⟨rp, 67, none⟩ (.slice (some ⟨g, 0, none⟩) (evs.length + 1) c)).ownsRow 0 e size v n xs := by
    intro e n size v xs hv h1 h2
    refine own_fr hv f2 ?_
    rintro k hk (e2 | rfl)
    · obtain ⟨cs1, b1⟩ := bk_blk h.evo e2
      exact own_ne hv b1 h1 hk
    · exact own_ne hv h.blk h2 hk
  refine ⟨⟨hb1.put 67 _, h.rc.put67 _, hS h.thr (by decide) (by decide), fun x hx => ⟨hS (h.prc x hx).1 (by decide) (by decide), fun g e => .inl ((h.prc x hx).2 g e)⟩, ?_, hS h.avo (by decide) (by decide), .inl h.fR, fun g e => .inl (h.fT g e), fun g' e => ?_, fun g e => .inl (h.fA g e)⟩, f2.mono ?_, (hb1.cell 67).trans h.rc.c67, hb1.cold 67⟩
  · have := own_fr hown ((Fr.refl (fun b => b = rp) w1).put (p := ⟨rp, 67, none⟩) (.inl rfl) (.slice (some ⟨g, 0, none⟩) (evs.length + 1) c)) (by intro g' e; simp [Value.ownBlock] at e; subst e; exact hgr)
    simpa using this
  · have e : g = g' := by simpa [Value.ownBlock] using e
    subst e
    rcases hat with hat | hat
    · exact .inl (h.fE g hat)
    · right; exact hat
  · rintro k _ (e | e)
    · exact h.fE k e
    · subst e; exact h.fR
theorem steps_any (h : RX w R rp bm vws T steps evs ats cs tv ev av) : Calls Tryz.prog 19 #[.pointer (some ⟨rp, 0, none⟩)] w fun e w' => e = .returned (.int .i64 steps) ∧ w = w' := by
  have c1 : w.cell? ⟨rp, 66, none⟩ = some (.int .i64 steps) := (h.blk.cell 66).trans h.rc.c66
  clear h
  go_enter Tryz.func19, Tryz.ntmps19
  go_wp2
  go_ret
  exact ⟨rfl, rfl⟩
set_option maxRecDepth 100000 in
theorem Done_any (h : RX w R rp bm vws T steps evs ats cs tv ev av) (hn : T.length ≤ 1000000000) (hpl : ∀ x ∈ T, x.procs.length ≤ 1000000000) :
    Calls Tryz.prog 18 #[.pointer (some ⟨rp, 0, none⟩)] w fun e w' => e = .returned (.bool (allDone T)) ∧ ∃ n, w' = w.drewN n := by
  obtain ⟨tp, tc, rfl⟩ := bk_form h.thr
  have c1 : w.cell? ⟨rp, 1, none⟩ = some (.slice tp T.length tc) := (h.blk.cell 1).trans h.rc.c1
  have HI : Hid (∀ (d k : Nat), Calls Tryz.prog 26 #[.pointer (some ⟨rp, 0, none⟩), .int .i64 (k : Int)] (w.drewN d) fun e w' => e = .returned (.bool (idle T k)) ∧ ∃ n, w' = (w.drewN d).drewN n) := fun d k =>
    isIdle_any (h.fr ((Fr.refl (fun _ => False) w).drawn d) (fun _ _ e => e)) hn k hpl
  clear h hpl
  go_enter Tryz.func18, Tryz.ntmps18
  go_wp2_with fail
  go_loopw [11] (fun i wr => ∃ k d : Nat, i = .int .i64 k ∧ k ≤ T.length ∧ wr = w.drewN d ∧ ∀ j, j < k → idle T (j : Int) = true) (fun i _ => T.length - (intOf i).toNat)
  case atStart => exact ⟨0, 0, rfl, Nat.zero_le _, rfl, fun j hj => by omega⟩
  case round =>
    obtain ⟨k, d, rfl, hk, rfl, hall⟩ := hrel
    by_cases hlt : k < T.length
    · have HK := Lib.hid (HI.out d k)
      obtain ⟨x, hx⟩ : ∃ x, T[k]? = some x := ⟨_, List.getElem?_eq_getElem hlt⟩
      have hid := idle_in hx
      cases hi : idle T (k : Int)
      · rw [hi] at HK hid
        have hF : Hid (allDone T = false) := by
          show _ = _
          unfold allDone
          rw [List.all_eq_false]
          exact ⟨x, List.mem_of_getElem? hx, by simpa using hid.symm⟩
        clear hall hx hid hi
        go_wp2_with fail
        refine HK.out.mono ?_
        rintro e w2 ⟨rfl, n2, rfl⟩
        go_wp2
        go_ret
        exact ⟨by rw [hF.out]; rfl, d + n2, by simp [World.drewN, Nat.add_assoc]⟩
      · rw [hi] at HK
        have HALL := Lib.hid hall
        have HII := Lib.hid hi
        clear hall hx hid hi
        go_wp2_with fail
        refine HK.out.mono ?_
        rintro e w2 ⟨rfl, n2, rfl⟩
        go_wp2_with fail
        go_roundw
        case rel =>
          refine ⟨k + 1, d + n2, by go_num, by omega, by simp [World.drewN, Nat.add_assoc], fun j hj => ?_⟩
          by_cases e : j = k
          · subst e; exact HII.out
          · exact HALL.out j (by omega)
        case measure => simp [intOf]; omega
    · obtain rfl : k = T.length := by omega
      have hF : Hid (allDone T = true) := by
        show _ = _
        unfold allDone
        rw [List.all_eq_true]
        intro x hx
        obtain ⟨j, hj, rfl⟩ := List.getElem_of_mem hx
        have := hall j hj
        rw [idle_in (List.getElem?_eq_getElem hj)] at this
        exact this
      clear hall
      go_wp2
      go_ret
      exact ⟨by rw [hF.out]; rfl, d, rfl⟩
end
end Go.Proofs.YtkaplifhaafpdaaGreat
end
section
/-
  A runner: accesses are written down. No condition.
-/
namespace Go.Proofs.YtkaplifhaafpdaaGreat
open Go Go.RowKit
set_option linter.unusedSimpArgs false
set_option linter.unusedVariables false
/-- how many steps are written down -/
def atLen (w : World) (rp : Nat) : Nat := match w.cell? ⟨rp, 68, none⟩ with | some (.slice _ n _) => n | _ => 0
theorem infoI : (Tryz.prog.info? 3).map (fun i => (i.zero, i.size, i.bytes)) = some (some (.int .i64 0), 1, 8) := by kernel_rfl
section
variable {w0 w w' w1 : World} {R S G : Nat → Prop} {rp bm : Nat} {vws : List Nat} {T : List Thr} {steps : Nat} {evs : List Ev} {ats : List Int} {cs : Array Value} {tv ev av u v' : Value}
theorem RX.atLen (h : RX w R rp bm vws T steps evs ats cs tv ev av) : atLen w rp = ats.length := by
  obtain ⟨p, c, rfl⟩ := bk_form h.avo
  unfold Go.Proofs.YtkaplifhaafpdaaGreat.atLen
  rw [(h.blk.cell 68).trans h.rc.c68]
theorem RStep.next {A : List Int} (h : RStep w0 w w1 R rp bm vws T steps evs A) (h0 : w0.heap.size ≤ w.heap.size) : ∃ ap ac, w1.cell? ⟨rp, 68, none⟩ = some (.slice ap A.length ac) ∧ atLen w1 rp = A.length ∧ rp < w1.heap.size ∧ w.heap.size ≤ w1.heap.size ∧
    (∀ o, (w1.alloc o).ownsRow 0 3 1 (.slice ap A.length ac) A.length (is64 A)) ∧
    ∀ o x g c w2, w2.ownsRow 0 3 1 (.slice (some ⟨g, 0, none⟩) (A.length + 1) c) (A.length + 1) (is64 A ++ [.int .i64 x]) → (w1.alloc o).grownBy w2 (Value.slice ap A.length ac).ownBlock → ((Value.slice ap A.length ac).ownBlock = some g ∨ g = w1.heap.size + 1) →
      w2.cell? ⟨rp, 68, none⟩ = some (.slice ap A.length ac) ∧ w2.frozen? ⟨rp, 68, none⟩ = false ∧ Hid (RStep w0 w (w2.setCell ⟨rp, 68, none⟩ (.slice (some ⟨g, 0, none⟩) (A.length + 1) c)) R rp bm vws T steps evs (A ++ [x]) ∧ atLen (w2.setCell ⟨rp, 68, none⟩ (.slice (some ⟨g, 0, none⟩) (A.length + 1) c)) rp = A.length + 1) := by
  obtain ⟨R1, ⟨⟨cs, tv, ev, av, hx⟩, hp⟩, k1, f1⟩ := h
  obtain ⟨ap, ac, rfl⟩ := bk_form hx.avo
  have hs1 := f1.size
  refine ⟨ap, ac, (hx.blk.cell 68).trans hx.rc.c68, hx.atLen, hx.blk.lt, hs1, fun o => own_fr hx.avo ((Fr.refl (fun _ => False) w1).alloc o) (fun _ _ e => e), ?_⟩
  intro o x g c w2 hown' hgrow hat
  obtain ⟨hx2, f2, c2, z2⟩ := hx.push68 o hown' hgrow hat
  refine ⟨c2, z2, ?_, ?_⟩
  · obtain ⟨R2, o2, k2, f3⟩ := hx2.toStep (w0 := w0) hp (Nat.le_trans h0 hs1) f2
    exact ⟨R2, o2, fun b hb hn => k2 b (Nat.lt_of_lt_of_le hb hs1) (k1 b hb hn), ⟨f3.os.trans f1.os, f3.tape.trans f1.tape, f3.output.trans f1.output, Nat.le_trans f1.size f3.size, fun k hk hn => (f3.block k (Nat.lt_of_lt_of_le hk f1.size) (k1 k hk hn)).trans (f1.block k hk hn)⟩⟩
  · unfold Go.Proofs.YtkaplifhaafpdaaGreat.atLen
    rw [World.cell?_setCell_same _ _ _ c2]
theorem pad_next (ats : List Int) (k : Nat) (x : Int) : ats ++ List.replicate (k + 1) x = ats ++ List.replicate k x ++ [x] := by rw [List.replicate_succ', List.append_assoc]
set_option maxHeartbeats 2000000 in
set_option maxRecDepth 100000 in
theorem snote_any (h : RO w0 w R rp bm vws T steps evs ats) (h0 : w0.heap.size ≤ w.heap.size) (step : Int) (ahead now : Nat) (h1 : ats.length ≤ 1000000000) (h2 : ahead ≤ 1000000000) (h3 : now ≤ 1000000000) :
    Calls Tryz.prog 28 #[.pointer (some ⟨rp, 0, none⟩), .int .i64 step, .int .i64 (ahead : Int), .int .i64 (now : Int)] w fun e w' => e = .returned (.tuple #[]) ∧ RStep w0 w w' R rp bm vws T steps evs (noted ats step ahead now) := by
  obtain ⟨i0, hi, hz0, hz1, hz2⟩ := info_parts infoI
  have H := Lib.hid h
  clear h
  go_enter Tryz.func28, Tryz.ntmps28
  go_wp2_with fail
  go_loopw [] (fun wr => ∃ (k : Nat), k ≤ ahead - ats.length ∧ RStep w0 w wr R rp bm vws T steps evs (ats ++ List.replicate k (-1))) (fun wr => ahead - atLen wr rp)
  case atStart => exact ⟨0, Nat.zero_le _, by simpa using H.out.refl⟩
  case round =>
    obtain ⟨k, hk, hS⟩ := hrel
    have hlen : (ats ++ List.replicate k (-1 : Int)).length = ats.length + k := by simp
    obtain ⟨ap, ac, c1, hal, hrl, hs1, hown, hE⟩ := hS.next h0
    rw [hlen] at c1 hal hown hE
    by_cases hlt : ats.length + k < ahead
    · have HE := Lib.hid (hE (.cells #[.int .i64 (-1)] 3) (-1))
      have hown := hown (.cells #[.int .i64 (-1)] 3)
      have HAL := Lib.hid hal
      clear hS hlen hal hE
      go_wp2_with (at_builtin; refine wpList_append_lies _ rfl _ _ 23 rfl 0 3 i0 _ 1 8 Tryz.underlying23 hi hz0 hz1 hz2 rfl (by decide) _ (ats.length + k) _ rfl hown ⟨wr.heap.size, 0, none⟩ 1 1 [.int .i64 (-1)] rfl rfl (cell_one_new _ _ _) (by simp [Value.oneCell']) (by decide) (by unfold maxLen; omega) (by omega) (Nat.zero_le _) (wr.heap.size + 1) (by simp) ?_; intro g c w2 hown' hgrow hat _; obtain ⟨q1, q2, HH⟩ := HE.out g c w2 hown' hgrow hat; clear hown' hgrow hat)
      go_roundw
      case rel => exact ⟨k + 1, by omega, by rw [pad_next]; exact HH.out.1⟩
      case measure => rw [HH.out.2, HAL.out]; omega
    · have hkk : k = ahead - ats.length := by omega
      rw [hkk] at hS
      have HC2 := Lib.hid hS
      obtain ⟨wo, rfl⟩ : ∃ wo : World, wo = wr := ⟨_, rfl⟩
      clear hlen hal hE hown hkk hS
      go_wp2_with fail
      have hln : (ats ++ List.replicate (ahead - ats.length) (-1 : Int)).length = ats.length + (ahead - ats.length) := by simp
      have HLN := Lib.hid hln
      clear hln
      go_loopw [] (fun wr => ∃ (k : Nat), k ≤ now - (ats.length + (ahead - ats.length)) ∧ RStep w0 w wr R rp bm vws T steps evs ((ats ++ List.replicate (ahead - ats.length) (-1)) ++ List.replicate k step)) (fun wr => now - atLen wr rp)
      case atStart => exact ⟨0, Nat.zero_le _, by simpa using HC2.out⟩
      case round =>
        obtain ⟨j, hj, hS⟩ := hrel
        have hlen : ((ats ++ List.replicate (ahead - ats.length) (-1 : Int)) ++ List.replicate j step).length = ats.length + (ahead - ats.length) + j := by rw [List.length_append, HLN.out, List.length_replicate]
        obtain ⟨bp, bc, c1, hal, hrl, hs1, hown, hE⟩ := hS.next h0
        rw [hlen] at c1 hal hown hE
        have hm : ∃ m, m = ats.length + (ahead - ats.length) := ⟨_, rfl⟩
        obtain ⟨m, hm⟩ := hm
        have hmb : m ≤ 2000000000 := by omega
        rw [← hm] at c1 hal hown hE hj hlen
        have HM := Lib.hid hm
        clear hm
        by_cases hlt2 : m + j < now
        · have HE := Lib.hid (hE (.cells #[.int .i64 step] 3) step)
          have hown := hown (.cells #[.int .i64 step] 3)
          have HAL := Lib.hid hal
          clear hS hlen hal hE
          go_wp2_with (at_builtin; refine wpList_append_lies _ rfl _ _ 23 rfl 0 3 i0 _ 1 8 Tryz.underlying23 hi hz0 hz1 hz2 rfl (by decide) _ (m + j) _ rfl hown ⟨wr.heap.size, 0, none⟩ 1 1 [.int .i64 step] rfl rfl (cell_one_new _ _ _) (by simp [Value.oneCell']) (by decide) (by unfold maxLen; omega) (by omega) (Nat.zero_le _) (wr.heap.size + 1) (by simp) ?_; intro g c w2 hown' hgrow hat _; obtain ⟨q1, q2, HH⟩ := HE.out g c w2 hown' hgrow hat; clear hown' hgrow hat)
          go_roundw
          case rel => exact ⟨j + 1, by rw [← HM.out]; omega, by rw [pad_next]; exact HH.out.1⟩
          case measure => rw [HH.out.2, HAL.out]; omega
        · have hjj : j = now - m := by omega
          rw [hjj, HM.out] at hS
          have HF := Lib.hid hS
          clear hlen hal hE hown hjj hS
          go_wp2_with fail
          go_end0
          exact ⟨rfl, HF.out⟩
end
end Go.Proofs.YtkaplifhaafpdaaGreat
end
section
/-
  A runner and what its procs work on, side by side; a pick of a thread that has nothing to do. No condition.
-/
namespace Go.Proofs.YtkaplifhaafpdaaGreat
open Go Go.RowKit
set_option linter.unusedSimpArgs false
set_option linter.unusedVariables false
/-- what procs work on: a memory at bm with so many accesses, within E; it stays where nobody writes -/
structure EnvOK (w0 : World) (bm : Nat) (Env : (Nat → Prop) → World → Prop) (made : Nat) : Prop where
  st : ∀ E S w w', Env E w → Fr S w w' → (∀ k, E k → ¬ S k) → Env E w'
  pos : ∀ E w, Env E w → ∀ k, E k → w0.heap.size ≤ k ∧ k < w.heap.size
  made : ∀ E w, Env E w → Calls Tryz.prog 27 #[.pointer (some ⟨bm, 0, none⟩)] w fun e w' => e = .returned (.int .i64 made) ∧ w = w'
/-- a runner and what its procs work on -/
structure PJ (w0 w : World) (R E : Nat → Prop) (Env : (Nat → Prop) → World → Prop) (rp bm : Nat) (vws : List Nat) (T : List Thr) (steps : Nat) (evs : List Ev) (ats : List Int) : Prop where
  ro : RO w0 w R rp bm vws T steps evs ats
  env : Env E w
  dis : ∀ k, E k → ¬ R k
  sz : w0.heap.size ≤ w.heap.size
/-- a step from w -/
def PS (w0 w w' : World) (U : Nat → Prop) (Env : (Nat → Prop) → World → Prop) (rp bm : Nat) (vws : List Nat) (T : List Thr) (steps : Nat) (evs : List Ev) (ats : List Int) : Prop :=
  ∃ R E, PJ w0 w' R E Env rp bm vws T steps evs ats ∧ (∀ b, b < w.heap.size → ¬ U b → ¬ (R b ∨ E b)) ∧ Fr U w w'
section
variable {w0 w w' w1 w2 : World} {R S G E E' U : Nat → Prop} {Env Env' : (Nat → Prop) → World → Prop} {rp bm made made' : Nat} {vws : List Nat} {T T' : List Thr} {steps steps' : Nat} {evs evs' : List Ev} {ats ats' : List Int} {cs : Array Value} {tv ev av u v' : Value}
theorem PJ.refl (h : PJ w0 w R E Env rp bm vws T steps evs ats) : PS w0 w w (fun k => R k ∨ E k) Env rp bm vws T steps evs ats := ⟨R, E, h, fun _ _ e => e, Fr.refl _ _⟩
theorem PJ.rstep (h : PJ w0 w R E Env rp bm vws T steps evs ats) (ok : EnvOK w0 bm Env made) (hs : RStep w0 w w' R rp bm vws T' steps' evs' ats') : PS w0 w w' (fun k => R k ∨ E k) Env rp bm vws T' steps' evs' ats' := by
  obtain ⟨R', o, hk, hf⟩ := hs
  refine ⟨R', E, ⟨o, ok.st _ _ _ _ h.env hf h.dis, fun k hE => hk k (ok.pos _ _ h.env k hE).2 (h.dis k hE), Nat.le_trans h.sz hf.size⟩, ?_, hf.mono (fun _ _ e => .inl e)⟩
  rintro b hb hn (e | e)
  · exact hk b hb (fun e2 => hn (.inl e2)) e
  · exact hn (.inr e)
theorem PJ.estep (h : PJ w0 w R E Env rp bm vws T steps evs ats) (henv : Env' E' w') (hk : ∀ b, b < w.heap.size → ¬ E b → ¬ E' b) (hf : Fr E w w') : PS w0 w w' (fun k => R k ∨ E k) Env' rp bm vws T steps evs ats := by
  refine ⟨R, E', ⟨h.ro.fr hf (fun k hR hE => h.dis k hE hR), henv, fun k hE hR => ?_, Nat.le_trans h.sz hf.size⟩, ?_, hf.mono (fun _ _ e => .inr e)⟩
  · exact hk k (h.ro.pos k hR).2 (fun e => h.dis k e hR) hE
  · rintro b hb hn (e | e)
    · exact hn (.inl e)
    · exact hk b hb (fun e2 => hn (.inr e2)) e
theorem PS.trans (h : PS w0 w w1 U Env rp bm vws T steps evs ats) (h2 : ∀ R E, PJ w0 w1 R E Env rp bm vws T steps evs ats → PS w0 w1 w2 (fun k => R k ∨ E k) Env' rp bm vws T' steps' evs' ats') : PS w0 w w2 U Env' rp bm vws T' steps' evs' ats' := by
  obtain ⟨R, E, j, hk, hf⟩ := h
  obtain ⟨R', E', j', hk', hf'⟩ := h2 R E j
  refine ⟨R', E', j', fun b hb hn => hk' b (Nat.lt_of_lt_of_le hb hf.size) (hk b hb hn), ⟨hf'.os.trans hf.os, hf'.tape.trans hf.tape, hf'.output.trans hf.output, Nat.le_trans hf.size hf'.size, fun k hkk hn => ?_⟩⟩
  exact (hf'.block k (Nat.lt_of_lt_of_le hkk hf.size) (hk k hkk hn)).trans (hf.block k hkk hn)
theorem PJ.drawn (h : PJ w0 w R E Env rp bm vws T steps evs ats) (ok : EnvOK w0 bm Env made) (n : Nat) : PJ w0 (w.drewN n) R E Env rp bm vws T steps evs ats :=
  ⟨h.ro.drawn n, ok.st E (fun _ => False) _ _ h.env ((Fr.refl (fun _ => False) w).drawn n) (fun _ _ e => e), h.dis, h.sz⟩
theorem PS.drawn (h : PS w0 w w1 U Env rp bm vws T steps evs ats) (ok : EnvOK w0 bm Env made) (n : Nat) : PS w0 w (w1.drewN n) U Env rp bm vws T steps evs ats :=
  let ⟨R, E, j, hk, hf⟩ := h
  ⟨R, E, j.drawn ok n, hk, hf.drawn n⟩
theorem RO.bump (h : RO w0 w R rp bm vws T steps evs ats) (h0 : w0.heap.size ≤ w.heap.size) (s : Nat) : RStep w0 w (w.setCell ⟨rp, 66, none⟩ (.int .i64 s)) R rp bm vws T s evs ats := by
  obtain ⟨⟨cs, tv, ev, av, hx⟩, hp⟩ := h
  obtain ⟨h1, h2⟩ := hx.put66 s
  exact (h1.wide (G := Ext R w) (fun _ e => .inl e)).toStep hp h0 h2
set_option maxRecDepth 100000 in
theorem Pick_idle (h : PJ w0 w R E Env rp bm vws T steps evs ats) (ok : EnvOK w0 bm Env made) (t : Int) (hi : idle T t = true) (hn : T.length ≤ 1000000000) (hpl : ∀ x ∈ T, x.procs.length ≤ 1000000000) (hs : steps ≤ 1000000000) :
    Calls Tryz.prog 6 #[.pointer (some ⟨rp, 0, none⟩), .int .i64 t] w fun e w' => e = .returned (.bool false) ∧ PS w0 w w' (fun k => R k ∨ E k) Env rp bm vws T (steps + 1) evs ats := by
  obtain ⟨⟨cs, tv, ev, av, hx⟩, hp⟩ := h.ro
  have c1 : w.cell? ⟨rp, 66, none⟩ = some (.int .i64 steps) := (hx.blk.cell 66).trans hx.rc.c66
  have f1 := hx.blk.cold 66
  have HS := Lib.hid (h.rstep ok (h.ro.bump h.sz (steps + 1)))
  have HI := Lib.hid (isIdle_any (hx.put66 (steps + 1)).1 hn t hpl)
  rw [hi] at HI
  clear hx hp h hi hpl
  go_enter Tryz.func6, Tryz.ntmps6
  go_wp2_with fail
  refine HI.out.mono ?_
  rintro e w2 ⟨rfl, n, rfl⟩
  go_wp2
  go_ret
  exact ⟨rfl, HS.out.drawn ok n⟩
end
end Go.Proofs.YtkaplifhaafpdaaGreat
end

/-
  StPend, StTold, StTr, StNil, StGot: the texts of the proof, merged. No condition.
-/
import Derived.Test.YtkaplifhaafpdaaGreatM18
import Derived.Test.YtkaplifhaafpdaaGreatM23
import Derived.Test.YtkaplifhaafpdaaGreatM28
section
/-
  What the program's runner tells of itself: how many picks, who is pending. No condition.
-/
namespace Go.Proofs.YtkaplifhaafpdaaGreat
open Go Go.RowKit
set_option linter.unusedSimpArgs false
set_option linter.unusedVariables false
theorem done_all {ll : List (List Plan)} {s : St} (h : ∀ j, j < ll.length → s.idle ll ((j : Nat) : Int) = true) : s.done ll = true := by
  unfold St.done
  rw [List.all_eq_true]
  intro j hj
  exact h j (List.mem_range.1 hj)
theorem not_done {T : List Thr} (h : ∀ j, j < T.length → idle T ((j : Nat) : Int) = true) : allDone T = true := by
  unfold allDone
  rw [List.all_eq_true]
  intro x hx
  obtain ⟨i, hi⟩ := List.getElem?_of_mem hx
  have := h i (List.getElem?_eq_some_iff.1 hi).1
  rwa [idle_in hi] at this
def tpend : Nat → List Thr → List Int
  | _, [] => []
  | t, x :: l => (if x.op then [(t : Int)] else []) ++ tpend (t + 1) l
theorem tpend_len : ∀ (t : Nat) (l : List Thr), (tpend t l).length ≤ l.length
  | t, [] => by simp [tpend]
  | t, x :: l => by
    have := tpend_len (t + 1) l
    simp only [tpend, List.length_append, List.length_cons]
    split <;> simp <;> omega
theorem tpend_app : ∀ (t : Nat) (l : List Thr) (x : Thr), tpend t (l ++ [x]) = tpend t l ++ (if x.op then [((t + l.length : Nat) : Int)] else [])
  | t, [], x => by simp [tpend]
  | t, y :: l, x => by
    have := tpend_app (t + 1) l x
    simp only [List.cons_append, tpend, this, List.append_assoc, List.length_cons]
    rw [show t + 1 + l.length = t + (l.length + 1) from by omega]
theorem tpend_next {l : List Thr} {t : Nat} {x : Thr} (h : l[t]? = some x) : tpend 0 (l.take (t + 1)) = tpend 0 (l.take t) ++ (if x.op then [(t : Int)] else []) := by
  have ht := (List.getElem?_eq_some_iff.1 h).1
  rw [List.take_add_one, h]
  have := tpend_app 0 (l.take t) x
  simp only [Option.toList_some, this, List.length_take]
  rw [Nat.min_eq_left (by omega), Nat.zero_add]
theorem tpend_thrs : ∀ (t : Nat) (PV : List (Value × List (Option Nat))) (th : List TS), PV.length = th.length → tpend t (thrs PV th) = pend t th
  | t, [], [], _ => rfl
  | t, a :: PV, x :: th, h => by
    have := tpend_thrs (t + 1) PV th (by simpa using h)
    unfold thrs at this ⊢
    simp only [List.zipWith_cons_cons, tpend, pend, this]
    congr 1
    unfold thrAt
    by_cases h0 : x.at_ = 0 <;> simp [h0]
  | t, [], x :: th, h => by simp at h
  | t, a :: PV, [], h => by simp at h
section
variable {w0 w w' w1 w2 : World} {R S G E E' U : Nat → Prop} {rp bm n : Nat} {vws : List Nat} {T T' : List Thr} {x : Thr} {t steps : Nat} {evs : List Ev} {ats : List Int} {cs : Array Value} {tv ev av v : Value}
theorem PSteps_any (h : RX w R rp bm vws T steps evs ats cs tv ev av) : Calls Tryz.prog 19 #[.pointer (some ⟨rp, 0, none⟩)] w fun e w' => e = .returned (.int .i64 steps) ∧ w = w' := by
  have c1 : w.cell? ⟨rp, 66, none⟩ = some (.int .i64 steps) := (h.blk.cell 66).trans h.rc.c66
  clear h
  go_enter Tryz.func19, Tryz.ntmps19
  go_wp2_with fail
  go_ret
  exact ⟨rfl, rfl⟩
set_option maxRecDepth 100000 in
theorem PPending_any (h : RX w R rp bm vws T steps evs ats cs tv ev av) (hn : T.length ≤ 64) : Calls Tryz.prog 12 #[.pointer (some ⟨rp, 0, none⟩)] w fun e w' => ∃ v, e = .returned v ∧ w'.ownsRow w.heap.size 3 1 v (tpend 0 T).length (is64 (tpend 0 T)) ∧ Below w.heap.size w w' := by
  have H := Lib.hid h
  obtain ⟨tp, tc, e⟩ := bk_form h.thr
  subst e
  have c0 : w.cell? ⟨rp, 1, none⟩ = some (.slice tp T.length tc) := (h.blk.cell 1).trans h.rc.c1
  clear h
  go_enter Tryz.func12, Tryz.ntmps12
  go_wp2_with fail
  go_loopw [3, 13] (fun s3 s13 wr => ∃ t : Nat, s13 = .int .i64 t ∧ t ≤ T.length ∧ Hid (wr.ownsRow w.heap.size 3 1 s3 (tpend 0 (T.take t)).length (is64 (tpend 0 (T.take t))) ∧ Below w.heap.size w wr)) (fun _ s13 _ => T.length - (intOf s13).toNat)
  case atStart => exact ⟨0, rfl, Nat.zero_le _, World.ownsRow_nil _ _ _ _, Below.refl _ _⟩
  case round =>
    obtain ⟨t, rfl, ht, HI⟩ := hrel
    by_cases hlt : t < T.length
    · obtain ⟨x, hx⟩ : ∃ x, T[t]? = some x := ⟨_, List.getElem?_eq_getElem hlt⟩
      have hr := H.out.fr (Fr.of_below (S := fun _ => False) HI.out.2) (fun _ _ e => e)
      obtain ⟨tg, tc', eq, d0, d1, d2, -, -, -⟩ := hr.tcell hx
      injection eq with e1 e2 e3
      clear e2
      subst e1 e3
      obtain ⟨pp, pc, e, -⟩ := hr.pcell hx
      have HPN := Lib.hid (tpend_next hx)
      rw [e] at d0
      have hpt : (tpend 0 (T.take t)).length ≤ 64 := by have := tpend_len 0 (T.take t); rw [List.length_take] at this; omega
      obtain ⟨sp, sc, e4⟩ := bk_form HI.out.1
      subst e4
      clear hr hx e
      generalize tpend 0 (T.take t) = pl at *
      cases ho : x.op
      · rw [ho] at d2
        have HII : Hid (∀ o, (wr.alloc o).ownsRow w.heap.size 3 1 (.slice sp pl.length sc) (tpend 0 (T.take (t + 1))).length (is64 (tpend 0 (T.take (t + 1)))) ∧ Below w.heap.size w (wr.alloc o)) := fun o => by
          have f : Fr (fun _ => False) wr (wr.alloc o) := (Fr.refl _ wr).alloc o
          rw [HPN.out, ho]
          simp only [Bool.false_eq_true, if_false, List.append_nil]
          exact ⟨own_fr HI.out.1 f (fun _ _ e => e), HI.out.2.trans (f.to_below HI.out.2.size (fun _ _ e => e))⟩
        clear ho
        go_wp2_with fail
        go_round
        case rel => exact ⟨t + 1, by go_num, by omega, HII.out _⟩
        case measure => simp [intOf]; omega
      · rw [ho] at d2
        have HOWN : Hid (∀ o1 o', ((wr.alloc o1).alloc o').ownsRow w.heap.size 3 1 (.slice sp pl.length sc) pl.length (is64 pl)) := fun o1 o' => own_fr HI.out.1 (((Fr.refl (fun _ => False) wr).alloc o1).alloc o') (fun _ _ e => e)
        have HE : Hid (∀ o1 v' w5, w5.ownsRow w.heap.size 3 1 v' (pl.length + 1) (is64 pl ++ [.int .i64 (t : Int)]) → ((wr.alloc o1).alloc (.cells #[.int .i64 (t : Int)] 3)).grownBy w5 (Value.slice sp pl.length sc).ownBlock → w5.ownsRow w.heap.size 3 1 v' (tpend 0 (T.take (t + 1))).length (is64 (tpend 0 (T.take (t + 1)))) ∧ Below w.heap.size w w5) := by
          intro o1 v' w5 hown hg
          have f : Fr (fun b => (Value.slice sp pl.length sc).ownBlock = some b) wr w5 := (((Fr.refl (fun b => (Value.slice sp pl.length sc).ownBlock = some b) wr).alloc o1).alloc _).grown hg (fun k e => .inl e)
          refine ⟨?_, HI.out.2.trans (f.to_below HI.out.2.size fun k hk e => by have := own_ge HI.out.1 e; omega)⟩
          rw [HPN.out, ho]
          simpa [is64] using hown
        have hsz : ∀ o, w.heap.size ≤ (wr.alloc o).heap.size := fun o => by have := HI.out.2.size; simp; omega
        clear ho
        go_wp2_with (at_builtin; refine app_one infoI Tryz.underlying23 rfl (by decide) rfl _ _ rfl rfl (HOWN.out _ _) rfl (by simp) rfl (by omega) (hsz _) ?_; intro v5 w5 ho5 hg5 _; have HI5 := Lib.hid (HE.out _ _ _ ho5 hg5); clear ho5 hg5)
        go_round
        case rel => exact ⟨t + 1, by go_num, by omega, HI5⟩
        case measure => simp [intOf]; omega
    · obtain rfl : t = T.length := by omega
      have HF : Hid (wr.ownsRow w.heap.size 3 1 u3 (tpend 0 T).length (is64 (tpend 0 T)) ∧ Below w.heap.size w wr) := by
        have := HI.out
        rw [List.take_length] at this
        exact this
      go_wp2_with fail
      go_ret
      exact ⟨_, rfl, HF.out⟩
end
end Go.Proofs.YtkaplifhaafpdaaGreat
end
section
/-
  What both tell, side by side: each list as the plain law has it. No condition.
-/
namespace Go.Proofs.YtkaplifhaafpdaaGreat
open Go Go.RowKit
set_option linter.unusedSimpArgs false
set_option linter.unusedVariables false
section
variable {W w w' w1 : World} {ll : List (List Plan)} {wd q : Nat} {L : Lay} {s s1 s2 : St} {U U' S : Nat → Prop}
theorem Duo.rx (h : Duo W ll wd q L s1 s2 w U) : ∃ R ats cs tv ev av, RX w R L.rp L.bm L.vws (thrs L.PV s1.th) s1.steps s1.evs ats cs tv ev av ∧ ats ++ List.replicate (s1.A.trace.length - ats.length) (-1) = s1.wh := by
  obtain ⟨G, Z, lab, rm, ⟨⟨R, E, ats, j, ha, _⟩, _, _⟩, _⟩ := h
  obtain ⟨cs, tv, ev, av, hx⟩ := j.ro.ex
  exact ⟨R, ats, cs, tv, ev, av, hx, ha⟩
theorem Duo.pm (h : Duo W ll wd q L s1 s2 w U) : ∃ F q r tv rows, PMx w F L.bm q r tv rows s1.A := by
  obtain ⟨G, Z, lab, rm, ⟨⟨R, E, ats, j, ha, _⟩, _, _⟩, _⟩ := h
  obtain ⟨F, gvf, hx⟩ := j.env
  obtain ⟨q, r, tv, rows, hm⟩ := hx.pm
  exact ⟨F, q, r, tv, rows, hm⟩
theorem Duo.zr (h : Duo W ll wd q L s1 s2 w U) : ∃ lab rm, ZR W w lab q rm ll s2 := by
  obtain ⟨G, Z, lab, rm, _, hz, _⟩ := h
  exact ⟨lab, rm, hz⟩
theorem Duo.oks (h : Duo W ll wd q L s1 s2 w U) : L.OK ll ∧ s1.Ok ll ∧ s2.Ok ll := by
  obtain ⟨G, Z, lab, rm, hp, hz, _⟩ := h
  exact ⟨hp.lay, hp.ok, hz.ok⟩
theorem Duo.wx (h : Duo W ll wd q L s1 s2 w U) : ∃ Z, WX w Z wd L.bm (.pointer (some ⟨L.rp, 0, none⟩)) L.lays := by
  obtain ⟨G, Z, lab, rm, _, _, hx, _⟩ := h
  exact ⟨Z, hx⟩
theorem Duo.Events (h : Duo W ll wd q L s1 s2 w U) (hs : s1.steps ≤ 100000000) : Calls Tryz.prog 9 #[.pointer (some ⟨L.rp, 0, none⟩)] w fun e w' => ∃ v, e = .returned v ∧ ReadsE w' v s1.evs ∧ Below w.heap.size w w' := by
  obtain ⟨R, ats, cs, tv, ev, av, hx, _⟩ := h.rx
  have := h.oks.2.1.el
  refine (Events_any hx (by omega)).mono ?_
  rintro e w' ⟨v, rfl, h1, h2⟩
  exact ⟨v, rfl, ReadsE.own h1, h2⟩
theorem Duo.REvents (h : Duo W ll wd q L s1 s2 w U) : Calls Tryz.prog 55 #[.pointer (some ⟨q, 0, none⟩)] w fun e w' => ∃ v, e = .returned v ∧ ReadsE w v s2.evs ∧ w = w' := by
  obtain ⟨lab, rm, hz⟩ := h.zr
  refine (REvents_any hz).mono ?_
  rintro e w' ⟨v, rfl, h1, h2⟩
  exact ⟨v, rfl, ReadsE.own h1, h2⟩
theorem Duo.Steps (h : Duo W ll wd q L s1 s2 w U) : Calls Tryz.prog 19 #[.pointer (some ⟨L.rp, 0, none⟩)] w fun e w' => e = .returned (.int .i64 s1.steps) ∧ w = w' := by
  obtain ⟨R, ats, cs, tv, ev, av, hx, _⟩ := h.rx
  exact PSteps_any hx
theorem Duo.RSteps (h : Duo W ll wd q L s1 s2 w U) : Calls Tryz.prog 56 #[.pointer (some ⟨q, 0, none⟩)] w fun e w' => e = .returned (.int .i64 s2.steps) ∧ w = w' := by
  obtain ⟨lab, rm, hz⟩ := h.zr
  exact RSteps_any hz
theorem Duo.At (h : Duo W ll wd q L s1 s2 w U) (hs : s1.steps ≤ 100000000) : Calls Tryz.prog 11 #[.pointer (some ⟨L.rp, 0, none⟩)] w fun e w' => ∃ v, e = .returned v ∧ ReadsI w' v s1.wh ∧ Below w.heap.size w w' := by
  obtain ⟨R, ats, cs, tv, ev, av, hx, ha⟩ := h.rx
  obtain ⟨F, qq, r, tv2, rows, hm⟩ := h.pm
  have htr := h.oks.2.1.tr
  have hwl := h.oks.2.1.wl
  have hal : ats.length + (s1.A.trace.length - ats.length) = s1.wh.length := by rw [← ha]; simp
  refine (At_any hx (made := s1.A.trace.length) (by omega) (by omega) (Live_any hm) (fun w1 hb => ?_)).mono ?_
  · exact Made_any (hm.fr (Fr.of_below (S := fun _ => False) hb) (fun _ _ e => e))
  · rintro e w' ⟨v, rfl, h1, h2⟩
    rw [hal, ha] at h1
    exact ⟨v, rfl, ReadsI.own h1, h2⟩
theorem Duo.RAt (h : Duo W ll wd q L s1 s2 w U) : Calls Tryz.prog 58 #[.pointer (some ⟨q, 0, none⟩)] w fun e w' => ∃ v, e = .returned v ∧ ReadsI w v s2.wh ∧ w = w' := by
  obtain ⟨lab, rm, hz⟩ := h.zr
  refine (RAt_any hz).mono ?_
  rintro e w' ⟨v, rfl, h1, h2⟩
  exact ⟨v, rfl, ReadsI.own h1, h2⟩
theorem Duo.Pending (h : Duo W ll wd q L s1 s2 w U) (hn : Fits ll) : Calls Tryz.prog 12 #[.pointer (some ⟨L.rp, 0, none⟩)] w fun e w' => ∃ v, e = .returned v ∧ ReadsI w' v s1.pending ∧ Below w.heap.size w w' := by
  obtain ⟨R, ats, cs, tv, ev, av, hx, _⟩ := h.rx
  have hl := thrs_len h.oks.1 h.oks.2.1
  have hn1 := hn.n
  refine (PPending_any hx (by omega)).mono ?_
  rintro e w' ⟨v, rfl, h1, h2⟩
  rw [tpend_thrs 0 L.PV s1.th (by rw [h.oks.1.pl, h.oks.2.1.tl])] at h1
  exact ⟨v, rfl, ReadsI.own h1, h2⟩
theorem Duo.RPending (h : Duo W ll wd q L s1 s2 w U) (hn : Fits ll) : Calls Tryz.prog 59 #[.pointer (some ⟨q, 0, none⟩)] w fun e w' => ∃ v, e = .returned v ∧ ReadsI w' v s2.pending ∧ Below w.heap.size w w' := by
  obtain ⟨lab, rm, hz⟩ := h.zr
  refine (RPending_any hz hn hz.bel.size).mono ?_
  rintro e w' ⟨v, rfl, h1, h2⟩
  exact ⟨v, rfl, ReadsI.own h1, h2⟩
theorem done_thrs (hl : L.OK ll) (ok : s.Ok ll) : allDone (thrs L.PV s.th) = s.done ll := by
  rw [Bool.eq_iff_iff]
  have hlen := thrs_len hl ok
  constructor
  · intro h
    refine done_all fun j hj => ?_
    rw [← idle_thrs hl ok]
    obtain ⟨x, hx⟩ : ∃ x, (thrs L.PV s.th)[j]? = some x := ⟨_, List.getElem?_eq_getElem (by omega)⟩
    rw [idle_in hx]
    unfold allDone at h
    rw [List.all_eq_true] at h
    exact h x (List.mem_of_getElem? hx)
  · intro h
    refine not_done fun j hj => ?_
    rw [idle_thrs hl ok]
    unfold St.done at h
    rw [List.all_eq_true] at h
    exact h j (List.mem_range.2 (by omega))
theorem thrs_procs (hl : L.OK ll) (ok : s.Ok ll) (hn : Fits ll) : ∀ X ∈ thrs L.PV s.th, X.procs.length ≤ 1000000 := by
  intro X hX
  obtain ⟨i, hi⟩ := List.getElem?_of_mem hX
  have hil := (List.getElem?_eq_some_iff.1 hi).1
  rw [thrs_len hl ok] at hil
  obtain ⟨a, ha, ha2⟩ := lay_at hl hil
  obtain ⟨y, hy⟩ : ∃ y, s.th[i]? = some y := ⟨_, List.getElem?_eq_getElem (by rw [ok.tl]; exact hil)⟩
  obtain ⟨l, hll⟩ : ∃ l, ll[i]? = some l := ⟨_, List.getElem?_eq_getElem hil⟩
  rw [thrs_at ha hy] at hi
  injection hi with hi
  subst hi
  have h1 := hl.lay.len i a.2 l ha2 hll
  have h2 := hn.l l (List.mem_of_getElem? hll)
  simp [thrAt]; omega
theorem Duo.Done (h : Duo W ll wd q L s1 s2 w U) (hn : Fits ll) : Calls Tryz.prog 18 #[.pointer (some ⟨L.rp, 0, none⟩)] w fun e w' => e = .returned (.bool (s1.done ll)) ∧ Below w.heap.size w w' := by
  obtain ⟨R, ats, cs, tv, ev, av, hx, _⟩ := h.rx
  obtain ⟨hl, ok, _⟩ := h.oks
  have hlen := thrs_len hl ok
  have hn1 := hn.n
  refine (Done_any hx (by omega) (fun x hx => by have := thrs_procs hl ok hn x hx; omega)).mono ?_
  rintro e w' ⟨rfl, n, rfl⟩
  exact ⟨by rw [done_thrs hl ok], ((Fr.refl (fun _ => False) w).drawn n).below (fun _ _ e => e)⟩
theorem Duo.RDone (h : Duo W ll wd q L s1 s2 w U) (hn : Fits ll) : Calls Tryz.prog 60 #[.pointer (some ⟨q, 0, none⟩)] w fun e w' => e = .returned (.bool (s2.done ll)) ∧ Below w.heap.size w w' := by
  obtain ⟨lab, rm, hz⟩ := h.zr
  refine (RDone_any hz hn).mono ?_
  rintro e w' ⟨rfl, n, rfl⟩
  exact ⟨rfl, ((Fr.refl (fun _ => False) w).drawn n).below (fun _ _ e => e)⟩
end
end Go.Proofs.YtkaplifhaafpdaaGreat
end
section
/-
  The traces of both, side by side. No condition.
-/
namespace Go.Proofs.YtkaplifhaafpdaaGreat
open Go Go.RowKit
set_option linter.unusedSimpArgs false
set_option linter.unusedVariables false
/-- what was handed to Alloc is not too long -/
def St.TrOK (s : St) : Prop := ∀ x ∈ s.A.trace, x.vals.length ≤ 1048576
section
variable {W w w' w1 : World} {ll : List (List Plan)} {wd q : Nat} {L : Lay} {s s1 s2 : St} {U U' S : Nat → Prop}
theorem make_tr (A : Mem) (t : Int) (d : Do) (h : ∀ x ∈ A.trace, x.vals.length ≤ 1048576) (hd : d.vals.length ≤ 1048576) : ∀ x ∈ (A.make t d).trace, x.vals.length ≤ 1048576 := by
  have nt : ∀ (B : Mem) (a : Acc), B.trace = A.trace → a.vals.length ≤ 1048576 → ∀ x ∈ (B.note a).trace, x.vals.length ≤ 1048576 := by
    intro B a e ha x hx
    unfold Mem.note at hx
    simp only at hx
    rw [e, List.mem_append] at hx
    rcases hx with hx | hx
    · exact h x hx
    · rw [List.mem_singleton] at hx; subst hx; exact ha
  unfold Mem.make
  split
  · exact nt _ _ rfl (by simp)
  split
  · exact nt _ _ rfl (by simp)
  split
  · unfold Mem.cas; exact nt _ _ (by split <;> rfl) (by simp)
  split
  · exact nt _ _ rfl (by simp)
  split
  · unfold Mem.alloc; exact nt _ _ (by split <;> rfl) hd
  · exact h
theorem TrOK.one (h : s.TrOK) (hn : Fits ll) (t : Int) : (s.one ll t).TrOK := by
  cases hi : s.idle ll t
  · obtain ⟨k, x, p, rfl, h1, h2⟩ := idle_false hi
    rw [h2]
    obtain ⟨hx, l, hl, hp⟩ := at_some h1
    have hd := (hn.p l (List.mem_of_getElem? hl) p (List.mem_of_getElem? hp)).2
    show ∀ y ∈ (s.mem k (p.act x.at_)).trace, _
    unfold St.mem
    split
    · rename_i d hac
      refine make_tr _ _ _ h (hd d ?_).2
      unfold Plan.act at hac
      split at hac
      · cases hac
      · exact List.mem_of_getElem? hac
    · exact h
  · rw [idle_true hi]; exact h
theorem start_tr (ll : List (List Plan)) : (St.start ll mem0).TrOK := by
  intro x hx
  have hx : x ∈ mem0.trace := hx
  have : mem0.trace = [⟨9, 2, 50, 3, 0, [], 0, false⟩] := by simp [mem0, Mem.store, Mem.note, Mem.put, Mem.made]
  rw [this, List.mem_singleton] at hx
  subst hx
  simp
theorem Duo.Trace (h : Duo W ll wd q L s1 s2 w U) (hs : s1.steps ≤ 100000000) (ht : s1.TrOK) : Calls Tryz.prog 62 #[.pointer (some ⟨L.bm, 0, none⟩)] w fun e w' => ∃ v, e = .returned v ∧ TL w' v s1.A.trace ∧ Below w.heap.size w w' := by
  obtain ⟨F, qq, r, tv2, rows, hm⟩ := h.pm
  have htr := h.oks.2.1.tr
  refine (Trace_x hm (by omega) (fun x hx => by have := ht x hx; omega)).mono ?_
  rintro e w' ⟨p, c, rfl, h1, h2⟩
  exact ⟨_, rfl, h1.tl, h2⟩
/-- the document's trace lies in its memory -/
theorem Duo.RTrace (h : Duo W ll wd q L s1 s2 w U) : ∃ rm v, w.cell? ⟨q, 0, none⟩ = some (.pointer (some ⟨rm, 0, none⟩)) ∧ w.cell? ⟨rm, 2, none⟩ = some v ∧ TL w v s2.A.trace := by
  obtain ⟨lab, rm, ⟨⟨pv, cg, ag, gg, ev, wv, gvs, hz, _⟩, _, _, _⟩⟩ := h.zr
  obtain ⟨r, tv, rows, hm⟩ := hz.mem
  have hm : RMx w (fun k => lab k = 1) rm r tv rows false s2.A := hm
  obtain ⟨p, c, e⟩ := bk_form hm.own
  have hl := hm.len
  refine ⟨rm, tv, hz.blk.cell 0, hm.bM.cell 2, ?_⟩
  have ho := hm.own
  rw [e] at ho ⊢
  rw [hl]
  exact TL_of hm.fst ho (fun x hx => VR_of (hm.vals x hx))
end
end Go.Proofs.YtkaplifhaafpdaaGreat
end
section
/-
  What a nil proc was told: nothing; the others' tellings, one behind the other, are the thread's. No condition.
-/
namespace Go.Proofs.YtkaplifhaafpdaaGreat
open Go Go.RowKit
set_option linter.unusedSimpArgs false
set_option linter.unusedVariables false
/-- a nil proc was told nothing -/
def St.NilOK (ll : List (List Plan)) (s : St) : Prop := ∀ (t k : Nat) x l p, s.th[t]? = some x → ll[t]? = some l → l[k]? = some p → p.none = true → x.got.getD k [] = []
section
variable {ll : List (List Plan)} {s : St}
theorem NilOK.one (h : s.NilOK ll) (ok : s.Ok ll) (t : Int) : (s.one ll t).NilOK ll := by
  cases hi : s.idle ll t
  · obtain ⟨u, y, q, rfl, h1, h2⟩ := idle_false hi
    rw [h2]
    obtain ⟨hy, m, hm, hq⟩ := at_some h1
    intro t k x l p hx hl hp hn
    have hx : (s.th.set u (y.next (s.says (q.act y.at_)) (q.dn y.at_)))[t]? = some x := hx
    by_cases e : u = t
    · subst e
      rw [List.getElem?_set_self (List.getElem?_eq_some_iff.1 hy).1] at hx
      injection hx with hx
      subst hx
      rw [hm] at hl; injection hl with hl; subst hl
      by_cases e2 : k = y.call
      · subst e2
        rw [hq] at hp; injection hp with hp; subst hp
        have hs : s.says (q.act y.at_) = [] := by unfold Plan.act St.says; rw [hn]; rfl
        rw [got_next (ok.th u y m hy hm) hq, hs, List.append_nil]
        exact h u _ y m q hy hm hq hn
      · rw [(took_next (ok.th u y m hy hm) hq hp _ e2).2]
        exact h u k y m p hy hm hp hn
    · rw [List.getElem?_set_ne e] at hx
      exact h t k x l p hx hl hp hn
  · rw [idle_true hi]; exact h
theorem start_nil (ll : List (List Plan)) (A : Mem) : (St.start ll A).NilOK ll := by
  intro t k x l p hx hl hp hn
  simp only [St.start, List.getElem?_map, hl] at hx
  injection hx with hx
  subst hx
  simp only [List.getD_eq_getElem?_getD, List.getElem?_replicate]
  split <;> rfl
/-- what the procs that are there were told, in turn -/
def tellings (lay : List (Option Nat)) (got : List (List Int)) : List (List Int) := (lay.zip got).filterMap fun p => p.1.map fun _ => p.2
theorem tellings_flat : ∀ (lay : List (Option Nat)) (got : List (List Int)), lay.length = got.length → (∀ k : Nat, lay[k]? = some none → got.getD k [] = []) → (tellings lay got).flatten = got.flatten
  | [], [], _, _ => rfl
  | a :: lay, g :: got, h, hn => by
    have ih := tellings_flat lay got (by simpa using h) (fun k hk => by have := hn (k + 1) (by simpa using hk); simpa using this)
    unfold tellings at ih ⊢
    cases a with
    | none =>
      have : g = [] := by simpa using hn 0 rfl
      subst this
      simpa using ih
    | some pb => simpa using ih
  | [], g :: got, h, _ => by simp at h
  | a :: lay, [], h, _ => by simp at h
theorem tellings_at : ∀ (lay : List (Option Nat)) (got : List (List Int)) (k pb : Nat), lay.length = got.length → (lay.filterMap id)[k]? = some pb → ∃ j, lay[j]? = some (some pb) ∧ (tellings lay got)[k]? = some (got.getD j [])
  | [], got, k, pb, _, h => by simp at h
  | a :: lay, [], k, pb, h, _ => by simp at h
  | none :: lay, g :: got, k, pb, h, hk => by
    obtain ⟨j, h1, h2⟩ := tellings_at lay got k pb (by simpa using h) (by simpa using hk)
    exact ⟨j + 1, by simpa using h1, by simpa [tellings] using h2⟩
  | some b :: lay, g :: got, 0, pb, h, hk => ⟨0, by simpa using hk, by simp [tellings]⟩
  | some b :: lay, g :: got, k + 1, pb, h, hk => by
    obtain ⟨j, h1, h2⟩ := tellings_at lay got k pb (by simpa using h) (by simpa using hk)
    exact ⟨j + 1, by simpa using h1, by simpa [tellings] using h2⟩
end
end Go.Proofs.YtkaplifhaafpdaaGreat
end
section
/-
  What the program's procs and the document's runner were told, as both lie in memory. No condition.
-/
namespace Go.Proofs.YtkaplifhaafpdaaGreat
open Go Go.RowKit
set_option linter.unusedSimpArgs false
set_option linter.unusedVariables false
/-- a value holds these numbers -/
def GV (w : World) (v : Value) (l : List Int) : Prop := ∃ ao c, v = .slice ao l.length c ∧ (ao = none → l.length = 0 ∧ c = 0) ∧ (∀ ad, ao = some ad → ad.block < w.heap.size ∧ ∀ (j : Nat) u, (us l)[j]? = some u → w.cell? (ad.add j) = some u)
theorem GV.own {w : World} {B : Nat} {v : Value} {l : List Int} (h : w.ownsRow B 72 1 v l.length (us l)) : GV w v l := by
  rcases id h.2 with ⟨h1, h0⟩ | ⟨g, cap, cur, rfl, hb, hh, hr⟩
  · exact ⟨none, 0, by rw [h1, h0], fun _ => ⟨h0, rfl⟩, fun ad e => (by cases e)⟩
  · refine ⟨some ⟨g, 0, none⟩, cap, rfl, fun e => (by cases e), fun ad e => ?_⟩
    injection e with e
    subst e
    exact ⟨own_lt h rfl, fun j u hu => h.cells (g := g) rfl j u hu⟩
theorem VR.own {w : World} {B : Nat} {v : Value} {l : List Int} (h : w.ownsRow B 72 1 v l.length (us l)) : VR w v l := by
  rcases id h.2 with ⟨h1, h0⟩ | ⟨g, cap, cur, rfl, hb, hh, hr⟩
  · exact .inl ⟨none, 0, h1, List.length_eq_zero_iff.1 h0⟩
  · exact .inr ⟨g, cap, rfl, own_lt h rfl, fun j u hu => own_cell h hu⟩
section
variable {W w w' w1 : World} {ll : List (List Plan)} {wd q : Nat} {L : Lay} {s s1 s2 : St} {U U' S : Nat → Prop}
theorem Duo.gots (h : Duo W ll wd q L s1 s2 w U) (hn : s1.NilOK ll) :
    ∃ pm cm, w.cell? ⟨wd, 2, none⟩ = some (.slice pm ll.length cm) ∧ ∀ (i : Nat) x, s1.th[i]? = some x → ∃ g la pr cr, pm = some ⟨g, 0, none⟩ ∧ w.cell? ⟨g, i, none⟩ = some (.slice pr (tellings la x.got).length cr) ∧
      (tellings la x.got).flatten = x.got.flatten ∧
      ∀ (k : Nat) l, (tellings la x.got)[k]? = some l → ∃ g2 pb v, pr = some ⟨g2, 0, none⟩ ∧ w.cell? ⟨g2, k, none⟩ = some (.pointer (some ⟨pb, 0, none⟩)) ∧ w.cell? ⟨pb, 2, none⟩ = some v ∧ GV w v l := by
  obtain ⟨G, Z, lab, rm, ⟨⟨R, E, ats, j, ha, _⟩, hL, ok⟩, _, ⟨mv, ms, b, ho, hr, _⟩, _⟩ := h
  obtain ⟨F, gvf, hx⟩ := j.env
  have hlen : L.lays.length = ll.length := hL.lay.n
  obtain ⟨pm, cm, rfl⟩ := bk_form ho
  refine ⟨pm, cm, by rw [← hlen]; exact b.cell 2, fun i x hxi => ?_⟩
  have hi := (List.getElem?_eq_some_iff.1 hxi).1
  have hi2 : i < ll.length := by rw [← ok.tl]; exact hi
  obtain ⟨l, hl⟩ : ∃ l, ll[i]? = some l := ⟨_, List.getElem?_eq_getElem hi2⟩
  obtain ⟨la, hla⟩ : ∃ la, L.lays[i]? = some la := ⟨_, List.getElem?_eq_getElem (by omega)⟩
  have hms : ms.length = L.lays.length := by simpa using ho.1
  obtain ⟨m, hm⟩ : ∃ m, ms[i]? = some m := ⟨_, List.getElem?_eq_getElem (by omega)⟩
  obtain ⟨g, c, e, _, _⟩ := bk_form1 ho (by omega)
  injection e with e1 e2 e3
  subst e1 e3
  have hlal := hL.lay.len i la l hla hl
  have hgl := (ok.th i x l hxi hl).gl
  obtain ⟨hrow, _⟩ := hr i la m hla hm
  obtain ⟨pr, cr, rfl⟩ := bk_form hrow
  have htl : (mptrs la).length = (tellings la x.got).length := by
    have : ∀ (la : List (Option Nat)) (got : List (List Int)), la.length = got.length → (la.filterMap id).length = (tellings la got).length := by
      intro la
      induction la with
      | nil => intro got h; cases got <;> simp_all [tellings]
      | cons a la ih =>
        intro got h
        cases got with
        | nil => simp at h
        | cons y got =>
          have := ih got (by simpa using h)
          cases a <;> simp_all [tellings]
    unfold mptrs
    rw [List.length_map, this la x.got (by omega)]
  refine ⟨g, la, pr, cr, rfl, by rw [← htl]; exact own_cell ho hm, ?_, fun k y hk => ?_⟩
  · refine tellings_flat la x.got (by omega) (fun k hk => ?_)
    obtain ⟨p, hp⟩ : ∃ p, l[k]? = some p := ⟨_, List.getElem?_eq_getElem (by have := (List.getElem?_eq_some_iff.1 hk).1; omega)⟩
    exact hn i k x l p hxi hl hp ((hL.lay.no i k la l p hla hl hp).2 hk)
  · have hkl := (List.getElem?_eq_some_iff.1 hk).1
    rw [← htl] at hkl
    have hkl' : k < (la.filterMap id).length := by simpa [mptrs] using hkl
    obtain ⟨pb, hpb⟩ : ∃ pb, (la.filterMap id)[k]? = some pb := ⟨_, List.getElem?_eq_getElem hkl'⟩
    obtain ⟨jj, h1, h2⟩ := tellings_at la x.got k pb (by omega) hpb
    rw [hk] at h2; injection h2 with h2; subst h2
    obtain ⟨g2, c2, e, _, _⟩ := bk_form1 hrow (by omega)
    injection e with e1 e2 e3
    subst e1 e3
    obtain ⟨p, hp⟩ : ∃ p, l[jj]? = some p := ⟨_, List.getElem?_eq_getElem (by have := (List.getElem?_eq_some_iff.1 h1).1; omega)⟩
    have hlat : layAt L.lays i jj = some (some pb) := by unfold layAt; rw [hla]; exact h1
    obtain ⟨⟨lv, b1, _⟩, o1, _⟩ := hx.pr i jj pb x l p hlat hxi hl hp
    exact ⟨g2, pb, gvf pb, rfl, own_cell hrow (by simp [mptrs, hpb, pptr]), b1.cell 2, GV.own o1⟩
theorem Duo.rgots (h : Duo W ll wd q L s1 s2 w U) : ∃ g c, w.cell? ⟨q, 7, none⟩ = some (.slice (some ⟨g, 0, none⟩) ll.length c) ∧ ∀ (i : Nat) x, s2.th[i]? = some x → ∃ v, w.cell? ⟨g, i, none⟩ = some v ∧ VR w v x.got.flatten := by
  obtain ⟨G, Z, lab, rm, _, ⟨⟨pv, cg, ag, gg, ev, wv, gvs, hz, _⟩, _, ok, _⟩, _⟩ := h
  refine ⟨gg, ll.length, hz.blk.cell 7, fun i x hx => ?_⟩
  have hi := (List.getElem?_eq_some_iff.1 hx).1
  obtain ⟨v, hv⟩ : ∃ v, gvs[i]? = some v := ⟨_, List.getElem?_eq_getElem (by rw [hz.gl, ← ok.tl]; exact hi)⟩
  refine ⟨v, ?_, VR.own (hz.gvo i v x.got.flatten hv ?_)⟩
  · exact (hz.gB.cell i).trans (by simpa using hv)
  · simp [St.z, hx]
end
end Go.Proofs.YtkaplifhaafpdaaGreat
end

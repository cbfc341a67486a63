/-
  StZT, StZN: the texts of the proof, merged. No condition.
-/
import Derived.Test.YtkaplifhaafpdaaGreatM17
import Derived.Test.YtkaplifhaafpdaaGreatM13
section
/-
  What the document's runner tells: its events, steps, where accesses were made; are all done; who is pending. No condition.
-/
namespace Go.Proofs.YtkaplifhaafpdaaGreat
open Go Go.RowKit
set_option linter.unusedSimpArgs false
set_option linter.unusedVariables false
def St.done (ll : List (List Plan)) (s : St) : Bool := (List.range ll.length).all fun t => s.idle ll ((t : Nat) : Int)
def pend : Nat → List TS → List Int
  | _, [] => []
  | t, x :: l => (if x.at_ = 0 then [] else [(t : Int)]) ++ pend (t + 1) l
def St.pending (s : St) : List Int := pend 0 s.th
theorem pend_len : ∀ (t : Nat) (l : List TS), (pend t l).length ≤ l.length
  | t, [] => by simp [pend]
  | t, x :: l => by
    have := pend_len (t + 1) l
    simp only [pend, List.length_append, List.length_cons]
    split <;> simp <;> omega
theorem pend_app : ∀ (t : Nat) (l : List TS) (x : TS), pend t (l ++ [x]) = pend t l ++ (if x.at_ = 0 then [] else [((t + l.length : Nat) : Int)])
  | t, [], x => by simp [pend]
  | t, y :: l, x => by
    have := pend_app (t + 1) l x
    simp only [List.cons_append, pend, this, List.append_assoc, List.length_cons]
    rw [show t + 1 + l.length = t + (l.length + 1) from by omega]
theorem pend_next {l : List TS} {t : Nat} {x : TS} (h : l[t]? = some x) : pend 0 (l.take (t + 1)) = pend 0 (l.take t) ++ (if x.at_ = 0 then [] else [(t : Int)]) := by
  have ht := (List.getElem?_eq_some_iff.1 h).1
  rw [List.take_add_one, h]
  have := pend_app 0 (l.take t) x
  simp only [Option.toList_some, this, List.length_take]
  rw [Nat.min_eq_left (by omega), Nat.zero_add]
section
variable {w0 w w1 : World} {lab : Nat → Nat} {q rm cg ag gg t : Nat} {pv ev wv : Value} {ll : List (List Plan)} {s : St} {gvs : List Value}
theorem REvents_any (h : ZR w0 w lab q rm ll s) : Calls Tryz.prog 55 #[.pointer (some ⟨q, 0, none⟩)] w fun e w' => ∃ v, e = .returned v ∧ w.ownsRow 0 97 4 v s.evs.length (s.evs.flatMap evC) ∧ w = w' := by
  obtain ⟨⟨pv, cg, ag, gg, ev, wv, gvs, h, hp⟩, hb, ok, -⟩ := h
  have c : w.cell? ⟨q, 5, none⟩ = some ev := h.blk.cell 5
  have HO := Lib.hid h.evo
  clear h hp hb ok
  go_enter Tryz.func55, Tryz.ntmps55
  go_wp2_with fail
  go_ret
  exact ⟨_, rfl, HO.out, rfl⟩
theorem RSteps_any (h : ZR w0 w lab q rm ll s) : Calls Tryz.prog 56 #[.pointer (some ⟨q, 0, none⟩)] w fun e w' => e = .returned (.int .i64 s.steps) ∧ w = w' := by
  obtain ⟨⟨pv, cg, ag, gg, ev, wv, gvs, h, hp⟩, hb, ok, -⟩ := h
  have c : w.cell? ⟨q, 4, none⟩ = some (.int .i64 s.steps) := h.blk.cell 4
  clear h hp hb ok
  go_enter Tryz.func56, Tryz.ntmps56
  go_wp2_with fail
  go_ret
  exact ⟨rfl, rfl⟩
theorem RAt_any (h : ZR w0 w lab q rm ll s) : Calls Tryz.prog 58 #[.pointer (some ⟨q, 0, none⟩)] w fun e w' => ∃ v, e = .returned v ∧ w.ownsRow 0 3 1 v s.wh.length (is64 s.wh) ∧ w = w' := by
  obtain ⟨⟨pv, cg, ag, gg, ev, wv, gvs, h, hp⟩, hb, ok, -⟩ := h
  have c : w.cell? ⟨q, 6, none⟩ = some wv := h.blk.cell 6
  have HO := Lib.hid h.who
  clear h hp hb ok
  go_enter Tryz.func58, Tryz.ntmps58
  go_wp2_with fail
  go_ret
  exact ⟨_, rfl, HO.out, rfl⟩
theorem ZR.plan_cell (h : ZR w0 w lab q rm ll s) : ∃ p c, w.cell? ⟨q, 1, none⟩ = some (.slice p ll.length c) := by
  obtain ⟨⟨pv, cg, ag, gg, ev, wv, gvs, h, hp⟩, hb, ok, -⟩ := h
  obtain ⟨p, c, rfl, -⟩ := hp
  exact ⟨p, c, h.blk.cell 1⟩
set_option maxRecDepth 100000 in
theorem RDone_any (h : ZR w0 w lab q rm ll s) (hn : Fits ll) : Calls Tryz.prog 60 #[.pointer (some ⟨q, 0, none⟩)] w fun e w' => e = .returned (.bool (s.done ll)) ∧ ∃ n, w' = w.drewN n := by
  have H := Lib.hid h
  have HN := Lib.hid hn
  have hll := hn.n
  clear h hn
  go_enter Tryz.func60, Tryz.ntmps60
  go_wp2_with fail
  go_loopw [3] (fun s3 wr => ∃ t : Nat, s3 = .int .i64 t ∧ t ≤ ll.length ∧ Hid ((∃ n, wr = w.drewN n) ∧ ∀ j, j < t → s.idle ll ((j : Nat) : Int) = true)) (fun s3 _ => ll.length - (intOf s3).toNat)
  case atStart => exact ⟨0, rfl, Nat.zero_le _, ⟨0, rfl⟩, fun j hj => by omega⟩
  case round =>
    obtain ⟨t, rfl, ht, HI⟩ := hrel
    obtain ⟨n, hw⟩ := HI.out.1
    have hr : ZR w0 wr lab q rm ll s := by rw [hw]; exact H.out.drawn n
    obtain ⟨p, c, c1⟩ := hr.plan_cell
    have HR := Lib.hid hr
    have HL := Lib.hid (left_any hr HN.out t)
    have HW := Lib.hid hw
    clear hw hr
    by_cases hlt : t < ll.length
    · cases hi : s.idle ll (t : Int)
      · have HD : Hid (s.done ll = false) := by
          show _ = _
          unfold St.done
          rw [List.all_eq_false]
          exact ⟨t, List.mem_range.2 hlt, by simp [hi]⟩
        rw [hi] at HL
        clear hi
        go_wp2_with fail
        refine HL.out.mono ?_
        rintro e w2 ⟨rfl, m, rfl⟩
        go_wp2_with fail
        go_ret
        exact ⟨by rw [HD.out]; rfl, n + m, by rw [HW.out]; simp [World.drewN, Nat.add_assoc]⟩
      · have HII : Hid (∀ j, j < t + 1 → s.idle ll ((j : Nat) : Int) = true) := fun j hj => by
          by_cases e : j = t
          · subst e; exact hi
          · exact HI.out.2 j (by omega)
        rw [hi] at HL
        clear hi
        go_wp2_with fail
        refine HL.out.mono ?_
        rintro e w2 ⟨rfl, m, rfl⟩
        go_wp2_with fail
        go_round
        case rel => exact ⟨t + 1, by go_num, by omega, ⟨n + m, by rw [HW.out]; simp [World.drewN, Nat.add_assoc]⟩, HII.out⟩
        case measure => simp [intOf]; omega
    · obtain rfl : t = ll.length := by omega
      have HD : Hid (s.done ll = true) := by
        show _ = _
        unfold St.done
        rw [List.all_eq_true]
        intro j hj
        exact HI.out.2 j (List.mem_range.1 hj)
      go_wp2_with fail
      go_ret
      exact ⟨by rw [HD.out]; rfl, n, HW.out⟩
theorem ZR.at_cell (h : ZR w0 w lab q rm ll s) : ∃ ag, w.cell? ⟨q, 3, none⟩ = some (.slice (some ⟨ag, 0, none⟩) ll.length ll.length) ∧ ∀ (t : Nat) x, s.th[t]? = some x → w.cell? ⟨ag, t, none⟩ = some (.int .i64 x.at_) := by
  obtain ⟨⟨pv, cg, ag, gg, ev, wv, gvs, h, hp⟩, hb, ok, -⟩ := h
  exact ⟨ag, h.blk.cell 3, fun t x hx => h.acell (by simp [St.z, hx])⟩
theorem ZR.bl (h : ZR w0 w lab q rm ll s) (hb : Below w.heap.size w w1) : ZR w0 w1 lab q rm ll s :=
  h.fr (Fr.of_below (S := fun _ => False) hb) (fun _ _ e => e) (fun _ _ e => e)
set_option maxRecDepth 100000 in
theorem RPending_any (h : ZR w0 w lab q rm ll s) (hn : Fits ll) (h0 : w0.heap.size ≤ w.heap.size) : Calls Tryz.prog 59 #[.pointer (some ⟨q, 0, none⟩)] w fun e w' => ∃ v, e = .returned v ∧ w'.ownsRow w.heap.size 3 1 v s.pending.length (is64 s.pending) ∧ Below w.heap.size w w' := by
  have H := Lib.hid h
  have HN := Lib.hid hn
  have hll := hn.n
  have htl := h.ok.tl
  clear h hn
  have hpl := pend_len 0 s.th
  go_enter Tryz.func59, Tryz.ntmps59
  go_wp2_with fail
  go_loopw [3, 4] (fun s3 s4 wr => ∃ t : Nat, s4 = .int .i64 t ∧ t ≤ ll.length ∧ Hid (wr.ownsRow w.heap.size 3 1 s3 (pend 0 (s.th.take t)).length (is64 (pend 0 (s.th.take t))) ∧ Below w.heap.size w wr)) (fun _ s4 _ => ll.length - (intOf s4).toNat)
  case atStart => exact ⟨0, rfl, Nat.zero_le _, World.ownsRow_nil _ _ _ _, Below.refl _ _⟩
  case round =>
    obtain ⟨t, rfl, ht, HI⟩ := hrel
    have hr : ZR w0 wr lab q rm ll s := H.out.bl HI.out.2
    obtain ⟨p, c, c1⟩ := hr.plan_cell
    obtain ⟨ag, c2, hag⟩ := hr.at_cell
    have HR := Lib.hid hr
    clear hr
    by_cases hlt : t < ll.length
    · obtain ⟨x, hx⟩ : ∃ x, s.th[t]? = some x := ⟨_, List.getElem?_eq_getElem (by omega)⟩
      have c3 := hag t x hx
      have HPN := Lib.hid (pend_next hx)
      clear hag
      have hpt : (pend 0 (s.th.take t)).length ≤ 64 := by have := pend_len 0 (s.th.take t); rw [List.length_take] at this; omega
      generalize pend 0 (s.th.take t) = pl at *
      by_cases hx0 : x.at_ = 0
      · have t1 : decide (0 < (x.at_ : Int)) = false := by simp [hx0]
        have t2 : decide (0 < x.at_) = false := by simp [hx0]
        have t3 : ¬ 0 < x.at_ := by omega
        have HII : Hid (wr.ownsRow w.heap.size 3 1 u3 (pend 0 (s.th.take (t + 1))).length (is64 (pend 0 (s.th.take (t + 1)))) ∧ Below w.heap.size w wr) := by
          rw [HPN.out, if_pos hx0, List.append_nil]
          exact HI.out
        clear hx hx0
        go_wp2_with fail
        go_round
        case rel => exact ⟨t + 1, by go_num, by omega, HII⟩
        case measure => simp [intOf]; omega
      · have t1 : decide (0 < (x.at_ : Int)) = true := by simp; omega
        have t2 : decide (0 < x.at_) = true := by simp; omega
        have t3 : 0 < x.at_ := by omega
        obtain ⟨sp, sc, e⟩ := bk_form HI.out.1
        subst e
        have HOWN : Hid (∀ o', (wr.alloc o').ownsRow w.heap.size 3 1 (.slice sp pl.length sc) pl.length (is64 pl)) := fun o' => own_fr HI.out.1 ((Fr.refl (fun _ => False) wr).alloc o') (fun _ _ e => e)
        have HE : Hid (∀ v' w5, w5.ownsRow w.heap.size 3 1 v' (pl.length + 1) (is64 pl ++ [.int .i64 (t : Int)]) → (wr.alloc (.cells #[.int .i64 (t : Int)] 3)).grownBy w5 (Value.slice sp pl.length sc).ownBlock → w5.ownsRow w.heap.size 3 1 v' (pend 0 (s.th.take (t + 1))).length (is64 (pend 0 (s.th.take (t + 1)))) ∧ Below w.heap.size w w5) := by
          intro v' w5 ho hg
          have hB : Below w.heap.size w w5 := by
            have f : Fr (fun b => (Value.slice sp pl.length sc).ownBlock = some b) wr w5 := ((Fr.refl (fun b => (Value.slice sp pl.length sc).ownBlock = some b) wr).alloc _).grown hg (fun k e => .inl e)
            exact HI.out.2.trans (f.to_below HI.out.2.size fun k hk e => by have := own_ge HI.out.1 e; omega)
          refine ⟨?_, hB⟩
          rw [HPN.out, if_neg hx0]
          simpa [is64] using ho
        have hsz := HI.out.2.size
        clear hx hx0
        go_wp2_with (at_builtin; (refine app_one infoI Tryz.underlying23 rfl (by decide) rfl _ _ rfl rfl (HOWN.out _) rfl (by simp) rfl (by omega) hsz ?_; intro v5 w5 ho5 hg5 _; have HI5 := Lib.hid (HE.out _ _ ho5 hg5); clear ho5 hg5))
        go_round
        case rel => exact ⟨t + 1, by go_num, by omega, HI5⟩
        case measure => simp [intOf]; omega
    · obtain rfl : t = ll.length := by omega
      have HF : Hid (wr.ownsRow w.heap.size 3 1 u3 s.pending.length (is64 s.pending) ∧ Below w.heap.size w wr) := by
        have := HI.out
        rw [← htl, List.take_length] at this
        exact this
      go_wp2_with fail
      go_ret
      exact ⟨_, rfl, HF.out⟩
end
end Go.Proofs.YtkaplifhaafpdaaGreat
end
section
/-
  The document's runner, made. No condition.
-/
namespace Go.Proofs.YtkaplifhaafpdaaGreat
open Go Go.RowKit
set_option linter.unusedSimpArgs false
set_option linter.unusedVariables false
/-- nothing done yet -/
def St.start (ll : List (List Plan)) (A : Mem) : St := ⟨A, ll.map fun l => ⟨0, 0, List.replicate l.length []⟩, 0, [], List.replicate A.trace.length (-1)⟩
theorem flat_rep (n : Nat) : (List.replicate n ([] : List Int)).flatten = [] := by
  rw [List.flatten_eq_nil_iff]
  intro l hl
  exact (List.mem_replicate.1 hl).2
theorem start_ok {ll : List (List Plan)} {A : Mem} (hA : A.Fit) (ht : A.trace.length ≤ 1) : (St.start ll A).Ok ll := by
  refine ⟨by simp [St.start], fun t x l hx hl => ?_, hA, by simp [St.start], by show A.trace.length ≤ 0 + 1; omega, by simp [St.start], fun t x hx => ?_⟩
  · simp only [St.start, List.getElem?_map, hl] at hx
    injection hx with hx
    subst hx
    refine ⟨by simp, Nat.zero_le _, fun k _ => ?_, fun _ => ?_, fun p _ h => absurd rfl h, fun _ => rfl⟩
    · simp only [List.getD_eq_getElem?_getD, List.getElem?_replicate]
      split <;> rfl
    · simp only [List.getD_eq_getElem?_getD, List.getElem?_replicate]
      split <;> rfl
  · simp only [St.start, List.getElem?_map] at hx
    cases hl : ll[t]? with
    | none => rw [hl] at hx; cases hx
    | some l =>
      rw [hl] at hx
      injection hx with hx
      subst hx
      show (List.replicate l.length ([] : List Int)).flatten.length ≤ 0
      rw [flat_rep]
      exact Nat.le_refl _
def tooMany (ll : List (List Plan)) : Bool := decide (64 < ll.length) || ll.any fun l => decide (4096 < l.length)
section
variable {w0 w w1 : World} {q rm cg ag gg t : Nat} {pv ev wv : Value} {ll : List (List Plan)} {s : St} {gvs : List Value} {F : Nat → Prop} {A : Mem}
theorem lab_new (F : Nat → Prop) (h1 : cg ≠ q) (h2 : ag ≠ q) (h3 : gg ≠ q) (h4 : ag ≠ cg) (h5 : gg ≠ cg) (h6 : gg ≠ ag) : ∃ lab : Nat → Nat, lab q = 2 ∧ lab cg = 3 ∧ lab ag = 4 ∧ lab gg = 5 ∧ (∀ k, F k → k ≠ q → k ≠ cg → k ≠ ag → k ≠ gg → lab k = 1) ∧ ∀ k, lab k ≠ 0 → k = q ∨ k = cg ∨ k = ag ∨ k = gg ∨ F k := by
  classical
  refine ⟨fun k => if k = q then 2 else if k = cg then 3 else if k = ag then 4 else if k = gg then 5 else if F k then 1 else 0, by simp, by simp [h1], by simp [h2, h4], by simp [h3, h5, h6], fun k h a b c d => by simp [a, b, c, d, h], fun k h => ?_⟩
  simp only at h
  split at h
  · exact .inl (by assumption)
  split at h
  · exact .inr (.inl (by assumption))
  split at h
  · exact .inr (.inr (.inl (by assumption)))
  split at h
  · exact .inr (.inr (.inr (.inl (by assumption))))
  split at h
  · exact .inr (.inr (.inr (.inr (by assumption))))
  · exact absurd rfl h
/-- as it is made, ahead of the steps of accesses that were there -/
def znew (ll : List (List Plan)) (A : Mem) (k : Nat) : Zs := ⟨A, List.replicate ll.length 0, List.replicate ll.length 0, 0, [], List.replicate k (-1), List.replicate ll.length []⟩
theorem ns_rep (n : Nat) : ns64 (List.replicate n 0) = List.replicate n (.int .i64 0) := by simp [ns64]
theorem znew_at (hF : RM w F rm false A) (hlt : ∀ k, F k → k < w.heap.size) (hd : cg ≠ ag) (hf : Fr (fun _ => False) w w1) (h1 : w.heap.size ≤ cg ∧ w.heap.size ≤ ag ∧ w.heap.size ≤ gg ∧ w.heap.size ≤ q)
    (bq : Blk w1 q 101 (zcs rm pv ll.length cg ag gg 0 (.slice none 0 0) (.slice none 0 0))) (bc : Blk w1 cg 3 (Array.replicate ll.length (.int .i64 0))) (ba : Blk w1 ag 3 (Array.replicate ll.length (.int .i64 0))) (bg : Blk w1 gg 107 (Array.replicate ll.length (.slice none 0 0))) :
    ∃ lab, ZX w1 lab q rm ll.length pv (znew ll A 0) cg ag gg (.slice none 0 0) (.slice none 0 0) (List.replicate ll.length (.slice none 0 0)) ∧ ∀ k, lab k ≠ 0 → k = q ∨ k = cg ∨ k = ag ∨ k = gg ∨ F k := by
  have hqc : cg ≠ q := Blk.ne bc bq (by decide)
  have hqa : ag ≠ q := Blk.ne ba bq (by decide)
  have hqg : gg ≠ q := Blk.ne bg bq (by decide)
  have hgc : gg ≠ cg := Blk.ne bg bc (by decide)
  have hga : gg ≠ ag := Blk.ne bg ba (by decide)
  obtain ⟨lab, a1, a2, a3, a4, a5, a6⟩ := lab_new F hqc hqa hqg hd.symm hgc hga
  refine ⟨lab, ⟨bq, (hF.fr hf (fun _ _ e => e)).wide fun k hk => ?_, by simpa [ns_rep, znew] using bc, by simpa [ns_rep, znew] using ba, by simpa using bg, World.ownsRow_nil _ _ _ _, World.ownsRow_nil _ _ _ _, fun t v l hv hl => ?_, by simp [znew], by simp [znew], by simp, by simp [znew], a1, a2, a3, a4, fun g e => (by cases e), fun g e => (by cases e), fun t v g hv e => ?_⟩, a6⟩
  · have := hlt k hk
    exact a5 k hk (by omega) (by omega) (by omega) (by omega)
  · have hv := (List.mem_replicate.1 (List.mem_of_getElem? hv)).2
    have hl := (List.mem_replicate.1 (List.mem_of_getElem? hl)).2
    subst hv hl
    exact World.ownsRow_nil _ _ _ _
  · have hv := (List.mem_replicate.1 (List.mem_of_getElem? hv)).2
    subst hv
    cases e
theorem run_mk {ty e : TypeId} {z : Value} {bts : Nat} (hu : Tryz.prog.underlying ty = some (.slice e)) (hi : (Tryz.prog.info? e).map (fun i => (i.zero, i.size, i.bytes)) = some (some z, 1, bts)) (hz : z.cells = #[z]) (hb : bts ≤ 24) (n : Nat) (h : n ≤ 1048576) (u : World) :
    (Instr.makeSlice ty (.int .i64 (n : Int)) (.int .i64 (n : Int))).run Tryz.prog u = .ok (.slice (some ⟨u.heap.size, 0, none⟩) n n) (u.alloc (.cells (Array.replicate n z) e)) := by
  obtain ⟨i0, hi, hz0, hz1, hz2⟩ := info_parts hi
  have h := run_make (P := Tryz.prog) u ty e i0 z hu hi hz0 .i64 .i64 (n : Int) (n : Int) (by omega) (Int.le_refl _) (by rw [hz2]; have : n * bts ≤ n * 24 := Nat.mul_le_mul_left n hb; have := Nat.mul_comm n bts; simp; omega) (by omega)
  have e : madeCells #[z] n = Array.replicate n z := by
    apply Array.toList_inj.1
    rw [toList_madeCells_one]
    simp
  rw [← e]
  simpa [hz1, hz] using h
theorem four (w : World) (o1 o2 o3 o4 : Obj) : ((((w.alloc o1).alloc o2).alloc o3).alloc o4).heap[w.heap.size]? = some o1 ∧ ((((w.alloc o1).alloc o2).alloc o3).alloc o4).heap[w.heap.size + 1]? = some o2 ∧ ((((w.alloc o1).alloc o2).alloc o3).alloc o4).heap[w.heap.size + 1 + 1]? = some o3 ∧ ((((w.alloc o1).alloc o2).alloc o3).alloc o4).heap[w.heap.size + 1 + 1 + 1]? = some o4 := by
  have a1 : ∀ {u : World} {o : Obj} {k : Nat} {x : Option Obj}, k < u.heap.size → u.heap[k]? = x → (u.alloc o).heap[k]? = x := fun h e => (Below.heap_alloc _ _ _ h).trans e
  have n2 := heap_alloc_new (w.alloc o1) o2
  have n3 := heap_alloc_new ((w.alloc o1).alloc o2) o3
  have n4 := heap_alloc_new (((w.alloc o1).alloc o2).alloc o3) o4
  simp only [World.size_alloc] at n2 n3 n4
  exact ⟨a1 (by simp; omega) (a1 (by simp; omega) (a1 (by simp) (heap_alloc_new w o1))), a1 (by simp) (a1 (by simp) n2), a1 (by simp) n3, n4⟩
/-- as it is made, in a world whose memory only grew -/
def ZN0 (w : World) (F : Nat → Prop) (q rm : Nat) (pv : Value) (ll : List (List Plan)) (A : Mem) (wx : World) : Prop := ∃ lab cg ag gg, ZX wx lab q rm ll.length pv (znew ll A 0) cg ag gg (.slice none 0 0) (.slice none 0 0) (List.replicate ll.length (.slice none 0 0)) ∧ (∀ k, lab k ≠ 0 → F k ∨ w.heap.size ≤ k) ∧ Fr F w wx
theorem znew_four (hF : RM w F rm false A) (hlt : ∀ k, F k → k < w.heap.size) {o1 o2 o3 : Obj} {cg ag gg : Nat}
    (h : (cg = w.heap.size ∨ cg = w.heap.size + 1 ∨ cg = w.heap.size + 1 + 1) ∧ (ag = w.heap.size ∨ ag = w.heap.size + 1 ∨ ag = w.heap.size + 1 + 1) ∧ (gg = w.heap.size ∨ gg = w.heap.size + 1 ∨ gg = w.heap.size + 1 + 1) ∧ cg ≠ ag)
    (bc : ((((w.alloc o1).alloc o2).alloc o3).alloc (.cells (zcs rm pv ll.length cg ag gg 0 (.slice none 0 0) (.slice none 0 0)) 101)).heap[cg]? = some (.cells (Array.replicate ll.length (.int .i64 0)) 3))
    (ba : ((((w.alloc o1).alloc o2).alloc o3).alloc (.cells (zcs rm pv ll.length cg ag gg 0 (.slice none 0 0) (.slice none 0 0)) 101)).heap[ag]? = some (.cells (Array.replicate ll.length (.int .i64 0)) 3))
    (bg : ((((w.alloc o1).alloc o2).alloc o3).alloc (.cells (zcs rm pv ll.length cg ag gg 0 (.slice none 0 0) (.slice none 0 0)) 101)).heap[gg]? = some (.cells (Array.replicate ll.length (.slice none 0 0)) 107)) :
    ZN0 w F (w.heap.size + 1 + 1 + 1) rm pv ll A ((((w.alloc o1).alloc o2).alloc o3).alloc (.cells (zcs rm pv ll.length cg ag gg 0 (.slice none 0 0) (.slice none 0 0)) 101)) := by
  have f : Fr (fun _ => False) w ((((w.alloc o1).alloc o2).alloc o3).alloc (.cells (zcs rm pv ll.length cg ag gg 0 (.slice none 0 0) (.slice none 0 0)) 101)) := ((((Fr.refl _ w).alloc _).alloc _).alloc _).alloc _
  obtain ⟨lab, hz, hl⟩ := znew_at hF hlt h.2.2.2 f (by omega) (four w o1 o2 o3 _).2.2.2 bc ba bg
  refine ⟨lab, cg, ag, gg, hz, fun k hk => ?_, f.mono (fun _ _ e => e.elim)⟩
  rcases hl k hk with e | e | e | e | e
  · right; omega
  · right; omega
  · right; omega
  · right; omega
  · exact .inl e
theorem ZN0.drew (h : ZN0 w F q rm pv ll A w1) : ZN0 w F q rm pv ll A w1.drew := by
  obtain ⟨lab, cg, ag, gg, h1, h2, h3⟩ := h
  exact ⟨lab, cg, ag, gg, h1.drawn 1, h2, h3.drawn 1⟩
theorem infoUL2 : (Tryz.prog.info? 107).map (fun i => (i.zero, i.size, i.bytes)) = some (some (.slice none 0 0), 1, 24) := by kernel_rfl
set_option maxHeartbeats 2000000 in
set_option maxRecDepth 100000 in
theorem RNew04_any (hF : RM w F rm false A) (hlt : ∀ k, F k → k < w.heap.size) (hFw : ∀ k, F k → w0.heap.size ≤ k) (hp : PlansAt w0 pv ll) (hb : Below w0.heap.size w0 w) (hA : A.Fit) (ht : A.trace.length ≤ 1) (hn : ll.length ≤ 1048576) (hl : ∀ l ∈ ll, l.length ≤ 1048576) :
    Calls Tryz.prog 25 #[.pointer (some ⟨rm, 0, none⟩), pv] w fun e w' => (tooMany ll = true ∧ e = .returned (.tuple #[.pointer none, .int .i64 6]) ∧ w = w') ∨ (tooMany ll = false ∧ ∃ q lab, e = .returned (.tuple #[.pointer (some ⟨q, 0, none⟩), .int .i64 0]) ∧ ZR w0 w' lab q rm ll (St.start ll A) ∧ (∀ k, lab k ≠ 0 → F k ∨ w.heap.size ≤ k) ∧ Fr F w w') := by
  obtain ⟨pp, pc, rfl, _, hth⟩ := hp
  have HTH := Lib.hid hth
  have HF := Lib.hid (And.intro hF (And.intro hlt hFw))
  have HB := Lib.hid hb
  have HL := Lib.hid hl
  have HA := Lib.hid hA
  clear hth hF hlt hFw hb hl hA
  by_cases h64 : 64 < ll.length
  · have t1 : decide (64 < (ll.length : Int)) = true := by simp; omega
    have t2 : decide (64 < ll.length) = true := by simpa using h64
    go_enter Tryz.func25, Tryz.ntmps25
    go_wp2_with fail
    go_ret2
    exact .inl ⟨by unfold tooMany; rw [t2]; rfl, rfl, rfl⟩
  · have t1 : decide (64 < (ll.length : Int)) = false := by simp; omega
    have t2 : decide (64 < ll.length) = false := by simpa using h64
    go_enter Tryz.func25, Tryz.ntmps25
    go_wp2_with fail
    go_loop [6] (fun s6 => ∃ t : Nat, s6 = .int .i64 t ∧ t ≤ ll.length ∧ Hid (∀ (j : Nat) l, j < t → ll[j]? = some l → l.length ≤ 4096)) (fun s6 => ll.length - (intOf s6).toNat)
    case atStart => exact ⟨0, rfl, Nat.zero_le _, fun j l hj => by omega⟩
    case round =>
      obtain ⟨t, rfl, htl, HI⟩ := hrel
      by_cases hlt : t < ll.length
      · obtain ⟨l, hl⟩ : ∃ l, ll[t]? = some l := ⟨_, List.getElem?_eq_getElem hlt⟩
        obtain ⟨b, o, v, rfl, hbl, hc, hpa⟩ := HTH.out t l hl
        obtain ⟨qp, qc, rfl, -, -⟩ := hpa
        have c1 : w.cell? ⟨b, o + t, none⟩ = some (.slice qp l.length qc) := (HB.out.cell (p := ⟨b, _, none⟩) hbl).trans hc
        have HLL := Lib.hid hl
        clear hl hc
        by_cases hov : 4096 < l.length
        · have t3 : decide (4096 < (l.length : Int)) = true := by simp; omega
          have t4 : decide (4096 < l.length) = true := by simpa using hov
          have HT : Hid (tooMany ll = true) := by
            show _ = _
            unfold tooMany
            rw [Bool.or_eq_true]
            exact .inr (List.any_eq_true.2 ⟨l, List.mem_of_getElem? HLL.out, t4⟩)
          go_wp2_with fail
          go_ret2
          exact .inl ⟨HT.out, rfl, rfl⟩
        · have t3 : decide (4096 < (l.length : Int)) = false := by simp; omega
          have t4 : decide (4096 < l.length) = false := by simpa using hov
          have HII : Hid (∀ (j : Nat) l, j < t + 1 → ll[j]? = some l → l.length ≤ 4096) := by
            intro j l' hj hl'
            by_cases e : j = t
            · subst e; rw [HLL.out] at hl'; injection hl' with hl'; subst hl'; omega
            · exact HI.out j l' (by omega) hl'
          go_wp2_with fail
          go_round
          case rel => exact ⟨t + 1, by go_num, by omega, HII⟩
          case measure => simp [intOf]; omega
      · obtain rfl : t = ll.length := by omega
        have HT : Hid (tooMany ll = false) := by
          show _ = _
          unfold tooMany
          rw [t2, Bool.false_or, List.any_eq_false]
          intro l hl
          obtain ⟨j, hj, rfl⟩ := List.getElem_of_mem hl
          have := HI.out j _ hj (List.getElem?_eq_getElem hj)
          simp; omega
        have n0 : (0 : Int) ≤ (ll.length : Int) := by omega
        have hmk1 := fun u => run_mk Tryz.underlying23 infoI rfl (by decide) ll.length hn u
        have hmk2 := fun u => run_mk Tryz.underlying33 infoUL2 rfl (by decide) ll.length hn u
        go_upto_region 10 with fail
        go_cut [7] (fun s7 wx => ∃ q, s7 = .pointer (some ⟨q, 0, none⟩) ∧ Hid (ZN0 w F q rm (.slice pp ll.length pc) ll A wx))
        case first =>
          have HZ := Lib.hid (fun o1 o2 o3 cg ag gg => znew_four (pv := .slice pp ll.length pc) (ll := ll) (o1 := o1) (o2 := o2) (o3 := o3) (cg := cg) (ag := ag) (gg := gg) HF.out.1 HF.out.2.1)
          have H4 := Lib.hid (four w)
          go_region_held3 (fun _ => True) (exact trivial) (fail)
          all_goals
            go_wp2_with fail
            go_meet
            refine ⟨_, rfl, ZN0.drew (HZ.out _ _ _ _ _ _ ⟨?_, ?_, ?_, ?_⟩ ?_ ?_ ?_)⟩
            · omega
            · omega
            · omega
            · omega
            · first | exact (H4.out _ _ _ _).1 | exact (H4.out _ _ _ _).2.1 | exact (H4.out _ _ _ _).2.2.1
            · first | exact (H4.out _ _ _ _).1 | exact (H4.out _ _ _ _).2.1 | exact (H4.out _ _ _ _).2.2.1
            · first | exact (H4.out _ _ _ _).1 | exact (H4.out _ _ _ _).2.1 | exact (H4.out _ _ _ _).2.2.1
        case rest =>
          obtain ⟨q, rfl, HZ⟩ := hcut
          generalize wc = w1 at *
          go_wp2_with fail
          go_loopw [8] (fun s8 wr => ∃ k : Nat, s8 = .int .i64 k ∧ k ≤ A.trace.length ∧ Hid (∃ lab cg ag gg wv, ZX wr lab q rm ll.length (.slice pp ll.length pc) (znew ll A k) cg ag gg (.slice none 0 0) wv (List.replicate ll.length (.slice none 0 0)) ∧ (∀ k, lab k ≠ 0 → F k ∨ w.heap.size ≤ k) ∧ Fr F w wr)) (fun s8 _ => A.trace.length - (intOf s8).toNat)
          case atStart =>
            obtain ⟨lab, cg, ag, gg, h1, h2, h3⟩ := HZ.out
            exact ⟨0, rfl, Nat.zero_le _, lab, cg, ag, gg, _, h1, h2, h3⟩
          case round =>
            obtain ⟨k, rfl, hk, HK⟩ := hrel
            obtain ⟨lab, cg, ag, gg, wv, hz, hlab, hbel⟩ := HK.out
            obtain ⟨r, tv, rows, rx⟩ := hz.mem
            have rx : RMx wr (fun k => lab k = 1) rm r tv rows false A := rx
            obtain ⟨tp, tc, e⟩ := bk_form rx.own
            have hrl := rx.len
            have g1 : wr.cell? ⟨rm, 2, none⟩ = some (.slice tp A.trace.length tc) := by rw [← hrl, ← e]; exact rx.bM.cell 2
            have HZK := Lib.hid (And.intro hz (And.intro hlab hbel))
            obtain ⟨wp, wc2, ew⟩ := bk_form hz.who
            have hkl : (znew ll A k).wh.length = k := by simp [znew]
            rw [hkl] at ew
            subst ew
            have g6 : wr.cell? ⟨q, 6, none⟩ = some (.slice wp k wc2) := hz.blk.cell 6
            have hql : q < wr.heap.size := hz.blk.lt
            have g6n : ∀ o', (wr.alloc o').cell? ⟨q, 6, none⟩ = some (.slice wp k wc2) := fun o' => (World.cell?_alloc_lt wr o' _ hql).trans g6
            clear hz hlab hbel rx hrl e hkl
            by_cases hkt : k < A.trace.length
            · have HOWN : Hid (∀ o', (wr.alloc o').ownsRow 0 3 1 (.slice wp k wc2) k (is64 (List.replicate k (-1)))) := fun o' => by
                have := own_fr HZK.out.1.who ((Fr.refl (fun _ => False) wr).alloc o') (fun _ _ e => e)
                simpa [znew] using this
              have HE : Hid (∀ g cap w8, w8.ownsRow 0 3 1 (.slice (some ⟨g, 0, none⟩) (k + 1) cap) (k + 1) (is64 (List.replicate k (-1)) ++ [.int .i64 (-1)]) → (wr.alloc (.cells #[.int .i64 (-1)] 3)).grownBy w8 (Value.slice wp k wc2).ownBlock → ((Value.slice wp k wc2).ownBlock = some g ∨ g = (wr.alloc (.cells #[.int .i64 (-1)] 3)).heap.size) →
                  w8.cell? ⟨q, 6, none⟩ = some (.slice wp k wc2) ∧ w8.frozen? ⟨q, 6, none⟩ = false ∧ Hid (∃ lab cg ag gg wv, ZX (w8.setCell ⟨q, 6, none⟩ (.slice (some ⟨g, 0, none⟩) (k + 1) cap)) lab q rm ll.length (.slice pp ll.length pc) (znew ll A (k + 1)) cg ag gg (.slice none 0 0) wv (List.replicate ll.length (.slice none 0 0)) ∧ (∀ k, lab k ≠ 0 → F k ∨ w.heap.size ≤ k) ∧ Fr F w (w8.setCell ⟨q, 6, none⟩ (.slice (some ⟨g, 0, none⟩) (k + 1) cap)))) := by
                intro g cap w8 hown8 hgrow8 hat8
                obtain ⟨hz, hlab, hbel⟩ := HZK.out
                have hkl : (znew ll A k).wh.length = k := by simp [znew]
                obtain ⟨r1, r2, lab8, z8, k8⟩ := hz.whence (y := (-1 : Int)) (c := cap) (g := g) ((Fr.refl (fun _ => False) wr).alloc _) (by rw [hkl]; exact hown8) hgrow8 (hat8.imp id fun e => by rw [e]; simp)
                rw [hkl] at z8 k8
                have hzn : ({ znew ll A k with wh := (znew ll A k).wh ++ [-1] } : Zs) = znew ll A (k + 1) := by simp [znew, List.replicate_succ']
                rw [hzn] at z8
                have hf9 : Fr F w (w8.setCell ⟨q, 6, none⟩ (.slice (some ⟨g, 0, none⟩) (k + 1) cap)) :=
                  ⟨k8.fr.os.trans hbel.os, k8.fr.tape.trans hbel.tape, k8.fr.output.trans hbel.output, Nat.le_trans hbel.size k8.fr.size, fun j hj hn => (k8.fr.block j (Nat.lt_of_lt_of_le hj hbel.size) (fun e => by rcases hlab j e with h1 | h1; exact hn h1; omega)).trans (hbel.block j hj hn)⟩
                refine ⟨r1, r2, lab8, cg, ag, gg, _, z8, fun j hj => ?_, hf9⟩
                rcases Nat.lt_or_ge j wr.heap.size with h1 | h1
                · rw [k8.ag j h1] at hj; exact hlab j hj
                · right; have := hbel.size; omega
              obtain ⟨i0, hi0, hz0, hz1, hz2⟩ := info_parts infoI
              go_wp2_with (at_builtin; refine wpList_append_lies _ rfl _ _ 23 rfl 0 3 i0 _ 1 8 Tryz.underlying23 hi0 hz0 hz1 hz2 rfl (by decide) _ k _ rfl (HOWN.out _) ⟨wr.heap.size, 0, none⟩ 1 1 [.int .i64 (-1)] rfl rfl (cell_one_new _ _ _) (by simp [Value.oneCell']) (by decide) (by unfold maxLen; omega) (by omega) (Nat.zero_le _) (wr.heap.size + 1) (by simp) ?_; intro g cap w8 hown8 hgrow8 hat8 _; obtain ⟨q1, q2, HQ⟩ := HE.out g cap w8 hown8 hgrow8 (hat8.imp id fun e => by rw [e]; simp); clear hown8 hgrow8 hat8)
              go_round
              case rel => exact ⟨k + 1, by go_num, by omega, HQ⟩
              case measure => simp [intOf]; omega
            · obtain rfl : k = A.trace.length := by omega
              have HF2 : Hid (∃ lab, ZR w0 wr lab q rm ll (St.start ll A) ∧ (∀ k, lab k ≠ 0 → F k ∨ w.heap.size ≤ k) ∧ Fr F w wr) := by
                obtain ⟨hz, hlab, hbel⟩ := HZK.out
                have he : znew ll A A.trace.length = (St.start ll A).z := by
                  unfold znew St.start St.z
                  simp only [List.map_map]
                  congr 1
                  · exact (List.map_const' ..).symm
                  · exact (List.map_const' ..).symm
                  · have : ((fun x : TS => x.got.flatten) ∘ fun l : List Plan => (⟨0, 0, List.replicate l.length []⟩ : TS)) = fun _ => [] := by
                      funext l
                      exact flat_rep _
                    rw [this]
                    exact (List.map_const' ..).symm
                rw [he] at hz
                have hb0 := HB.out
                have hpl : ∀ k, lab k ≠ 0 → w0.heap.size ≤ k := fun k hk => by
                  rcases hlab k hk with h1 | h1
                  · exact HF.out.2.2 k h1
                  · have := hb0.size; omega
                exact ⟨lab, ⟨⟨_, cg, ag, gg, _, _, _, hz, ⟨pp, pc, rfl, by assumption, HTH.out⟩⟩, hb0.trans (hbel.to_below hb0.size fun k hk e => by have := HF.out.2.2 k e; omega), start_ok HA.out ht, hpl⟩, hlab, hbel⟩
              go_wp2_with fail
              go_ret2
              obtain ⟨lab, k1, k2, k3⟩ := HF2.out
              exact .inr ⟨HT.out, q, lab, rfl, k1, k2, k3⟩
end
end Go.Proofs.YtkaplifhaafpdaaGreat
end

/-
  What the document's runner tells: its events, steps, where accesses were made; are all done; who is pending. No condition.
-/
import Derived.Test.YtkaplifhaafpdaaM18
import Derived.Test.YtkaplifhaafpdaaM14
namespace Go.Proofs.Ytkaplifhaafpdaa
open Go Go.RowKit
set_option linter.unusedSimpArgs false
set_option linter.unusedVariables false
def St.done (ll : List (List Plan)) (s : St) : Bool := (List.range ll.length).all fun t => s.idle ll ((t : Nat) : Int)
def pend : Nat → List TS → List Int
  | _, [] => []
  | t, x :: l => (if x.at_ = 0 then [] else [(t : Int)]) ++ pend (t + 1) l
def St.pending (s : St) : List Int := pend 0 s.th
theorem pend_len : ∀ (t : Nat) (l : List TS), (pend t l).length ≤ l.length
  | t, [] => by simp [pend]
  | t, x :: l => by
    have := pend_len (t + 1) l
    simp only [pend, List.length_append, List.length_cons]
    split <;> simp <;> omega
theorem pend_app : ∀ (t : Nat) (l : List TS) (x : TS), pend t (l ++ [x]) = pend t l ++ (if x.at_ = 0 then [] else [((t + l.length : Nat) : Int)])
  | t, [], x => by simp [pend]
  | t, y :: l, x => by
    have := pend_app (t + 1) l x
    simp only [List.cons_append, pend, this, List.append_assoc, List.length_cons]
    rw [show t + 1 + l.length = t + (l.length + 1) from by omega]
theorem pend_next {l : List TS} {t : Nat} {x : TS} (h : l[t]? = some x) : pend 0 (l.take (t + 1)) = pend 0 (l.take t) ++ (if x.at_ = 0 then [] else [(t : Int)]) := by
  have ht := (List.getElem?_eq_some_iff.1 h).1
  rw [List.take_add_one, h]
  have := pend_app 0 (l.take t) x
  simp only [Option.toList_some, this, List.length_take]
  rw [Nat.min_eq_left (by omega), Nat.zero_add]
section
variable {w0 w w1 : World} {lab : Nat → Nat} {q rm cg ag gg t : Nat} {pv ev wv : Value} {ll : List (List Plan)} {s : St} {gvs : List Value}
theorem REvents_any (h : ZR w0 w lab q rm ll s) : Calls Try.prog 60 #[.pointer (some ⟨q, 0, none⟩)] w fun e w' => ∃ v, e = .returned v ∧ w.ownsRow 0 137 4 v s.evs.length (s.evs.flatMap evC) ∧ w = w' := by
  obtain ⟨⟨pv, cg, ag, gg, ev, wv, gvs, h, hp⟩, hb, ok, -⟩ := h
  have c : w.cell? ⟨q, 5, none⟩ = some ev := h.blk.cell 5
  have HO := Lib.hid h.evo
  clear h hp hb ok
  go_enter Try.func60, Try.ntmps60
  go_wp2_with fail
  go_ret
  exact ⟨_, rfl, HO.out, rfl⟩
theorem RSteps_any (h : ZR w0 w lab q rm ll s) : Calls Try.prog 61 #[.pointer (some ⟨q, 0, none⟩)] w fun e w' => e = .returned (.int .i64 s.steps) ∧ w = w' := by
  obtain ⟨⟨pv, cg, ag, gg, ev, wv, gvs, h, hp⟩, hb, ok, -⟩ := h
  have c : w.cell? ⟨q, 4, none⟩ = some (.int .i64 s.steps) := h.blk.cell 4
  clear h hp hb ok
  go_enter Try.func61, Try.ntmps61
  go_wp2_with fail
  go_ret
  exact ⟨rfl, rfl⟩
theorem RAt_any (h : ZR w0 w lab q rm ll s) : Calls Try.prog 63 #[.pointer (some ⟨q, 0, none⟩)] w fun e w' => ∃ v, e = .returned v ∧ w.ownsRow 0 3 1 v s.wh.length (is64 s.wh) ∧ w = w' := by
  obtain ⟨⟨pv, cg, ag, gg, ev, wv, gvs, h, hp⟩, hb, ok, -⟩ := h
  have c : w.cell? ⟨q, 6, none⟩ = some wv := h.blk.cell 6
  have HO := Lib.hid h.who
  clear h hp hb ok
  go_enter Try.func63, Try.ntmps63
  go_wp2_with fail
  go_ret
  exact ⟨_, rfl, HO.out, rfl⟩
theorem ZR.plan_cell (h : ZR w0 w lab q rm ll s) : ∃ p c, w.cell? ⟨q, 1, none⟩ = some (.slice p ll.length c) := by
  obtain ⟨⟨pv, cg, ag, gg, ev, wv, gvs, h, hp⟩, hb, ok, -⟩ := h
  obtain ⟨p, c, rfl, -⟩ := hp
  exact ⟨p, c, h.blk.cell 1⟩
set_option maxRecDepth 100000 in
theorem RDone_any (h : ZR w0 w lab q rm ll s) (hn : Fits ll) : Calls Try.prog 65 #[.pointer (some ⟨q, 0, none⟩)] w fun e w' => e = .returned (.bool (s.done ll)) ∧ ∃ n, w' = w.drewN n := by
  have H := Lib.hid h
  have HN := Lib.hid hn
  have hll := hn.n
  clear h hn
  go_enter Try.func65, Try.ntmps65
  go_wp2_with fail
  go_loopw [3] (fun s3 wr => ∃ t : Nat, s3 = .int .i64 t ∧ t ≤ ll.length ∧ Hid ((∃ n, wr = w.drewN n) ∧ ∀ j, j < t → s.idle ll ((j : Nat) : Int) = true)) (fun s3 _ => ll.length - (intOf s3).toNat)
  case atStart => exact ⟨0, rfl, Nat.zero_le _, ⟨0, rfl⟩, fun j hj => by omega⟩
  case round =>
    obtain ⟨t, rfl, ht, HI⟩ := hrel
    obtain ⟨n, hw⟩ := HI.out.1
    have hr : ZR w0 wr lab q rm ll s := by rw [hw]; exact H.out.drawn n
    obtain ⟨p, c, c1⟩ := hr.plan_cell
    have HR := Lib.hid hr
    have HL := Lib.hid (left_any hr HN.out t)
    have HW := Lib.hid hw
    clear hw hr
    by_cases hlt : t < ll.length
    · cases hi : s.idle ll (t : Int)
      · have HD : Hid (s.done ll = false) := by
          show _ = _
          unfold St.done
          rw [List.all_eq_false]
          exact ⟨t, List.mem_range.2 hlt, by simp [hi]⟩
        rw [hi] at HL
        clear hi
        go_wp2_with fail
        refine HL.out.mono ?_
        rintro e w2 ⟨rfl, m, rfl⟩
        go_wp2_with fail
        go_ret
        exact ⟨by rw [HD.out]; rfl, n + m, by rw [HW.out]; simp [World.drewN, Nat.add_assoc]⟩
      · have HII : Hid (∀ j, j < t + 1 → s.idle ll ((j : Nat) : Int) = true) := fun j hj => by
          by_cases e : j = t
          · subst e; exact hi
          · exact HI.out.2 j (by omega)
        rw [hi] at HL
        clear hi
        go_wp2_with fail
        refine HL.out.mono ?_
        rintro e w2 ⟨rfl, m, rfl⟩
        go_wp2_with fail
        go_round
        case rel => exact ⟨t + 1, by go_num, by omega, ⟨n + m, by rw [HW.out]; simp [World.drewN, Nat.add_assoc]⟩, HII.out⟩
        case measure => simp [intOf]; omega
    · obtain rfl : t = ll.length := by omega
      have HD : Hid (s.done ll = true) := by
        show _ = _
        unfold St.done
        rw [List.all_eq_true]
        intro j hj
        exact HI.out.2 j (List.mem_range.1 hj)
      go_wp2_with fail
      go_ret
      exact ⟨by rw [HD.out]; rfl, n, HW.out⟩
theorem ZR.at_cell (h : ZR w0 w lab q rm ll s) : ∃ ag, w.cell? ⟨q, 3, none⟩ = some (.slice (some ⟨ag, 0, none⟩) ll.length ll.length) ∧ ∀ (t : Nat) x, s.th[t]? = some x → w.cell? ⟨ag, t, none⟩ = some (.int .i64 x.at_) := by
  obtain ⟨⟨pv, cg, ag, gg, ev, wv, gvs, h, hp⟩, hb, ok, -⟩ := h
  exact ⟨ag, h.blk.cell 3, fun t x hx => h.acell (by simp [St.z, hx])⟩
theorem ZR.bl (h : ZR w0 w lab q rm ll s) (hb : Below w.heap.size w w1) : ZR w0 w1 lab q rm ll s :=
  h.fr (Fr.of_below (S := fun _ => False) hb) (fun _ _ e => e) (fun _ _ e => e)
set_option maxRecDepth 100000 in
theorem RPending_any (h : ZR w0 w lab q rm ll s) (hn : Fits ll) (h0 : w0.heap.size ≤ w.heap.size) : Calls Try.prog 64 #[.pointer (some ⟨q, 0, none⟩)] w fun e w' => ∃ v, e = .returned v ∧ w'.ownsRow w.heap.size 3 1 v s.pending.length (is64 s.pending) ∧ Below w.heap.size w w' := by
  have H := Lib.hid h
  have HN := Lib.hid hn
  have hll := hn.n
  have htl := h.ok.tl
  clear h hn
  have hpl := pend_len 0 s.th
  go_enter Try.func64, Try.ntmps64
  go_wp2_with fail
  go_loopw [3, 4] (fun s3 s4 wr => ∃ t : Nat, s4 = .int .i64 t ∧ t ≤ ll.length ∧ Hid (wr.ownsRow w.heap.size 3 1 s3 (pend 0 (s.th.take t)).length (is64 (pend 0 (s.th.take t))) ∧ Below w.heap.size w wr)) (fun _ s4 _ => ll.length - (intOf s4).toNat)
  case atStart => exact ⟨0, rfl, Nat.zero_le _, World.ownsRow_nil _ _ _ _, Below.refl _ _⟩
  case round =>
    obtain ⟨t, rfl, ht, HI⟩ := hrel
    have hr : ZR w0 wr lab q rm ll s := H.out.bl HI.out.2
    obtain ⟨p, c, c1⟩ := hr.plan_cell
    obtain ⟨ag, c2, hag⟩ := hr.at_cell
    have HR := Lib.hid hr
    clear hr
    by_cases hlt : t < ll.length
    · obtain ⟨x, hx⟩ : ∃ x, s.th[t]? = some x := ⟨_, List.getElem?_eq_getElem (by omega)⟩
      have c3 := hag t x hx
      have HPN := Lib.hid (pend_next hx)
      clear hag
      have hpt : (pend 0 (s.th.take t)).length ≤ 64 := by have := pend_len 0 (s.th.take t); rw [List.length_take] at this; omega
      generalize pend 0 (s.th.take t) = pl at *
      by_cases hx0 : x.at_ = 0
      · have t1 : decide (0 < (x.at_ : Int)) = false := by simp [hx0]
        have t2 : decide (0 < x.at_) = false := by simp [hx0]
        have t3 : ¬ 0 < x.at_ := by omega
        have HII : Hid (wr.ownsRow w.heap.size 3 1 u3 (pend 0 (s.th.take (t + 1))).length (is64 (pend 0 (s.th.take (t + 1)))) ∧ Below w.heap.size w wr) := by
          rw [HPN.out, if_pos hx0, List.append_nil]
          exact HI.out
        clear hx hx0
        go_wp2_with fail
        go_round
        case rel => exact ⟨t + 1, by go_num, by omega, HII⟩
        case measure => simp [intOf]; omega
      · have t1 : decide (0 < (x.at_ : Int)) = true := by simp; omega
        have t2 : decide (0 < x.at_) = true := by simp; omega
        have t3 : 0 < x.at_ := by omega
        obtain ⟨sp, sc, e⟩ := bk_form HI.out.1
        subst e
        have HOWN : Hid (∀ o', (wr.alloc o').ownsRow w.heap.size 3 1 (.slice sp pl.length sc) pl.length (is64 pl)) := fun o' => own_fr HI.out.1 ((Fr.refl (fun _ => False) wr).alloc o') (fun _ _ e => e)
        have HE : Hid (∀ v' w5, w5.ownsRow w.heap.size 3 1 v' (pl.length + 1) (is64 pl ++ [.int .i64 (t : Int)]) → (wr.alloc (.cells #[.int .i64 (t : Int)] 3)).grownBy w5 (Value.slice sp pl.length sc).ownBlock → w5.ownsRow w.heap.size 3 1 v' (pend 0 (s.th.take (t + 1))).length (is64 (pend 0 (s.th.take (t + 1)))) ∧ Below w.heap.size w w5) := by
          intro v' w5 ho hg
          have hB : Below w.heap.size w w5 := by
            have f : Fr (fun b => (Value.slice sp pl.length sc).ownBlock = some b) wr w5 := ((Fr.refl (fun b => (Value.slice sp pl.length sc).ownBlock = some b) wr).alloc _).grown hg (fun k e => .inl e)
            exact HI.out.2.trans (f.to_below HI.out.2.size fun k hk e => by have := own_ge HI.out.1 e; omega)
          refine ⟨?_, hB⟩
          rw [HPN.out, if_neg hx0]
          simpa [is64] using ho
        have hsz := HI.out.2.size
        clear hx hx0
        go_wp2_with (at_builtin; (refine app_one infoI Try.underlying46 rfl (by decide) rfl _ _ rfl rfl (HOWN.out _) rfl (by simp) rfl (by omega) hsz ?_; intro v5 w5 ho5 hg5 _; have HI5 := Lib.hid (HE.out _ _ ho5 hg5); clear ho5 hg5))
        go_round
        case rel => exact ⟨t + 1, by go_num, by omega, HI5⟩
        case measure => simp [intOf]; omega
    · obtain rfl : t = ll.length := by omega
      have HF : Hid (wr.ownsRow w.heap.size 3 1 u3 s.pending.length (is64 s.pending) ∧ Below w.heap.size w wr) := by
        have := HI.out
        rw [← htl, List.take_length] at this
        exact this
      go_wp2_with fail
      go_ret
      exact ⟨_, rfl, HF.out⟩
end
end Go.Proofs.Ytkaplifhaafpdaa

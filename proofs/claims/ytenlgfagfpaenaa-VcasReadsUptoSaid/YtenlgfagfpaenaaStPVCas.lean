/-
  A pick of a thread whose next proc is a VCas. No condition.
-/
import Derived.Test.YtenlgfagfpaenaaStF
namespace Go.Proofs.Ytenlgfagfpaenaa
open Go Go.RowKit
set_option linter.unusedSimpArgs false
set_option linter.unusedVariables false
section
variable {w0 w w' w1 w2 : World} {R S G E E' U : Nat → Prop} {Env Env' : (Nat → Prop) → World → Prop} {rp bm made made' pb v : Nat} {vws : List Nat} {T T' : List Thr} {steps steps' : Nat} {evs evs' : List Ev} {ats ats' : List Int} {d : Bool}
set_option maxHeartbeats 4000000 in
set_option maxRecDepth 100000 in
theorem Pick_VCas (h : PJ w0 w R E Env rp bm vws T steps evs ats) (ok : EnvOK w0 bm Env made) (ok' : EnvOK w0 bm Env' made') {t : Nat} {x : Thr} (hx : T[t]? = some x) (hi : x.pos < x.procs.length) (hp : x.procs[x.pos]? = some (.iface 43 (.pointer (some ⟨pb, 0, none⟩)))) (hv : vws[t]? = some v)
    (hn : T.length ≤ 1000000) (hpl : ∀ x ∈ T, x.procs.length ≤ 1000000) (hs : steps ≤ 100000000) (he : evs.length ≤ 100000000) (ha : ats.length ≤ 100000000) (hm : made ≤ 100000000) (hm' : made' ≤ 100000000)
    (hstep : ∀ E w1, Env E w1 → Calls Try.prog 21 #[.pointer (some ⟨pb, 0, none⟩), .pointer (some ⟨v, 0, none⟩)] w1 fun e w' => e = .returned (.bool d) ∧ ∃ E', Env' E' w' ∧ (∀ b, b < w1.heap.size → ¬ E b → ¬ E' b) ∧ Fr E w1 w') :
    Calls Try.prog 63 #[.pointer (some ⟨rp, 0, none⟩), .int .i64 (t : Int)] w fun e w' => e = .returned (.bool true) ∧ PS w0 w w' (fun k => R k ∨ E k) Env' rp bm vws (pickT T t x d) (steps + 1) (pickE evs steps t x d) (noted ats steps made made') := by
  have HB := Lib.hid (h.bumped ok (steps + 1))
  have HI := Lib.hid (h.idle_not ok hx hi hn hpl (steps + 1))
  obtain ⟨c1, f1⟩ := h.stepcell
  have hxl := hpl x (List.mem_of_getElem? hx)
  clear h hpl
  go_enter Try.func63, Try.ntmps63
  go_wp2_with fail
  refine HI.out.mono ?_
  rintro e w2 ⟨rfl, n, rfl⟩
  have HP := Lib.hid (HB.out.drawn ok n)
  clear HB HI c1 f1
  generalize (w.setCell _ _).drewN n = w2 at *
  obtain ⟨R2, E2, j2, k2, f2⟩ := HP.out
  obtain ⟨⟨cs, tv, ev, av, hr⟩, hp2⟩ := j2.ro
  obtain ⟨tg, tc, ep, ec, e1, e2, S2⟩ := hr.sees hx hp hv
  subst e1 e2
  have L2 : Hid (Lk w w2 (fun k => R k ∨ E k) (fun k => R2 k ∨ E2 k)) := ⟨k2, f2⟩
  have HJ2 := Lib.hid j2
  have HR2 := Lib.hid hr
  have HP2 := Lib.hid hp2
  have HS2 := Lib.hid S2
  have htl : t < T.length := (List.getElem?_eq_some_iff.1 hx).1
  have d1 := S2.th
  have d2 := S2.op
  have d3 := S2.cold (t * 3 + 2)
  have d4 := S2.ev
  have d5 := S2.pos
  have d6 := S2.coldr 67
  have HX := Lib.hid hx
  have HPX := Lib.hid hp
  have HVX := Lib.hid hv
  have hne : tg ≠ rp := fun e => own_ne hr.thr hr.blk (by decide) (by rw [e]; rfl)
  clear j2 hr hp2 S2 k2 f2 hx hp hv
  go_upto_if 35 with fail
  go_cut [] (fun wx => Hid (PS w0 w2 wx (fun k => R2 k ∨ E2 k) Env rp bm vws (T.set t { x with op := true }) (steps + 1) (begun evs steps t x) ats ∧ wx.cell? ⟨rp, 1, none⟩ = some (.slice (some ⟨tg, 0, none⟩) T.length tc)))
  case first =>
    cases ho : x.op
    · rw [ho] at d2
      obtain ⟨i0, hi0, hz0, hz1, hz2⟩ := info_parts infoEv
      have h3 := HJ2.out.putThr ok HR2.out (y := { x with op := true }) (j := 2) (u := .bool true) HX.out (by decide) rfl rfl rfl rfl
      have H3 := Lib.hid h3
      have q4 : (w2.setCell ⟨tg, t * 3 + 2, none⟩ (.bool true)).cell? ⟨rp, 67, none⟩ = some (.slice ep evs.length ec) := (h3.2.1.blk.cell 67).trans h3.2.1.rc.c67
      have q5 : (w2.setCell ⟨tg, t * 3 + 2, none⟩ (.bool true)).cell? ⟨tg, t * 3 + 1, none⟩ = some (.int .i64 x.pos) := (World.cell?_setCell_other _ _ _ _ (by intro e; injection e with _ e; omega)).trans d5
      have hlt3 : rp < (w2.setCell ⟨tg, t * 3 + 2, none⟩ (.bool true)).heap.size ∧ tg < (w2.setCell ⟨tg, t * 3 + 2, none⟩ (.bool true)).heap.size := ⟨h3.2.1.blk.lt, own_lt h3.2.1.thr rfl⟩
      clear h3
      go_wp2_with fail
      clear d1 d2 d3 d4 d5 d6
      generalize w2.setCell ⟨tg, t * 3 + 2, none⟩ (.bool true) = w3 at *
      have n4 : ∀ o, (w3.alloc o).cell? ⟨rp, 67, none⟩ = some (.slice ep evs.length ec) := fun o => (World.cell?_alloc_lt w3 o _ hlt3.1).trans q4
      have n5 : ∀ o, (w3.alloc o).cell? ⟨tg, t * 3 + 1, none⟩ = some (.int .i64 x.pos) := fun o => (World.cell?_alloc_lt w3 o _ hlt3.2).trans q5
      have hown1 := H3.out.2.1.evo
      have HE : Hid (∀ g cap w5, w5.ownsRow 0 182 4 (.slice (some ⟨g, 0, none⟩) (evs.length + 1) cap) (evs.length + 1) (evs.flatMap evC ++ [.int .i64 steps, .int .i64 t, .int .i64 x.pos, .bool false]) → (w3.alloc (.cells #[.int .i64 steps, .int .i64 t, .int .i64 x.pos, .bool false] 182)).drew.grownBy w5 (Value.slice ep evs.length ec).ownBlock → ((Value.slice ep evs.length ec).ownBlock = some g ∨ g = (w3.alloc (.cells #[.int .i64 steps, .int .i64 t, .int .i64 x.pos, .bool false] 182)).drew.heap.size) →
          w5.cell? ⟨rp, 67, none⟩ = some (.slice ep evs.length ec) ∧ w5.frozen? ⟨rp, 67, none⟩ = false ∧ Hid (PS w0 w2 (w5.setCell ⟨rp, 67, none⟩ (.slice (some ⟨g, 0, none⟩) (evs.length + 1) cap)) (fun k => R2 k ∨ E2 k) Env rp bm vws (T.set t { x with op := true }) (steps + 1) (begun evs steps t x) ats ∧ (w5.setCell ⟨rp, 67, none⟩ (.slice (some ⟨g, 0, none⟩) (evs.length + 1) cap)).cell? ⟨rp, 1, none⟩ = some (.slice (some ⟨tg, 0, none⟩) T.length tc)) ∧ w5.cell? ⟨tg, t * 3 + 1, none⟩ = w3.cell? ⟨tg, t * 3 + 1, none⟩) := by
        intro g cap w5 hown5 hgrow5 hat5
        obtain ⟨j3, r3, f3⟩ := H3.out
        obtain ⟨r1, r2, r3', r4⟩ := r3.evend (w0 := w0) j3.ro.pos j3.sz ⟨steps, t, x.pos, false⟩ (((Fr.refl (fun _ => False) w3).alloc _).drawn 1) hown5 hgrow5 (hat5.imp id fun e => by rw [e]; show _ ≤ (w3.alloc _).heap.size; simp)
        have hev : ∀ b, R2 b → (∃ cs, Blk w3 b 179 cs) ∨ b = rp → ∀ k, (Value.slice ep evs.length ec).ownBlock = some k → b ≠ k := by
          rintro b _ hb k hk rfl
          obtain ⟨c1, b1⟩ := bk_blk r3.evo hk
          rcases hb with ⟨cs', hb⟩ | rfl
          · exact Blk.ne hb b1 (by decide) rfl
          · exact Blk.ne r3.blk b1 (by decide) rfl
        refine ⟨r1, r2, ⟨?_, ?_⟩, r4 tg _ (r3.fT tg rfl) (hev tg (r3.fT tg rfl) (.inl (bk_blk r3.thr rfl)))⟩
        · have hb : begun evs steps t x = evs ++ [⟨steps, t, x.pos, false⟩] := by simp [begun, ho]
          rw [hb]
          exact PS.pre (f3.mono (fun _ _ e => .inl e)) (j3.rstep ok r3'.out)
        · rw [World.cell?_setCell_other _ _ _ _ (by intro e; injection e with _ e; omega), r4 rp 1 r3.fR (hev rp r3.fR (.inr rfl))]
          have := (r3.blk.cell 1).trans r3.rc.c1
          simpa using this
      have HN := Lib.hid hlt3
      clear hlt3
      refine wp_region_held_drew (S := (fun w' => w'.cell? ⟨tg, t * 3 + 1, none⟩ = some (.int .i64 x.pos))) (by kernel_rfl) (by exact q5) (fun hHeld => ?_)
      refine wpAnyH_take (i := 0) (v := ?vvfalse1) rfl (by kernel_rfl) (by kernel_rfl) (by kernel_rfl) (fun _ _ _ h => h) (Or.inl ⟨by rfl, ?hyfalse1⟩) hHeld ?restfalse1
      case hyfalse1 => first | (intro w hSw; (try dsimp only at hSw); go_simp; done) | (intro w hSw; (try dsimp only at hSw); go_simp; with_reducible rfl)
      try simp only [Act.put, List.setIfInBounds_toArray, List.set_cons_zero, List.set_cons_succ]
      refine wpAnyH_take (i := 1) (v := ?vvfalse2) rfl (by kernel_rfl) (by kernel_rfl) (by kernel_rfl) (fun _ _ _ h => h) (Or.inl ⟨by rfl, ?hyfalse2⟩) hHeld ?restfalse2
      case hyfalse2 => first | (intro w hSw; (try dsimp only at hSw); go_simp; done) | (intro w hSw; (try dsimp only at hSw); go_simp; with_reducible rfl)
      try simp only [Act.put, List.setIfInBounds_toArray, List.set_cons_zero, List.set_cons_succ]
      refine wpAnyH_take (i := 2) (v := ?vvfalse3) rfl (by kernel_rfl) (by kernel_rfl) (by kernel_rfl) (fun _ _ _ h => h) (Or.inl ⟨by rfl, ?hyfalse3⟩) hHeld ?restfalse3
      case hyfalse3 => first | (intro w hSw; (try dsimp only at hSw); go_simp; done) | (intro w hSw; (try dsimp only at hSw); go_simp; with_reducible rfl)
      try simp only [Act.put, List.setIfInBounds_toArray, List.set_cons_zero, List.set_cons_succ]
      refine wpAnyH_take (i := 3) (v := ?vvfalse4) rfl (by kernel_rfl) (by kernel_rfl) (by kernel_rfl) (fun _ _ _ h => h) (Or.inl ⟨by rfl, ?hyfalse4⟩) hHeld ?restfalse4
      case hyfalse4 => first | (intro w hSw; (try dsimp only at hSw); go_simp; done) | (intro w hSw; (try dsimp only at hSw); go_simp; with_reducible rfl)
      try simp only [Act.put, List.setIfInBounds_toArray, List.set_cons_zero, List.set_cons_succ]
      refine wpAnyH_take (i := 5) (v := ?vvfalse5) rfl (by kernel_rfl) (by kernel_rfl) (by kernel_rfl) (fun _ _ _ h => h) (Or.inl ⟨by rfl, ?hyfalse5⟩) hHeld ?restfalse5
      case hyfalse5 => first | (intro w hSw; (try dsimp only at hSw); go_simp; done) | (intro w hSw; (try dsimp only at hSw); go_simp; with_reducible rfl)
      try simp only [Act.put, List.setIfInBounds_toArray, List.set_cons_zero, List.set_cons_succ]
      refine wpAnyH_take (i := 6) (v := ?vvfalse6) rfl (by kernel_rfl) (by kernel_rfl) (by kernel_rfl) (fun _ _ _ h => h) (Or.inl ⟨by rfl, ?hyfalse6⟩) hHeld ?restfalse6
      case hyfalse6 => first | (intro w hSw; (try dsimp only at hSw); go_simp; done) | (intro w hSw; (try dsimp only at hSw); go_simp; with_reducible rfl)
      try simp only [Act.put, List.setIfInBounds_toArray, List.set_cons_zero, List.set_cons_succ]
      refine wpAnyH_take (i := 7) (v := ?vvfalse7) rfl (by kernel_rfl) (by kernel_rfl) (by kernel_rfl) (fun _ _ _ h => h) (Or.inl ⟨by rfl, ?hyfalse7⟩) hHeld ?restfalse7
      case hyfalse7 => first | (intro w hSw; (try dsimp only at hSw); go_simp; done) | (intro w hSw; (try dsimp only at hSw); go_simp; with_reducible rfl)
      try simp only [Act.put, List.setIfInBounds_toArray, List.set_cons_zero, List.set_cons_succ]
      refine wpAnyH_take (i := 8) (v := ?vvfalse8) rfl (by kernel_rfl) (by kernel_rfl) (by kernel_rfl) (fun _ _ _ h => h) (Or.inl ⟨by rfl, ?hyfalse8⟩) hHeld ?restfalse8
      case hyfalse8 => first | (intro w hSw; (try dsimp only at hSw); go_simp; done) | (intro w hSw; (try dsimp only at hSw); go_simp; with_reducible rfl)
      try simp only [Act.put, List.setIfInBounds_toArray, List.set_cons_zero, List.set_cons_succ]
      refine wpAnyH_take (i := 9) (v := ?vvfalse9) rfl (by kernel_rfl) (by kernel_rfl) (by kernel_rfl) (fun _ _ _ h => h) (Or.inl ⟨by rfl, ?hyfalse9⟩) hHeld ?restfalse9
      case hyfalse9 => first | (intro w hSw; (try dsimp only at hSw); go_simp; done) | (intro w hSw; (try dsimp only at hSw); go_simp; with_reducible rfl)
      try simp only [Act.put, List.setIfInBounds_toArray, List.set_cons_zero, List.set_cons_succ]
      refine wpAnyH_take (i := 10) (v := ?vvfalse10) rfl (by kernel_rfl) (by kernel_rfl) (by kernel_rfl) (fun _ _ _ h => h) (Or.inl ⟨by rfl, ?hyfalse10⟩) hHeld ?restfalse10
      case hyfalse10 => first | (intro w hSw; (try dsimp only at hSw); go_simp; done) | (intro w hSw; (try dsimp only at hSw); go_simp; with_reducible rfl)
      try simp only [Act.put, List.setIfInBounds_toArray, List.set_cons_zero, List.set_cons_succ]
      refine wpAnyH_take (i := 11) (v := ?vvfalse11) rfl (by kernel_rfl) (by kernel_rfl) (by kernel_rfl) (fun _ _ _ h => h) (Or.inl ⟨by rfl, ?hyfalse11⟩) hHeld ?restfalse11
      case hyfalse11 => first | (intro w hSw; (try dsimp only at hSw); go_simp; done) | (intro w hSw; (try dsimp only at hSw); go_simp; with_reducible rfl)
      try simp only [Act.put, List.setIfInBounds_toArray, List.set_cons_zero, List.set_cons_succ]
      refine wpAnyH_ready (rs := [4, 12]) (by kernel_rfl) (by simp) ?_
      refine AllReadyH.cons rfl (fun K hK => ?_) (AllReadyH.cons rfl (fun K hK => ?_) AllReadyH.nil)
      · go_simp
        refine hK.out _ _ (by exact q5) (fun hHeld => ?_)
        clear hK K
        refine wpAnyH_ready (rs := [12]) (by kernel_rfl) (by simp) ?_
        refine AllReadyH.cons rfl (fun K hK => ?_) AllReadyH.nil
        go_simp
        refine hK.out _ _ (n5 _) (fun hHeld => ?_)
        clear hK K
        refine wpAnyH_ready (rs := [13]) (by kernel_rfl) (by simp) ?_
        refine AllReadyH.cons rfl (fun K hK => ?_) AllReadyH.nil
        refine step_append_lies _ rfl _ _ 174 rfl 0 182 i0 _ 4 32 Try.underlying174 hi0 hz0 hz1 hz2 rfl (by decide) _ (evs.length) _ rfl (hown1.alloc _) ⟨w3.heap.size, 0, none⟩ 1 1 [.int .i64 steps, .int .i64 t, .int .i64 x.pos, .bool false] rfl rfl (World.news_of_block (heap_alloc_new _ _)) (by simp [Value.oneCell']) (by decide) (by unfold maxLen; omega) (by omega) (Nat.zero_le _) _ rfl ?_
        intro g cap w5 hown5 hgrow5 hat5 hlt5
        obtain ⟨q1, q2, HQ, q3⟩ := HE.out g cap w5 hown5 hgrow5 hat5
        clear hown5 hgrow5 hat5 hlt5
        refine hK.out _ _ (q3.trans q5) (fun hHeld => ?_)
        clear hK K
        refine wpAnyH_take (i := 14) (v := ?vvfalse12) rfl (by kernel_rfl) (by kernel_rfl) (by kernel_rfl) (fun _ _ _ h => h) (Or.inl ⟨by rfl, ?hyfalse12⟩) hHeld ?restfalse12
        case hyfalse12 => first | (intro w hSw; (try dsimp only at hSw); go_simp; done) | (intro w hSw; (try dsimp only at hSw); go_simp; with_reducible rfl)
        try simp only [Act.put, List.setIfInBounds_toArray, List.set_cons_zero, List.set_cons_succ]
        refine wpAnyH_take (i := 15) (v := ?vvfalse13) rfl (by kernel_rfl) (by kernel_rfl) (by kernel_rfl) (fun _ _ _ h => h) (Or.inl ⟨by rfl, ?hyfalse13⟩) hHeld ?restfalse13
        case hyfalse13 => first | (intro w hSw; (try dsimp only at hSw); go_simp; done) | (intro w hSw; (try dsimp only at hSw); go_simp; with_reducible rfl)
        try simp only [Act.put, List.setIfInBounds_toArray, List.set_cons_zero, List.set_cons_succ]
        refine wpAnyH_ready (rs := [16]) (by kernel_rfl) (by simp) ?_
        refine AllReadyH.cons rfl (fun K hK => ?_) AllReadyH.nil
        go_simp
        refine hK.out _ _ ((World.cell?_setCell_other _ _ _ _ (fun e => hne (by injection e with e1 _; exact e1.symm))).trans (q3.trans q5)) (fun hHeld => ?_)
        clear hK K
        refine wpAnyH_done (by kernel_rfl) ?_ _
        go_wp2_with fail
        go_meet
        exact HQ
      · go_simp
        refine hK.out _ _ (n5 _) (fun hHeld => ?_)
        clear hK K
        refine wpAnyH_ready (rs := [4]) (by kernel_rfl) (by simp) ?_
        refine AllReadyH.cons rfl (fun K hK => ?_) AllReadyH.nil
        go_simp
        refine hK.out _ _ (n5 _) (fun hHeld => ?_)
        clear hK K
        refine wpAnyH_ready (rs := [13]) (by kernel_rfl) (by simp) ?_
        refine AllReadyH.cons rfl (fun K hK => ?_) AllReadyH.nil
        refine step_append_lies _ rfl _ _ 174 rfl 0 182 i0 _ 4 32 Try.underlying174 hi0 hz0 hz1 hz2 rfl (by decide) _ (evs.length) _ rfl (hown1.alloc _) ⟨w3.heap.size, 0, none⟩ 1 1 [.int .i64 steps, .int .i64 t, .int .i64 x.pos, .bool false] rfl rfl (World.news_of_block (heap_alloc_new _ _)) (by simp [Value.oneCell']) (by decide) (by unfold maxLen; omega) (by omega) (Nat.zero_le _) _ rfl ?_
        intro g cap w5 hown5 hgrow5 hat5 hlt5
        obtain ⟨q1, q2, HQ, q3⟩ := HE.out g cap w5 hown5 hgrow5 hat5
        clear hown5 hgrow5 hat5 hlt5
        refine hK.out _ _ (q3.trans q5) (fun hHeld => ?_)
        clear hK K
        refine wpAnyH_take (i := 14) (v := ?vvfalse14) rfl (by kernel_rfl) (by kernel_rfl) (by kernel_rfl) (fun _ _ _ h => h) (Or.inl ⟨by rfl, ?hyfalse14⟩) hHeld ?restfalse14
        case hyfalse14 => first | (intro w hSw; (try dsimp only at hSw); go_simp; done) | (intro w hSw; (try dsimp only at hSw); go_simp; with_reducible rfl)
        try simp only [Act.put, List.setIfInBounds_toArray, List.set_cons_zero, List.set_cons_succ]
        refine wpAnyH_take (i := 15) (v := ?vvfalse15) rfl (by kernel_rfl) (by kernel_rfl) (by kernel_rfl) (fun _ _ _ h => h) (Or.inl ⟨by rfl, ?hyfalse15⟩) hHeld ?restfalse15
        case hyfalse15 => first | (intro w hSw; (try dsimp only at hSw); go_simp; done) | (intro w hSw; (try dsimp only at hSw); go_simp; with_reducible rfl)
        try simp only [Act.put, List.setIfInBounds_toArray, List.set_cons_zero, List.set_cons_succ]
        refine wpAnyH_ready (rs := [16]) (by kernel_rfl) (by simp) ?_
        refine AllReadyH.cons rfl (fun K hK => ?_) AllReadyH.nil
        go_simp
        refine hK.out _ _ ((World.cell?_setCell_other _ _ _ _ (fun e => hne (by injection e with e1 _; exact e1.symm))).trans (q3.trans q5)) (fun hHeld => ?_)
        clear hK K
        refine wpAnyH_done (by kernel_rfl) ?_ _
        go_wp2_with fail
        go_meet
        exact HQ
    · have hres : PS w0 w2 w2 (fun k => R2 k ∨ E2 k) Env rp bm vws (T.set t { x with op := true }) (steps + 1) (begun evs steps t x) ats ∧ w2.cell? ⟨rp, 1, none⟩ = some (.slice (some ⟨tg, 0, none⟩) T.length tc) := by
        refine ⟨?_, d1⟩
        rw [set_self HX.out ho, show begun evs steps t x = evs from by simp [begun, ho]]
        exact HJ2.out.refl
      have HRES := Lib.hid hres
      rw [ho] at d2
      clear hres
      go_wp2_with fail
      go_meet
      exact HRES
  case rest =>
    clear d1 d2 d3 d4 d5 d6 HR2 HP2 HS2 hne
    obtain ⟨⟨R3, E3, j3, k3, f3⟩, c1⟩ := hcut.out
    obtain ⟨⟨cs3, tv3, ev3, av3, hr3⟩, hp3⟩ := j3.ro
    have hx1 : (T.set t { x with op := true })[t]? = some { x with op := true } := by rw [List.getElem?_set_self htl]
    obtain ⟨tg3, tc3, ep3, ec3, e1, e2, S3⟩ := hr3.sees hx1 HPX.out HVX.out
    have hc1 : some tv3 = some (.slice (some ⟨tg, 0, none⟩) T.length tc) := ((hr3.blk.cell 1).trans hr3.rc.c1).symm.trans c1
    injection hc1 with hc1
    rw [e1] at hc1
    injection hc1 with e3 e4 e5
    injection e3 with e3
    injection e3 with e3 _ _
    subst e3 e5
    subst e1 e2
    obtain ⟨pg, pc, hpv, d7⟩ := S3.prc
    have d0 := S3.m
    have d1 := S3.pv
    have d2 := S3.pos
    have d3 := S3.vw
    simp only at hpv d1 d2
    rw [hpv] at d1
    have HM := Lib.hid (ok.made E3 wc j3.env)
    have L3 : Hid (Lk w wc (fun k => R k ∨ E k) (fun k => R3 k ∨ E3 k)) := L2.out.trans ⟨k3, f3⟩
    have HR3 := Lib.hid hr3
    have hnv : vws.length ≤ 64 := hr3.rc.nv
    have htv2 : t < vws.length := (List.getElem?_eq_some_iff.1 HVX.out).1
    have ht64 : (t : Int) < 64 := by omega
    have ht0 : (0 : Int) ≤ (t : Int) := by omega
    have hq0 : (x.pos : Int) < (x.procs.length : Int) := by omega
    have hq1 : (0 : Int) ≤ (x.pos : Int) := by omega
    have J3 := Lib.hid j3
    clear hcut j3 k3 f3 hr3 hp3 S3 hpv hx1 c1 hnv htv2
    go_wp2_with fail
    refine HM.out.mono ?_
    rintro e w4 ⟨rfl, rfl⟩
    go_wp2_with fail
    go_quiet (fail)
    have J5 := Lib.hid (J3.out.drawn ok nq)
    have L5 := Lib.hid (L3.out.drawn nq)
    have HR5 := Lib.hid (HR3.out.fr ((Fr.refl (fun _ => False) wc).drawn nq) (fun _ _ e => e))
    have d3' : (wc.drewN nq).cell? ⟨rp, 2 + t, none⟩ = some (.pointer (some ⟨v, 0, none⟩)) := d3
    rw [e4] at HR5
    clear d0 d1 d2 d3 d7 e4 HM J3 L3 HR3
    generalize wc.drewN nq = w5 at *
    have hst := hstep E3 w5.drew (J5.out.drawn ok 1).env
    have HST : Hid (Calls Try.prog 21 #[.pointer (some ⟨pb, 0, none⟩), .pointer (some ⟨v, 0, none⟩)] w5.drew fun e w' => e = .returned (.bool d) ∧ w'.cell? ⟨rp, 2 + t, none⟩ = some (.pointer (some ⟨v, 0, none⟩)) ∧ ∃ E4, Hid (PJ w0 w' R3 E4 Env' rp bm vws (T.set t { x with op := true }) (steps + 1) (begun evs steps t x) ats) ∧ Hid (RX w' R3 rp bm vws (T.set t { x with op := true }) (steps + 1) (begun evs steps t x) ats cs3 (.slice (some ⟨tg3, 0, none⟩) T.length tc3) (.slice ep3 (begun evs steps t x).length ec3) av3) ∧ Hid (Lk w w' (fun k => R k ∨ E k) (fun k => R3 k ∨ E4 k))) := hst.mono fun e w' ⟨h1, E4, h2, h3, h4⟩ => by
      have J := J5.out.drawn ok 1
      have hr := HR5.out.fr (S := E3) (w' := w') ⟨h4.os, h4.tape, h4.output, h4.size, h4.block⟩ (fun k hR hE => J.dis k hE hR)
      obtain ⟨R', E', j', l1, l2⟩ := J.estep h2 h3 h4
      refine ⟨h1, (hr.blk.cell (2 + t)).trans (hr.rc.cv t v HVX.out), E4, ?_, hr, ?_⟩
      · exact ⟨J.ro.fr h4 (fun k hR hE => J.dis k hE hR), h2, fun k hE hR => h3 k (J.ro.pos k hR).2 (fun e => J.dis k e hR) hE, Nat.le_trans J.sz h4.size⟩
      · refine (L5.out.drawn 1).trans ⟨?_, h4.mono (fun _ _ e => .inr e)⟩
        rintro b hb hn (e | e)
        · exact hn (.inl e)
        · exact h3 b hb (fun e2 => hn (.inr e2)) e
    clear hst
    have hna : ∀ w : World, (nilAhead 324 43 (.pointer (some ⟨pb, 0, none⟩)) "Step").run Try.prog w = .ok (some false) w := fun _ => by kernel_rfl
    have hme : ∀ w : World, (method 324 43 (.pointer (some ⟨pb, 0, none⟩)) "Step").run Try.prog w = .ok (21, .pointer (some ⟨pb, 0, none⟩)) w := fun _ => by kernel_rfl
    go_wp2_with fail
    go_region_held3 (fun w' => w'.cell? ⟨rp, 2 + t, none⟩ = some (.pointer (some ⟨v, 0, none⟩)))
      (first | exact d3' | exact d6)
      (first | ((with_reducible refine HST.out.mono ?_); rintro e w6 ⟨rfl, d6, E4, J6, HR6, L6⟩))
    clear d3' d6 HST hna hme J5 L5 HR5 hstep
    cases d
    · have HMD := Lib.hid (ok'.made E4 w6 J6.out.env)
      have HNT := Lib.hid (snote_any J6.out.ro J6.out.sz (steps : Int) made made' (by omega) (by omega) (by omega))
      have HFN : Hid (∀ w10, RStep w0 w6 w10 R3 rp bm vws (pickT T t x false) (steps + 1) (pickE evs steps t x false) (noted ats steps made made') → PS w0 w w10 (fun k => R k ∨ E k) Env' rp bm vws (pickT T t x false) (steps + 1) (pickE evs steps t x false) (noted ats steps made made')) := fun w10 hs => by
        obtain ⟨R', E', j', l1, l2⟩ := J6.out.rstep ok' hs
        exact (L6.out.trans ⟨l1, l2⟩).ps j'
      have d0 := J6.out.mcell
      go_wp2_with fail
      refine HMD.out.mono ?_
      rintro e w9 ⟨rfl, rfl⟩
      go_wp2_with fail
      refine HNT.out.mono ?_
      rintro e w10 ⟨rfl, hs10⟩
      have HF10 := Lib.hid (HFN.out _ hs10)
      clear hs10
      go_wp2
      go_ret
      exact ⟨rfl, HF10.out⟩
    · have hx1 : (T.set t { x with op := true })[t]? = some { x with op := true } := by rw [List.getElem?_set_self htl]
      obtain ⟨tgx, tcx, eqx, -, d5, d2, dcold, hRt, hne⟩ := HR6.out.tcell hx1
      have etg : tg3 = tgx := by injection eqx with e1 _ _; injection e1 with e1; injection e1
      subst etg
      clear eqx
      have q4 : w6.cell? ⟨rp, 67, none⟩ = some (.slice ep3 (begun evs steps t x).length ec3) := (HR6.out.blk.cell 67).trans HR6.out.rc.c67
      have q5 : w6.cell? ⟨tg3, t * 3 + 1, none⟩ = some (.int .i64 x.pos) := d5
      have hlt3 : rp < w6.heap.size ∧ tg3 < w6.heap.size := ⟨HR6.out.blk.lt, own_lt HR6.out.thr rfl⟩
      have n4 : ∀ o, (w6.alloc o).cell? ⟨rp, 67, none⟩ = some (.slice ep3 (begun evs steps t x).length ec3) := fun o => (World.cell?_alloc_lt w6 o _ hlt3.1).trans q4
      have n5 : ∀ o, (w6.alloc o).cell? ⟨tg3, t * 3 + 1, none⟩ = some (.int .i64 x.pos) := fun o => (World.cell?_alloc_lt w6 o _ hlt3.2).trans q5
      have hown1 := HR6.out.evo
      obtain ⟨i0, hi0, hz0, hz1, hz2⟩ := info_parts infoEv
      have hbl : (begun evs steps t x).length ≤ 100000001 := by
        unfold begun
        split
        · omega
        · simp; omega
      have HE : Hid (∀ g cap w7, w7.ownsRow 0 182 4 (.slice (some ⟨g, 0, none⟩) ((begun evs steps t x).length + 1) cap) ((begun evs steps t x).length + 1) ((begun evs steps t x).flatMap evC ++ [.int .i64 steps, .int .i64 t, .int .i64 x.pos, .bool true]) → (w6.alloc (.cells #[.int .i64 steps, .int .i64 t, .int .i64 x.pos, .bool true] 182)).drew.grownBy w7 (Value.slice ep3 (begun evs steps t x).length ec3).ownBlock → ((Value.slice ep3 (begun evs steps t x).length ec3).ownBlock = some g ∨ g = (w6.alloc (.cells #[.int .i64 steps, .int .i64 t, .int .i64 x.pos, .bool true] 182)).drew.heap.size) →
          w7.cell? ⟨rp, 67, none⟩ = some (.slice ep3 (begun evs steps t x).length ec3) ∧ w7.frozen? ⟨rp, 67, none⟩ = false ∧ Hid (∃ cs7 ev7, RX (w7.setCell ⟨rp, 67, none⟩ (.slice (some ⟨g, 0, none⟩) ((begun evs steps t x).length + 1) cap)) (Ext R3 w6) rp bm vws (T.set t { x with op := true }) (steps + 1) (begun evs steps t x ++ [⟨steps, t, x.pos, true⟩]) ats cs7 (.slice (some ⟨tg3, 0, none⟩) T.length tc3) ev7 av3 ∧ Fr R3 w6 (w7.setCell ⟨rp, 67, none⟩ (.slice (some ⟨g, 0, none⟩) ((begun evs steps t x).length + 1) cap))) ∧ w7.cell? ⟨tg3, t * 3 + 1, none⟩ = w6.cell? ⟨tg3, t * 3 + 1, none⟩) := by
        intro g cap w7 hown7 hgrow7 hat7
        have r3 := HR6.out
        have hy : Fr (fun _ => False) w6 (w6.alloc (.cells #[.int .i64 steps, .int .i64 t, .int .i64 x.pos, .bool true] 182)).drew := ((Fr.refl (fun _ => False) w6).alloc _).drawn 1
        have hat8 : (Value.slice ep3 (begun evs steps t x).length ec3).ownBlock = some g ∨ w6.heap.size ≤ g := hat7.imp id fun e => by rw [e]; show _ ≤ (w6.alloc _).heap.size; simp
        obtain ⟨r1, r2, r4, r5⟩ := r3.push67 (x := ⟨steps, t, x.pos, true⟩) hy hown7 hgrow7 hat8
        obtain ⟨_, _, _, r6⟩ := r3.evend (w0 := w0) J6.out.ro.pos J6.out.sz ⟨steps, t, x.pos, true⟩ hy hown7 hgrow7 hat8
        refine ⟨r4, r5, ⟨_, _, r1, r2⟩, r6 tg3 _ (r3.fT tg3 rfl) ?_⟩
        rintro k hk rfl
        obtain ⟨c1, b1⟩ := bk_blk r3.evo hk
        exact own_ne r3.thr b1 (by decide) rfl
      have HTX := Lib.hid hx1
      have HN := Lib.hid hlt3
      clear hx1 hlt3 hRt dcold d5
      go_upto_region 14 with fail
      go_cut [] (fun wx => Hid (∃ cs7 ev7, RX wx (Ext R3 w6) rp bm vws (T.set t { x with op := true }) (steps + 1) (begun evs steps t x ++ [⟨steps, t, x.pos, true⟩]) ats cs7 (.slice (some ⟨tg3, 0, none⟩) T.length tc3) ev7 av3 ∧ Fr R3 w6 wx))
      case first =>
        refine wp_region_held_drew (S := (fun w' => w'.cell? ⟨tg3, t * 3 + 1, none⟩ = some (.int .i64 x.pos))) (by kernel_rfl) (by exact q5) (fun hHeld => ?_)
        refine wpAnyH_take (i := 0) (v := ?vvtrue1) rfl (by kernel_rfl) (by kernel_rfl) (by kernel_rfl) (fun _ _ _ h => h) (Or.inl ⟨by rfl, ?hytrue1⟩) hHeld ?resttrue1
        case hytrue1 => first | (intro w hSw; (try dsimp only at hSw); go_simp; done) | (intro w hSw; (try dsimp only at hSw); go_simp; with_reducible rfl)
        try simp only [Act.put, List.setIfInBounds_toArray, List.set_cons_zero, List.set_cons_succ]
        refine wpAnyH_take (i := 1) (v := ?vvtrue2) rfl (by kernel_rfl) (by kernel_rfl) (by kernel_rfl) (fun _ _ _ h => h) (Or.inl ⟨by rfl, ?hytrue2⟩) hHeld ?resttrue2
        case hytrue2 => first | (intro w hSw; (try dsimp only at hSw); go_simp; done) | (intro w hSw; (try dsimp only at hSw); go_simp; with_reducible rfl)
        try simp only [Act.put, List.setIfInBounds_toArray, List.set_cons_zero, List.set_cons_succ]
        refine wpAnyH_take (i := 2) (v := ?vvtrue3) rfl (by kernel_rfl) (by kernel_rfl) (by kernel_rfl) (fun _ _ _ h => h) (Or.inl ⟨by rfl, ?hytrue3⟩) hHeld ?resttrue3
        case hytrue3 => first | (intro w hSw; (try dsimp only at hSw); go_simp; done) | (intro w hSw; (try dsimp only at hSw); go_simp; with_reducible rfl)
        try simp only [Act.put, List.setIfInBounds_toArray, List.set_cons_zero, List.set_cons_succ]
        refine wpAnyH_take (i := 3) (v := ?vvtrue4) rfl (by kernel_rfl) (by kernel_rfl) (by kernel_rfl) (fun _ _ _ h => h) (Or.inl ⟨by rfl, ?hytrue4⟩) hHeld ?resttrue4
        case hytrue4 => first | (intro w hSw; (try dsimp only at hSw); go_simp; done) | (intro w hSw; (try dsimp only at hSw); go_simp; with_reducible rfl)
        try simp only [Act.put, List.setIfInBounds_toArray, List.set_cons_zero, List.set_cons_succ]
        refine wpAnyH_take (i := 5) (v := ?vvtrue5) rfl (by kernel_rfl) (by kernel_rfl) (by kernel_rfl) (fun _ _ _ h => h) (Or.inl ⟨by rfl, ?hytrue5⟩) hHeld ?resttrue5
        case hytrue5 => first | (intro w hSw; (try dsimp only at hSw); go_simp; done) | (intro w hSw; (try dsimp only at hSw); go_simp; with_reducible rfl)
        try simp only [Act.put, List.setIfInBounds_toArray, List.set_cons_zero, List.set_cons_succ]
        refine wpAnyH_take (i := 6) (v := ?vvtrue6) rfl (by kernel_rfl) (by kernel_rfl) (by kernel_rfl) (fun _ _ _ h => h) (Or.inl ⟨by rfl, ?hytrue6⟩) hHeld ?resttrue6
        case hytrue6 => first | (intro w hSw; (try dsimp only at hSw); go_simp; done) | (intro w hSw; (try dsimp only at hSw); go_simp; with_reducible rfl)
        try simp only [Act.put, List.setIfInBounds_toArray, List.set_cons_zero, List.set_cons_succ]
        refine wpAnyH_take (i := 7) (v := ?vvtrue7) rfl (by kernel_rfl) (by kernel_rfl) (by kernel_rfl) (fun _ _ _ h => h) (Or.inl ⟨by rfl, ?hytrue7⟩) hHeld ?resttrue7
        case hytrue7 => first | (intro w hSw; (try dsimp only at hSw); go_simp; done) | (intro w hSw; (try dsimp only at hSw); go_simp; with_reducible rfl)
        try simp only [Act.put, List.setIfInBounds_toArray, List.set_cons_zero, List.set_cons_succ]
        refine wpAnyH_take (i := 8) (v := ?vvtrue8) rfl (by kernel_rfl) (by kernel_rfl) (by kernel_rfl) (fun _ _ _ h => h) (Or.inl ⟨by rfl, ?hytrue8⟩) hHeld ?resttrue8
        case hytrue8 => first | (intro w hSw; (try dsimp only at hSw); go_simp; done) | (intro w hSw; (try dsimp only at hSw); go_simp; with_reducible rfl)
        try simp only [Act.put, List.setIfInBounds_toArray, List.set_cons_zero, List.set_cons_succ]
        refine wpAnyH_take (i := 9) (v := ?vvtrue9) rfl (by kernel_rfl) (by kernel_rfl) (by kernel_rfl) (fun _ _ _ h => h) (Or.inl ⟨by rfl, ?hytrue9⟩) hHeld ?resttrue9
        case hytrue9 => first | (intro w hSw; (try dsimp only at hSw); go_simp; done) | (intro w hSw; (try dsimp only at hSw); go_simp; with_reducible rfl)
        try simp only [Act.put, List.setIfInBounds_toArray, List.set_cons_zero, List.set_cons_succ]
        refine wpAnyH_take (i := 10) (v := ?vvtrue10) rfl (by kernel_rfl) (by kernel_rfl) (by kernel_rfl) (fun _ _ _ h => h) (Or.inl ⟨by rfl, ?hytrue10⟩) hHeld ?resttrue10
        case hytrue10 => first | (intro w hSw; (try dsimp only at hSw); go_simp; done) | (intro w hSw; (try dsimp only at hSw); go_simp; with_reducible rfl)
        try simp only [Act.put, List.setIfInBounds_toArray, List.set_cons_zero, List.set_cons_succ]
        refine wpAnyH_take (i := 11) (v := ?vvtrue11) rfl (by kernel_rfl) (by kernel_rfl) (by kernel_rfl) (fun _ _ _ h => h) (Or.inl ⟨by rfl, ?hytrue11⟩) hHeld ?resttrue11
        case hytrue11 => first | (intro w hSw; (try dsimp only at hSw); go_simp; done) | (intro w hSw; (try dsimp only at hSw); go_simp; with_reducible rfl)
        try simp only [Act.put, List.setIfInBounds_toArray, List.set_cons_zero, List.set_cons_succ]
        refine wpAnyH_ready (rs := [4, 12]) (by kernel_rfl) (by simp) ?_
        refine AllReadyH.cons rfl (fun K hK => ?_) (AllReadyH.cons rfl (fun K hK => ?_) AllReadyH.nil)
        · go_simp
          refine hK.out _ _ (by exact q5) (fun hHeld => ?_)
          clear hK K
          refine wpAnyH_ready (rs := [12]) (by kernel_rfl) (by simp) ?_
          refine AllReadyH.cons rfl (fun K hK => ?_) AllReadyH.nil
          go_simp
          refine hK.out _ _ (n5 _) (fun hHeld => ?_)
          clear hK K
          refine wpAnyH_ready (rs := [13]) (by kernel_rfl) (by simp) ?_
          refine AllReadyH.cons rfl (fun K hK => ?_) AllReadyH.nil
          refine step_append_lies _ rfl _ _ 174 rfl 0 182 i0 _ 4 32 Try.underlying174 hi0 hz0 hz1 hz2 rfl (by decide) _ ((begun evs steps t x).length) _ rfl (hown1.alloc _) ⟨w6.heap.size, 0, none⟩ 1 1 [.int .i64 steps, .int .i64 t, .int .i64 x.pos, .bool true] rfl rfl (World.news_of_block (heap_alloc_new _ _)) (by simp [Value.oneCell']) (by decide) (by unfold maxLen; omega) (by omega) (Nat.zero_le _) _ rfl ?_
          intro g cap w7 hown7 hgrow7 hat5 hlt5
          obtain ⟨q1, q2, HQ, q3⟩ := HE.out g cap w7 hown7 hgrow7 hat5
          clear hown7 hgrow7 hat5 hlt5
          refine hK.out _ _ (q3.trans q5) (fun hHeld => ?_)
          clear hK K
          refine wpAnyH_take (i := 14) (v := ?vvtrue12) rfl (by kernel_rfl) (by kernel_rfl) (by kernel_rfl) (fun _ _ _ h => h) (Or.inl ⟨by rfl, ?hytrue12⟩) hHeld ?resttrue12
          case hytrue12 => first | (intro w hSw; (try dsimp only at hSw); go_simp; done) | (intro w hSw; (try dsimp only at hSw); go_simp; with_reducible rfl)
          try simp only [Act.put, List.setIfInBounds_toArray, List.set_cons_zero, List.set_cons_succ]
          refine wpAnyH_take (i := 15) (v := ?vvtrue13) rfl (by kernel_rfl) (by kernel_rfl) (by kernel_rfl) (fun _ _ _ h => h) (Or.inl ⟨by rfl, ?hytrue13⟩) hHeld ?resttrue13
          case hytrue13 => first | (intro w hSw; (try dsimp only at hSw); go_simp; done) | (intro w hSw; (try dsimp only at hSw); go_simp; with_reducible rfl)
          try simp only [Act.put, List.setIfInBounds_toArray, List.set_cons_zero, List.set_cons_succ]
          refine wpAnyH_ready (rs := [16]) (by kernel_rfl) (by simp) ?_
          refine AllReadyH.cons rfl (fun K hK => ?_) AllReadyH.nil
          go_simp
          refine hK.out _ _ ((World.cell?_setCell_other _ _ _ _ (fun e => hne (by injection e with e1 _; exact e1.symm))).trans (q3.trans q5)) (fun hHeld => ?_)
          clear hK K
          refine wpAnyH_done (by kernel_rfl) ?_ _
          go_wp2_with fail
          go_meet
          exact HQ
        · go_simp
          refine hK.out _ _ (n5 _) (fun hHeld => ?_)
          clear hK K
          refine wpAnyH_ready (rs := [4]) (by kernel_rfl) (by simp) ?_
          refine AllReadyH.cons rfl (fun K hK => ?_) AllReadyH.nil
          go_simp
          refine hK.out _ _ (n5 _) (fun hHeld => ?_)
          clear hK K
          refine wpAnyH_ready (rs := [13]) (by kernel_rfl) (by simp) ?_
          refine AllReadyH.cons rfl (fun K hK => ?_) AllReadyH.nil
          refine step_append_lies _ rfl _ _ 174 rfl 0 182 i0 _ 4 32 Try.underlying174 hi0 hz0 hz1 hz2 rfl (by decide) _ ((begun evs steps t x).length) _ rfl (hown1.alloc _) ⟨w6.heap.size, 0, none⟩ 1 1 [.int .i64 steps, .int .i64 t, .int .i64 x.pos, .bool true] rfl rfl (World.news_of_block (heap_alloc_new _ _)) (by simp [Value.oneCell']) (by decide) (by unfold maxLen; omega) (by omega) (Nat.zero_le _) _ rfl ?_
          intro g cap w7 hown7 hgrow7 hat5 hlt5
          obtain ⟨q1, q2, HQ, q3⟩ := HE.out g cap w7 hown7 hgrow7 hat5
          clear hown7 hgrow7 hat5 hlt5
          refine hK.out _ _ (q3.trans q5) (fun hHeld => ?_)
          clear hK K
          refine wpAnyH_take (i := 14) (v := ?vvtrue14) rfl (by kernel_rfl) (by kernel_rfl) (by kernel_rfl) (fun _ _ _ h => h) (Or.inl ⟨by rfl, ?hytrue14⟩) hHeld ?resttrue14
          case hytrue14 => first | (intro w hSw; (try dsimp only at hSw); go_simp; done) | (intro w hSw; (try dsimp only at hSw); go_simp; with_reducible rfl)
          try simp only [Act.put, List.setIfInBounds_toArray, List.set_cons_zero, List.set_cons_succ]
          refine wpAnyH_take (i := 15) (v := ?vvtrue15) rfl (by kernel_rfl) (by kernel_rfl) (by kernel_rfl) (fun _ _ _ h => h) (Or.inl ⟨by rfl, ?hytrue15⟩) hHeld ?resttrue15
          case hytrue15 => first | (intro w hSw; (try dsimp only at hSw); go_simp; done) | (intro w hSw; (try dsimp only at hSw); go_simp; with_reducible rfl)
          try simp only [Act.put, List.setIfInBounds_toArray, List.set_cons_zero, List.set_cons_succ]
          refine wpAnyH_ready (rs := [16]) (by kernel_rfl) (by simp) ?_
          refine AllReadyH.cons rfl (fun K hK => ?_) AllReadyH.nil
          go_simp
          refine hK.out _ _ ((World.cell?_setCell_other _ _ _ _ (fun e => hne (by injection e with e1 _; exact e1.symm))).trans (q3.trans q5)) (fun hHeld => ?_)
          clear hK K
          refine wpAnyH_done (by kernel_rfl) ?_ _
          go_wp2_with fail
          go_meet
          exact HQ
      case rest =>
        obtain ⟨cs7, ev7, hr7, f7⟩ := hcut.out
        obtain ⟨tgx, tcx, eqx, -, d5, d2, dcold, hRt, -⟩ := hr7.tcell HTX.out
        have etg : tg3 = tgx := by injection eqx with e1 _ _; injection e1 with e1; injection e1
        subst etg
        have dc1 := dcold (t * 3 + 1)
        have dc2 := dcold (t * 3 + 2)
        have dm : wc.cell? ⟨rp, 0, none⟩ = some (.pointer (some ⟨bm, 0, none⟩)) := (hr7.blk.cell 0).trans hr7.rc.c0
        have htl7 : t < (T.set t { x with op := true }).length := by rw [List.length_set]; exact htl
        have hlen7 : (T.set t { x with op := true }).length = T.length := List.length_set
        obtain ⟨h8, f8⟩ := hr7.putThr (y := { x with op := false }) (j := 2) (u := .bool false) HTX.out (by decide) rfl rfl rfl (by rw [hlen7])
        have hx8 : ((T.set t { x with op := true }).set t { x with op := false })[t]? = some { x with op := false } := by rw [List.getElem?_set_self htl7]
        obtain ⟨h9, f9⟩ := h8.putThr (y := { x with op := false, pos := x.pos + 1 }) (j := 1) (u := .int .i64 ((x.pos : Int) + 1)) hx8 (by decide) (by simp [thrC]) rfl rfl (by rw [List.length_set, hlen7])
        have ee : ((T.set t { x with op := true }).set t { x with op := false }).set t { x with op := false, pos := x.pos + 1 } = pickT T t x true := by simp [pickT, List.set_set]
        rw [ee] at h9
        have HS9 : Hid (RStep w0 w6 ((wc.setCell ⟨tg3, t * 3 + 2, none⟩ (.bool false)).setCell ⟨tg3, t * 3 + 1, none⟩ (.int .i64 ((x.pos : Int) + 1))) R3 rp bm vws (pickT T t x true) (steps + 1) (pickE evs steps t x true) ats) := by
          refine RX.toStep J6.out.ro.pos J6.out.sz h9 ?_
          have g8 : Fr (Ext R3 w6) wc ((wc.setCell ⟨tg3, t * 3 + 2, none⟩ (.bool false)).setCell ⟨tg3, t * 3 + 1, none⟩ (.int .i64 ((x.pos : Int) + 1))) := f8.trans f9
          refine ⟨g8.os.trans f7.os, g8.tape.trans f7.tape, g8.output.trans f7.output, Nat.le_trans f7.size g8.size, fun k hk hn => (g8.block k (Nat.lt_of_lt_of_le hk f7.size) ?_).trans (f7.block k hk hn)⟩
          rintro (e | e)
          · exact hn e
          · omega
        have hpx : x.pos ≤ 1000000 := by omega
        clear hcut hr7 f7 eqx hRt dcold hlen7 htl7 h8 f8 h9 f9 hx8 ee HR6 HE hown1 n4 n5 q4 q5
        obtain ⟨R9, E9, j9, l1, l2⟩ := J6.out.rstep ok' HS9.out
        have L9 : Hid (Lk w ((wc.setCell ⟨tg3, t * 3 + 2, none⟩ (.bool false)).setCell ⟨tg3, t * 3 + 1, none⟩ (.int .i64 ((x.pos : Int) + 1))) (fun k => R k ∨ E k) (fun k => R9 k ∨ E9 k)) := L6.out.trans ⟨l1, l2⟩
        have J9 := Lib.hid j9
        clear j9 l1 l2 HS9
        go_wp2_with fail
        generalize (wc.setCell ⟨tg3, t * 3 + 2, none⟩ (.bool false)).setCell ⟨tg3, t * 3 + 1, none⟩ (.int .i64 ((x.pos : Int) + 1)) = w9 at *
        have HMD := Lib.hid (ok'.made E9 w9 J9.out.env)
        have HNT := Lib.hid (snote_any J9.out.ro J9.out.sz (steps : Int) made made' (by omega) (by omega) (by omega))
        have HFN : Hid (∀ w10, RStep w0 w9 w10 R9 rp bm vws (pickT T t x true) (steps + 1) (pickE evs steps t x true) (noted ats steps made made') → PS w0 w w10 (fun k => R k ∨ E k) Env' rp bm vws (pickT T t x true) (steps + 1) (pickE evs steps t x true) (noted ats steps made made')) := fun w10 hs => by
          obtain ⟨R', E', j', l1, l2⟩ := J9.out.rstep ok' hs
          exact (L9.out.trans ⟨l1, l2⟩).ps j'
        have d0 := J9.out.mcell
        clear d5 d2 dc1 dc2 dm
        refine HMD.out.mono ?_
        rintro e w9' ⟨rfl, rfl⟩
        go_wp2_with fail
        refine HNT.out.mono ?_
        rintro e w10 ⟨rfl, hs10⟩
        have HF10 := Lib.hid (HFN.out _ hs10)
        clear hs10
        go_wp2
        go_ret
        exact ⟨rfl, HF10.out⟩
end
end Go.Proofs.Ytenlgfagfpaenaa

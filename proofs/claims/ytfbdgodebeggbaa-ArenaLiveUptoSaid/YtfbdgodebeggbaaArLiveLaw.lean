/-
  ArenaLive: a live memory that one goroutine uses answers as a plain one. No condition.
-/
import Derived.Test.YtfbdgodebeggbaaArLDuo
import Derived.Deep.Cut
import Derived.Deep.DeepCutAuto
import Derived.Deep.CutBlock
namespace Go.Proofs.Ytfbdgodebeggbaa
open Go Go.RowKit
set_option linter.unusedSimpArgs false
set_option linter.unusedVariables false
section
variable {w w' w1 w0 : World} {F G S : Nat → Prop} {bm bs q r v vl ob p B : Nat} {A Al : Mem} {th ma ml : Int} {cs : Array Value} {tv av : Value} {vs : List Int} {l : List Opr} {x : Opr}
/-- both views made -/
theorem Duo.start {wa w4 : World} (h : Pair2 w0 bm bs q r A Al F wa) (hob : Blk wa ob 92 cs) (nob : ¬ F ob) (hb : Below wa.heap.size wa w4) (hv : VW w4 v bm th 0) (hvl : VW w4 vl bs th 0) (h1 : wa.heap.size ≤ v) (h2 : wa.heap.size ≤ vl) (hne : v ≠ vl) :
    DuoE w0 bm bs q r v vl ob th cs A Al 0 0 w4 :=
  ⟨F, ⟨h.bel hb, hv, hvl, hob.below hb, h.own.mine.not h1, h.own.mine.not h2, nob, Nat.le_trans h.own.size h1, Nat.le_trans h.own.size h2, hne⟩⟩
theorem View_b (w : World) (bm : Nat) (th : Int) : Calls Try.prog 16 #[.pointer (some ⟨bm, 0, none⟩), .int .i64 th] w fun e w' => ∃ v, e = .returned (.pointer (some ⟨v, 0, none⟩)) ∧ Hid (v = w.heap.size) ∧ VW w' v bm th 0 ∧ Below w.heap.size w w' ∧ Hid (w'.heap.size = w.heap.size + 1) :=
  (View_any w bm th).mono fun e w' hh => ⟨_, hh.1, Lib.hid rfl, hh.2 ▸ Blk.made w _ _, hh.2 ▸ (Below.refl _ w).alloc (Nat.le_refl _) _, Lib.hid (by rw [hh.2]; simp)⟩
theorem Duo.two1 {wa w4 w5 : World} (h : Pair2 w0 bm bs q r A Al F wa) (hob : Blk wa ob 92 cs) (nob : ¬ F ob) (b4 : Below wa.drew.heap.size wa.drew w4) (hv : VW w4 v bm th 0) (e4 : v = wa.drew.heap.size) (z4 : w4.heap.size = wa.drew.heap.size + 1)
    (b5 : Below w4.heap.size w4 w5) (hvl : VW w5 vl bs th 0) (e5 : vl = w4.heap.size) : DuoE w0 bm bs q r v vl ob th cs A Al 0 0 w5 := by
  have e4 : v = wa.heap.size := e4
  have z4 : w4.heap.size = wa.heap.size + 1 := z4
  have b4 : Below wa.heap.size wa w4 := ⟨b4.os, b4.tape, b4.output, b4.size, b4.block⟩
  exact Duo.start h hob nob (b4.trans (b5.mono b4.size)) (Blk.below hv b5) hvl (by omega) (by omega) (by omega)
theorem Duo.two2 {wa w4 w5 : World} (h : Pair2 w0 bm bs q r A Al F wa) (hob : Blk wa ob 92 cs) (nob : ¬ F ob) (b4 : Below wa.drew.heap.size wa.drew w4) (hvl : VW w4 vl bs th 0) (e4 : vl = wa.drew.heap.size) (z4 : w4.heap.size = wa.drew.heap.size + 1)
    (b5 : Below w4.heap.size w4 w5) (hv : VW w5 v bm th 0) (e5 : v = w4.heap.size) : DuoE w0 bm bs q r v vl ob th cs A Al 0 0 w5 := by
  have e4 : vl = wa.heap.size := e4
  have z4 : w4.heap.size = wa.heap.size + 1 := z4
  have b4 : Below wa.heap.size wa w4 := ⟨b4.os, b4.tape, b4.output, b4.size, b4.block⟩
  exact Duo.start h hob nob (b4.trans (b5.mono b4.size)) hv (Blk.below hvl b5) (by omega) (by omega) (by omega)
set_option maxHeartbeats 4000000 in
set_option maxRecDepth 100000 in
theorem ArenaLive_any (sv : Value) (w : World) (hs : ScriptAt w sv l) (hf : ∀ x ∈ l, x.fits) (hl : l.length ≤ 1048576) (hwd : ∀ x ∈ l, x.words) :
    Calls Try.prog 10 #[sv] w fun e w' => e = .returned (.bool true) ∧ Below w.heap.size w w' := by
  have HS := Lib.hid hs
  obtain ⟨sp, sc, rfl, -⟩ := hs
  have HNEW := Lib.hid (New_plain w 256 (by decide) (by decide))
  go_enter Try.func10, Try.ntmps10
  go_wp2_with fail
  refine HNEW.out.mono ?_
  rintro e w1 ⟨bm, rfl, hm, hb⟩
  obtain ⟨F, O, hF1⟩ := Own.new w (Below.refl _ _) hm hb
  have HNEW2 := Lib.hid (New_live w1 256 (by decide) (by decide))
  clear hm HNEW
  go_wp2_with fail
  refine HNEW2.out.mono ?_
  rintro e w2 ⟨bs, q, r, rfl, hsm, hb2⟩
  have P0 : Pair2 w bm bs q r (Mem.made 256) (Mem.made 256) F w2 := by
    refine ⟨O.bel hb2, ⟨hsm.bM, hsm.bQ, hsm.bR, .inl rfl, .inr (.inl rfl), .inr (.inr rfl)⟩, ?_, ?_⟩
    · have := hb.size
      rintro b (rfl | rfl | rfl)
      · have := hsm.fM.1; omega
      · have := hsm.fQ.1; omega
      · have := hsm.fR.1; omega
    · rintro b hb3 hk
      have h5 := (O.mine.2 b hk).2
      rcases hb3 with rfl | rfl | rfl
      · have := hsm.fM.1; omega
      · have := hsm.fQ.1; omega
      · have := hsm.fR.1; omega
  clear hb hb2 hsm HNEW2 O hF1
  go_wp2_with fail
  go_loopw [29] (fun i wr => ∃ (k : Nat) (F : Nat → Prop), i = .int .i64 k ∧ k ≤ l.length ∧ Pair2 w bm bs q r (doAll (Mem.made 256) (l.take k)) (doAll (Mem.made 256) (l.take k)) F wr) (fun i _ => l.length - (intOf i).toNat)
  case atStart => exact ⟨0, F, rfl, Nat.zero_le _, P0⟩
  case round =>
    clear P0
    obtain ⟨k, F', rfl, hk, hP⟩ := hrel
    by_cases hlt : k < l.length
    · obtain ⟨x, hx⟩ : ∃ x, l[k]? = some x := ⟨_, List.getElem?_eq_getElem hlt⟩
      have hO := hP.own
      obtain ⟨sp', sc', hv, hcells⟩ := HS.out.below hO.below
      injection hv with e1 e2' e3
      subst e1 e3
      clear e2'
      obtain ⟨sb, so, u, rfl, hbl, c0, c1, c2, c3, c4, c5, c6, hva⟩ := hcells k x hx
      obtain ⟨up, uc, rfl⟩ := hva.cl
      have hva0 : VA w (.slice up x.vals.length uc) x.vals := by
        obtain ⟨sp2, sc2, hv2, hcells0⟩ := HS.out
        injection hv2 with e1 _ e3
        obtain ⟨sb', so', u', e4, hbl0, d0, d1, d2, d3, d4, d5, d6, hva0⟩ := hcells0 k x hx
        rw [← e1] at e4
        injection e4 with e4
        injection e4 with e5 e6 _
        subst e5 e6
        have := (hO.below.cell (p := ⟨sb, so + k * 7 + 6, none⟩) hbl0).trans d6
        rw [c6] at this
        injection this with this
        rw [this]; exact hva0
      have hfx := hf x (List.mem_of_getElem? hx)
      have hll := doAll_len (Mem.made 256) (l.take k)
      have hmn : (Mem.made 256).trace.length = 0 ∧ (Mem.made 256).cells.length = 256 ∧ (Mem.made 256).next = 1 := ⟨rfl, by simp [Mem.made], rfl⟩
      have hfit : (doAll (Mem.made 256) (l.take k)).Fit := by
        have h3 : (l.take k).length ≤ k := by rw [List.length_take]; omega
        exact ⟨by omega, by omega, hll.2.2 (by omega)⟩
      have htl : (doAll (Mem.made 256) (l.take k)).trace.length < 1000000000 := by
        have h3 : (l.take k).length ≤ k := by rw [List.length_take]; omega
        omega
      have hwide : (doAll (Mem.made 256) (l.take k)).wide := doAll_wide (fun y hy => hwd y (List.mem_of_mem_take hy)) (wide_made 256)
      have hsnoc : Hid (doAll (Mem.made 256) (l.take (k + 1)) = x.does (doAll (Mem.made 256) (l.take k))) := by
        show _ = _
        rw [List.take_add_one, hx]; exact doAll_snoc _ _ _
      generalize doAll (Mem.made 256) (l.take k) = A at *
      go_upto_region 8 with fail
      have hob := Blk.made wr 92 #[.int .i64 x.kind, .int .i64 x.which, .int .i64 x.thread, .int .u64 x.addr, .int .u64 x.a, .int .u64 x.b, .slice up x.vals.length uc]
      have hba := (Below.refl wr.heap.size wr).alloc (Nat.le_refl _) (.cells #[.int .i64 x.kind, .int .i64 x.which, .int .i64 x.thread, .int .u64 x.addr, .int .u64 x.a, .int .u64 x.b, .slice up x.vals.length uc] 92)
      have Pa := hP.bel hba
      have nob := hO.mine.not (Nat.le_refl wr.heap.size)
      have hwo := hO.size
      clear c0 c1 c2 c3 c4 c5 c6 hcells hO hba hva hll hmn hP
      generalize wr.alloc _ = wa at *
      generalize wr.heap.size = ob at *
      have e2 : wa.drew.cell? ⟨ob, 2, none⟩ = some (.int .i64 x.thread) := hob.cell 2
      have HPA := Lib.hid Pa
      have HOB := Lib.hid hob
      clear Pa
      go_cut [9, 10] (fun s9 s10 wx => ∃ v vl, s9 = .pointer (some ⟨v, 0, none⟩) ∧ s10 = .pointer (some ⟨vl, 0, none⟩) ∧ DuoE w bm bs q r v vl ob x.thread #[.int .i64 x.kind, .int .i64 x.which, .int .i64 x.thread, .int .u64 x.addr, .int .u64 x.a, .int .u64 x.b, .slice up x.vals.length uc] A A 0 0 wx)
      case first =>
        have HS1 : Hid (∀ w', Below wa.drew.heap.size wa.drew w' → w'.cell? ⟨ob, 2, none⟩ = some (.int .i64 x.thread)) := fun w' hb => (Blk.below (w := wa.drew) HOB.out hb).cell 2
        go_region_held3 (fun w' => w'.cell? ⟨ob, 2, none⟩ = some (.int .i64 x.thread))
          (first | exact e2 | exact HS1.out _ b5 | exact HS1.out _ b4 | exact HS1.out _ (b4.trans (b5.mono b4.size)) | exact HS1.out _ (b5.trans (b4.mono b5.size)))
          (first | ((with_reducible refine (View_b _ bm _).mono ?_); rintro e w4 ⟨v, rfl, e4, hv4, b4, z4⟩) | ((with_reducible refine (View_b _ bs _).mono ?_); rintro e w5 ⟨vl, rfl, e5, hv5, b5, z5⟩))
        all_goals
          go_wp2_with fail
          go_meet
          first | exact ⟨v, vl, rfl, rfl, Duo.two1 HPA.out HOB.out nob b4 hv4 e4.out z4.out b5 hv5 e5.out⟩ | exact ⟨v, vl, rfl, rfl, Duo.two2 HPA.out HOB.out nob b5 hv5 e5.out z5.out b4 hv4 e4.out⟩
      case rest =>
        obtain ⟨v, vl, rfl, rfl, hD⟩ := hcut
        clear e2 hob HOB HPA
        have c0 : wc.cell? ⟨ob, 0, none⟩ = some (.int .i64 x.kind) := hD.cell 0
        have c3 : wc.cell? ⟨ob, 3, none⟩ = some (.int .u64 x.addr) := hD.cell 3
        have c4 : wc.cell? ⟨ob, 4, none⟩ = some (.int .u64 x.a) := hD.cell 4
        have c5 : wc.cell? ⟨ob, 5, none⟩ = some (.int .u64 x.b) := hD.cell 5
        have c6 : wc.cell? ⟨ob, 6, none⟩ = some (.slice up x.vals.length uc) := hD.cell 6
        go_upto_block 2 with (go_at_call 35; refine (which_any wc x.kind 5 (by decide) (by decide) hfx.2.2.1 hfx.2.2.2).mono ?_; rintro e w4 ⟨rfl, rfl⟩)
        have hsort : x.sort = x.kind % 5 := rfl
        have hz5 : x.kind % 5 = 0 ∨ x.kind % 5 = 1 ∨ x.kind % 5 = 2 ∨ x.kind % 5 = 3 ∨ x.kind % 5 = 4 := by omega
        generalize x.kind % 5 = z at *
        have Htl := Lib.hid htl
        have Hfit := Lib.hid hfit
        clear htl
        have HD1 : Hid (DuoE w bm bs q r v vl ob x.thread #[.int .i64 x.kind, .int .i64 x.which, .int .i64 x.thread, .int .u64 x.addr, .int .u64 x.a, .int .u64 x.b, .slice up x.vals.length uc] A A 0 0 wc.drew) := hD.drawn 1
        have HD0 := Lib.hid hD
        have hvl9 : x.vals.length ≤ 1000000000 := by have := hfx.2.1; omega
        have hx0 : 0 ≤ x.addr := hfx.1
        clear hfit hD
        go_cut [11] (fun s11 wx => s11 = .bool true ∧ DuoE w bm bs q r v vl ob x.thread #[.int .i64 x.kind, .int .i64 x.which, .int .i64 x.thread, .int .u64 x.addr, .int .u64 x.a, .int .u64 x.b, .slice up x.vals.length uc] (x.does A) (x.does A) 1 1 wx)
        case first =>
          have HSX : Hid (∀ (A' Al' : Mem) (ma ml : Int) (w' : World), DuoE w bm bs q r v vl ob x.thread #[.int .i64 x.kind, .int .i64 x.which, .int .i64 x.thread, .int .u64 x.addr, .int .u64 x.a, .int .u64 x.b, .slice up x.vals.length uc] A' Al' ma ml w' →
              w'.cell? ⟨ob, 3, none⟩ = some (.int .u64 x.addr) ∧ w'.cell? ⟨ob, 4, none⟩ = some (.int .u64 x.a) ∧ w'.cell? ⟨ob, 5, none⟩ = some (.int .u64 x.b) ∧ w'.cell? ⟨ob, 6, none⟩ = some (.slice up x.vals.length uc)) := fun A' Al' ma ml w' h => ⟨h.cell 3, h.cell 4, h.cell 5, h.cell 6⟩
          rcases hz5 with hz | hz | hz | hz | hz
          · have HDO : Hid (x.does A = A.load x.thread x.addr) := by show _ = _; simp [Opr.does, hsort, hz]
            subst hz
            have HP1 := Lib.hid (P_Load HD1.out x.addr hx0 Hfit.out (by decide) (by decide))
            have HL1 := Lib.hid (D_Load HD1.out x.addr hx0 Hfit.out (by decide) (by decide))
            go_wp2_with fail
            go_region_held3 (fun w' => w'.cell? ⟨ob, 3, none⟩ = some (.int .u64 x.addr) ∧ w'.cell? ⟨ob, 4, none⟩ = some (.int .u64 x.a) ∧ w'.cell? ⟨ob, 5, none⟩ = some (.int .u64 x.b) ∧ w'.cell? ⟨ob, 6, none⟩ = some (.slice up x.vals.length uc))
              (first | exact HSX.out _ _ _ _ _ HD1.out | exact HSX.out _ _ _ _ _ hD5 | exact HSX.out _ _ _ _ _ hD6)
              (first | ((with_reducible refine HP1.out.mono ?_); rintro e w5 ⟨rfl, hD5⟩) | ((with_reducible refine HL1.out.mono ?_); rintro e w6 ⟨rfl, hD6⟩) | ((with_reducible refine (P_Load hD6 x.addr hx0 Hfit.out (by decide) (by decide)).mono ?_); rintro e w5 ⟨rfl, hD5⟩) | ((with_reducible refine (D_Load hD5 x.addr hx0 Hfit.out (by decide) (by decide)).mono ?_); rintro e w6 ⟨rfl, hD6⟩))
            all_goals
              go_wp2_with fail
              go_meet
              rw [HDO.out]
              first | exact ⟨rfl, hD6⟩ | exact ⟨rfl, hD5⟩
          · have HDO : Hid (x.does A = A.store x.thread x.addr x.a) := by show _ = _; simp [Opr.does, hsort, hz]
            subst hz
            have HP1 := Lib.hid (P_Store HD0.out x.addr x.a hx0 Hfit.out (by decide) (by decide))
            go_wp2_with fail
            refine HP1.out.mono ?_
            rintro e w5 ⟨rfl, hD5⟩
            have HL1 := Lib.hid (D_Store hD5 x.addr x.a hx0 Hfit.out (by decide) (by decide))
            obtain ⟨c3, c4, c5, c6⟩ := HSX.out _ _ _ _ _ hD5
            go_wp2_with fail
            refine HL1.out.mono ?_
            rintro e w6 ⟨rfl, hD6⟩
            go_wp2_with fail
            go_meet
            rw [HDO.out]
            exact ⟨rfl, hD6⟩
          · have HDO : Hid (x.does A = A.cas x.thread x.addr x.a x.b) := by show _ = _; simp [Opr.does, hsort, hz]
            subst hz
            have HP1 := Lib.hid (P_Cas HD1.out x.addr x.a x.b hx0 Hfit.out (by decide) (by decide))
            have HL1 := Lib.hid (D_Cas HD1.out x.addr x.a x.b hx0 Hfit.out (by decide) (by decide))
            go_wp2_with fail
            go_region_held3 (fun w' => w'.cell? ⟨ob, 3, none⟩ = some (.int .u64 x.addr) ∧ w'.cell? ⟨ob, 4, none⟩ = some (.int .u64 x.a) ∧ w'.cell? ⟨ob, 5, none⟩ = some (.int .u64 x.b) ∧ w'.cell? ⟨ob, 6, none⟩ = some (.slice up x.vals.length uc))
              (first | exact HSX.out _ _ _ _ _ HD1.out | exact HSX.out _ _ _ _ _ hD5 | exact HSX.out _ _ _ _ _ hD6)
              (first | ((with_reducible refine HP1.out.mono ?_); rintro e w5 ⟨rfl, hD5⟩) | ((with_reducible refine HL1.out.mono ?_); rintro e w6 ⟨rfl, hD6⟩) | ((with_reducible refine (P_Cas hD6 x.addr x.a x.b hx0 Hfit.out (by decide) (by decide)).mono ?_); rintro e w5 ⟨rfl, hD5⟩) | ((with_reducible refine (D_Cas hD5 x.addr x.a x.b hx0 Hfit.out (by decide) (by decide)).mono ?_); rintro e w6 ⟨rfl, hD6⟩))
            all_goals
              go_wp2_with fail
              go_meet
              rw [HDO.out]
              first | exact ⟨rfl, hD6⟩ | exact ⟨rfl, hD5⟩
          · have HDO : Hid (x.does A = A.add x.thread x.addr x.a) := by show _ = _; simp [Opr.does, hsort, hz]
            subst hz
            have HP1 := Lib.hid (P_Add HD1.out x.addr x.a hx0 Hfit.out (by decide) (by decide))
            have HL1 := Lib.hid (D_Add HD1.out x.addr x.a hx0 Hfit.out hwide (by decide) (by decide))
            go_wp2_with fail
            go_region_held3 (fun w' => w'.cell? ⟨ob, 3, none⟩ = some (.int .u64 x.addr) ∧ w'.cell? ⟨ob, 4, none⟩ = some (.int .u64 x.a) ∧ w'.cell? ⟨ob, 5, none⟩ = some (.int .u64 x.b) ∧ w'.cell? ⟨ob, 6, none⟩ = some (.slice up x.vals.length uc))
              (first | exact HSX.out _ _ _ _ _ HD1.out | exact HSX.out _ _ _ _ _ hD5 | exact HSX.out _ _ _ _ _ hD6)
              (first | ((with_reducible refine HP1.out.mono ?_); rintro e w5 ⟨rfl, hD5⟩) | ((with_reducible refine HL1.out.mono ?_); rintro e w6 ⟨rfl, hD6⟩) | ((with_reducible refine (P_Add hD6 x.addr x.a hx0 Hfit.out (by decide) (by decide)).mono ?_); rintro e w5 ⟨rfl, hD5⟩) | ((with_reducible refine (D_Add hD5 x.addr x.a hx0 Hfit.out hwide (by decide) (by decide)).mono ?_); rintro e w6 ⟨rfl, hD6⟩))
            all_goals
              go_wp2_with fail
              go_meet
              rw [HDO.out]
              first | exact ⟨rfl, hD6⟩ | exact ⟨rfl, hD5⟩
          · have HDO : Hid (x.does A = A.alloc x.thread x.vals) := by show _ = _; simp [Opr.does, hsort, hz]
            subst hz
            have HP1 := Lib.hid (P_Alloc HD1.out hva0 hvl9 Hfit.out (by decide) (by decide))
            have HL1 := Lib.hid (D_Alloc HD1.out hva0 hvl9 Hfit.out (by decide) (by decide))
            go_wp2_with fail
            go_region_held3 (fun w' => w'.cell? ⟨ob, 3, none⟩ = some (.int .u64 x.addr) ∧ w'.cell? ⟨ob, 4, none⟩ = some (.int .u64 x.a) ∧ w'.cell? ⟨ob, 5, none⟩ = some (.int .u64 x.b) ∧ w'.cell? ⟨ob, 6, none⟩ = some (.slice up x.vals.length uc))
              (first | exact HSX.out _ _ _ _ _ HD1.out | exact HSX.out _ _ _ _ _ hD5 | exact HSX.out _ _ _ _ _ hD6)
              (first | ((with_reducible refine HP1.out.mono ?_); rintro e w5 ⟨rfl, hD5⟩) | ((with_reducible refine HL1.out.mono ?_); rintro e w6 ⟨rfl, hD6⟩) | ((with_reducible refine (P_Alloc hD6 hva0 hvl9 Hfit.out (by decide) (by decide)).mono ?_); rintro e w5 ⟨rfl, hD5⟩) | ((with_reducible refine (D_Alloc hD5 hva0 hvl9 Hfit.out (by decide) (by decide)).mono ?_); rintro e w6 ⟨rfl, hD6⟩))
            all_goals
              go_wp2_with fail
              go_meet
              rw [HDO.out]
              first | exact ⟨rfl, hD6⟩ | exact ⟨rfl, hD5⟩
        case rest =>
          obtain ⟨rfl, F5, hD⟩ := hcut
          have hfit2 : (x.does A).Fit := does_fit Hfit.out Htl.out
          have hP5 := hD.two
          have HSN : Hid (Pair2 w bm bs q r (doAll (Mem.made 256) (l.take (k + 1))) (doAll (Mem.made 256) (l.take (k + 1))) F5 wc) := by rw [hsnoc.out]; exact hP5
          obtain ⟨q5, r5, tv5, rows5, hx5⟩ := hP5.own.mine.1
          have HAC := Lib.hid (Accesses_any hD.vl')
          have HLP := Lib.hid (Left_any hx5 hfit2.x hfit2.n)
          have HLL := Lib.hid (fun n => L_next (hP5.far ((Fr.refl (fun _ => False) wc).drawn n) (fun _ _ e => e) (fun _ _ e => e) (fun _ _ e => e)).sh hfit2.x hfit2.n)
          generalize ((x.does A).cells.length : Int) - ((x.does A).next : Int) = left at *
          clear hfit2 hx5 hD hP5 c0 c3 c4 c5 c6 hsort hz5 HD1 HD0
          go_wp2_with fail
          refine HAC.out.mono ?_
          rintro e w5 ⟨rfl, rfl⟩
          go_wp2_with fail
          refine HLP.out.mono ?_
          rintro e w5 ⟨rfl, n5, rfl⟩
          go_wp2_with fail
          refine (HLL.out n5).mono ?_
          rintro e w6 ⟨rfl, n6, rfl⟩
          go_wp2_with fail
          go_roundw
          case rel => exact ⟨k + 1, F5, by go_num, by omega, HSN.out.far ((Fr.refl (fun _ => False) wc).drawn (n5 + n6)) (fun _ _ e => e) (fun _ _ e => e) (fun _ _ e => e)⟩
          case measure => simp [intOf]; omega
    · obtain rfl : k = l.length := by omega
      rw [List.take_length] at hP
      have hll := doAll_len (Mem.made 256) l
      have hmn : (Mem.made 256).trace.length = 0 ∧ (Mem.made 256).cells.length = 256 ∧ (Mem.made 256).next = 1 := ⟨rfl, by simp [Mem.made], rfl⟩
      have hfit : (doAll (Mem.made 256) l).Fit := ⟨by omega, by omega, hll.2.2 (by omega)⟩
      have HP := Lib.hid hP
      have Hfit := Lib.hid hfit
      clear hP hll hmn hfit
      generalize doAll (Mem.made 256) l = A at *
      go_wp2_with fail
      go_loop [12] (fun i => ∃ k : Nat, i = .int .u64 k ∧ k ≤ 256) (fun i => 256 - (intOf i).toNat)
      case atStart => exact ⟨0, rfl, by omega⟩
      case round =>
        obtain ⟨k, rfl, hk⟩ := hrel
        have HK1 := Lib.hid (peek_o HP.out.own (k : Int) (by omega) Hfit.out)
        have HK2 := Lib.hid (s_peek HP.out.sh (k : Int) (by omega) Hfit.out.n)
        generalize A.peek (k : Int) = y at *
        by_cases hlt : k < 256
        · go_wp2_with fail
          refine HK1.out.mono ?_
          rintro e w5 ⟨rfl, rfl⟩
          go_wp2_with fail
          refine HK2.out.mono ?_
          rintro e w5 ⟨rfl, rfl⟩
          go_wp2_with fail
          go_round
          case rel => exact ⟨k + 1, by go_num, by omega⟩
          case measure => simp [intOf]; omega
        · go_wp2_with fail
          refine (live3_any _).mono ?_
          rintro e w5 ⟨rfl, b5⟩
          have HP5 := Lib.hid (HP.out.bel b5)
          go_wp2_with fail
          refine (L_trace HP5.out.sh).mono ?_
          rintro e w6 ⟨rfl, rfl⟩
          go_wp2_with fail
          refine (L_live HP5.out.sh).mono ?_
          rintro e w6 ⟨rfl, rfl⟩
          obtain ⟨q5, r5, tv5, rows5, hx5⟩ := HP5.out.own.mine.1
          go_wp2_with fail
          refine (Live_any hx5).mono ?_
          rintro e w6 ⟨rfl, rfl⟩
          go_wp2
          go_ret
          exact ⟨rfl, HP5.out.own.below⟩
end
end Go.Proofs.Ytfbdgodebeggbaa

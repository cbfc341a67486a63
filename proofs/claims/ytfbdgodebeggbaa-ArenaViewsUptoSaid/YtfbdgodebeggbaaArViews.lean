/-
  ArenaViews: a view counts its own accesses alone, and goes on with its own memory. No condition.
-/
import Derived.Test.YtfbdgodebeggbaaArFork
import Derived.Deep.Cut
import Derived.Deep.DeepCutAuto
namespace Go.Proofs.Ytfbdgodebeggbaa
open Go Go.RowKit
set_option linter.unusedSimpArgs false
set_option linter.unusedVariables false
/-- a memory with two views, and a fork of it -/
structure VS (w0 w : World) (F : Nat → Prop) (bm : Nat) (A : Mem) (Ff : Nat → Prop) (bf : Nat) (Af : Mem) (a b : Nat) (na nb : Int) : Prop where
  own : Own w0 w F bm A
  frk : Own w0 w Ff bf Af
  va : VW w a bm 1 na
  vb : VW w b bm 2 nb
  fa : ¬ F a
  fb : ¬ F b
  dis : ∀ x, Ff x → ¬ F x ∧ x ≠ a ∧ x ≠ b
  pa : w0.heap.size ≤ a
  pb : w0.heap.size ≤ b
  ne : a ≠ b
section
variable {w0 w w' w1 : World} {F F' Ff : Nat → Prop} {bm bf a b : Nat} {A A' Af : Mem} {na nb : Int} {l : List Opr} {x : Opr}
theorem VS.bel (h : VS w0 w F bm A Ff bf Af a b na nb) (hb : Below w.heap.size w w') : VS w0 w' F bm A Ff bf Af a b na nb :=
  have hf : Fr (fun _ => False) w w' := Fr.of_below hb
  ⟨h.own.bel hb, h.frk.bel hb, h.va.fr hf (fun e => e), h.vb.fr hf (fun e => e), h.fa, h.fb, h.dis, h.pa, h.pb, h.ne⟩
theorem VS.drawn (h : VS w0 w F bm A Ff bf Af a b na nb) (n : Nat) : VS w0 (w.drewN n) F bm A Ff bf Af a b na nb :=
  h.bel ⟨rfl, rfl, rfl, Nat.le_refl _, fun _ _ => rfl⟩
theorem VS.far (h : VS w0 w F bm A Ff bf Af a b na nb) {S : Nat → Prop} (hf : Fr S w w') (h1 : ∀ k, F k → ¬ S k) (h2 : ∀ k, Ff k → ¬ S k) (h3 : ¬ S a) (h4 : ¬ S b) (h5 : ∀ k, k < w0.heap.size → ¬ S k) : VS w0 w' F bm A Ff bf Af a b na nb :=
  ⟨h.own.fr hf h1 h5, h.frk.fr hf h2 h5, h.va.fr hf h3, h.vb.fr hf h4, h.fa, h.fb, h.dis, h.pa, h.pb, h.ne⟩
theorem Left_o (h : Own w0 w F bm A) (ht : A.Fit) : Calls Try.prog 41 #[.pointer (some ⟨bm, 0, none⟩)] w fun e w' => e = .returned (.int .i64 ((A.cells.length : Int) - A.next)) ∧ ∃ k, w' = w.drewN k := by
  obtain ⟨q, r, tv, rows, hx⟩ := h.mine.1
  exact Left_any hx ht.x ht.n
theorem Trace_o (h : Own w0 w F bm A) (ht : A.Fit) (hvs : ∀ x ∈ A.trace, x.vals.length ≤ 1000000000) : Calls Try.prog 30 #[.pointer (some ⟨bm, 0, none⟩)] w fun e w' => ∃ p cap, e = .returned (.slice p A.trace.length cap) ∧ Told w' w.heap.size (.slice p A.trace.length cap) A.trace ∧ Below w.heap.size w w' := by
  obtain ⟨q, r, tv, rows, hx⟩ := h.mine.1
  exact Trace_x hx ht.t hvs
theorem VS.stepA (h : VS w0 w F bm A Ff bf Af a b na nb) (hP : ∃ F', Own w0 w' F' bm A' ∧ VW w' a bm 1 (na + 1) ∧ ¬ F' a ∧ (∀ b, b < w.heap.size → ¬ F b → ¬ F' b) ∧ Fr (fun b => F b ∨ b = a) w w') : ∃ F', VS w0 w' F' bm A' Ff bf Af a b (na + 1) nb := by
  obtain ⟨F', o, hv, n, hk, hf⟩ := hP
  refine ⟨F', o, h.frk.fr hf ?_ ?_, hv, h.vb.fr hf ?_, n, hk _ (Blk.lt h.vb) h.fb, fun x hx => ⟨hk x (h.frk.mine.2 x hx).2 (h.dis x hx).1, (h.dis x hx).2⟩, h.pa, h.pb, h.ne⟩
  · rintro k hk2 (e | e)
    · exact (h.dis k hk2).1 e
    · exact (h.dis k hk2).2.1 e
  · rintro k hk2 (e | e)
    · have := (h.own.mine.2 k e).1; omega
    · have := h.pa; omega
  · rintro (e | e)
    · exact h.fb e
    · exact h.ne e.symm
theorem VS.stepB (h : VS w0 w F bm A Ff bf Af a b na nb) (hP : ∃ F', Own w0 w' F' bm A' ∧ VW w' b bm 2 (nb + 1) ∧ ¬ F' b ∧ (∀ x, x < w.heap.size → ¬ F x → ¬ F' x) ∧ Fr (fun x => F x ∨ x = b) w w') : ∃ F', VS w0 w' F' bm A' Ff bf Af a b na (nb + 1) := by
  obtain ⟨F', o, hv, n, hk, hf⟩ := hP
  refine ⟨F', o, h.frk.fr hf ?_ ?_, h.va.fr hf ?_, hv, hk _ (Blk.lt h.va) h.fa, n, fun x hx => ⟨hk x (h.frk.mine.2 x hx).2 (h.dis x hx).1, (h.dis x hx).2⟩, h.pa, h.pb, h.ne⟩
  · rintro k hk2 (e | e)
    · exact (h.dis k hk2).1 e
    · exact (h.dis k hk2).2.2 e
  · rintro k hk2 (e | e)
    · have := (h.own.mine.2 k e).1; omega
    · have := h.pb; omega
  · rintro (e | e)
    · exact h.fa e
    · exact h.ne e
theorem two_views {w2 w3 : World} (o : Own w0 w F bm A) (hv : VW w2 a bm 1 0) (b2 : Below w.heap.size w w2) (hb : VW w3 b bm 2 0) (b3 : Below w2.heap.size w2 w3) (ha : a = w.heap.size) (hbb : b = w2.heap.size) (hz : w2.heap.size = w.heap.size + 1) :
    Own w0 w3 F bm A ∧ VW w3 a bm 1 0 ∧ VW w3 b bm 2 0 ∧ ¬ F a ∧ ¬ F b ∧ w0.heap.size ≤ a ∧ w0.heap.size ≤ b ∧ a ≠ b := by
  have := o.size
  exact ⟨(o.bel b2).bel b3, hv.fr (Fr.of_below (S := fun _ => False) b3) (fun e => e), hb, o.mine.not (by omega), o.mine.not (by omega), by omega, by omega, by omega⟩
theorem View_h (w : World) (bm : Nat) (th : Int) : Calls Try.prog 16 #[.pointer (some ⟨bm, 0, none⟩), .int .i64 th] w fun e w' => ∃ v, e = .returned (.pointer (some ⟨v, 0, none⟩)) ∧ Hid (v = w.heap.size) ∧ VW w' v bm th 0 ∧ Below w.heap.size w w' ∧ Hid (w'.heap.size = w.heap.size + 1) :=
  (View_any w bm th).mono fun e w' hh => ⟨_, hh.1, Lib.hid rfl, hh.2 ▸ Blk.made w _ _, hh.2 ▸ (Below.refl _ w).alloc (Nat.le_refl _) _, Lib.hid (by rw [hh.2]; simp)⟩
theorem VS.start {w3 w4 : World} (o : Own w0 w3 F bm A) (hva : VW w3 a bm 1 0) (hvb : VW w3 b bm 2 0) (fa : ¬ F a) (fb : ¬ F b) (pa : w0.heap.size ≤ a) (pb : w0.heap.size ≤ b) (ne : a ≠ b) (hp : PM w4 (fun b => w3.heap.size ≤ b) bf Af) (hb : Below w3.heap.size w3 w4) : ∃ Ff, VS w0 w4 F bm A Ff bf Af a b 0 0 := by
  obtain ⟨Ff, of, hn⟩ := Own.new w0 o.below hp hb
  have hf : Fr (fun _ => False) w3 w4 := Fr.of_below hb
  refine ⟨Ff, o.bel hb, of, hva.fr hf (fun e => e), hvb.fr hf (fun e => e), fa, fb, fun x hx => ⟨fun e => hn x (o.mine.2 x e).2 hx, ?_, ?_⟩, pa, pb, ne⟩
  · rintro rfl; exact hn x hva.lt hx
  · rintro rfl; exact hn x hvb.lt hx
set_option maxHeartbeats 4000000 in
set_option maxRecDepth 100000 in
theorem ArenaViews_any (sv : Value) (w : World) (hs : ScriptAt w sv l) (hf : ∀ x ∈ l, x.fits) (hl : l.length ≤ 1048576) :
    Calls Try.prog 11 #[sv] w fun e w' => e = .returned (.bool true) ∧ Below w.heap.size w w' := by
  have HS := Lib.hid hs
  obtain ⟨sp, sc, rfl, -⟩ := hs
  have HNEW := Lib.hid (New_plain w 256 (by decide) (by decide))
  go_enter Try.func11, Try.ntmps11
  go_wp2_with fail
  refine HNEW.out.mono ?_
  rintro e w1 ⟨bm, rfl, hm, hb⟩
  obtain ⟨F, O, -⟩ := Own.new w (Below.refl _ _) hm hb
  clear hm hb HNEW
  go_wp2_with fail
  refine (View_h w1 bm 1).mono ?_
  rintro e w2 ⟨a, rfl, ea, va, b2, z2⟩
  go_wp2_with fail
  refine (View_h w2 bm 2).mono ?_
  rintro e w3 ⟨b, rfl, eb, vb, b3, z3⟩
  obtain ⟨O3, va3, vb3, fa, fb, pa, pb, ne⟩ := two_views O va b2 vb b3 ea.out eb.out z2.out
  clear O va b2 vb b3 ea eb z2 z3
  obtain ⟨q, r, tv, rows, hx⟩ := O3.mine.1
  have HF := Lib.hid (Fork_x hx (by simp [Mem.made]) (by simp [Mem.made]))
  have HV := Lib.hid O3
  clear hx O3
  go_wp2_with fail
  refine HF.out.mono ?_
  rintro e w4 ⟨bf, rfl, hp, hb⟩
  obtain ⟨Ff, hvs⟩ := VS.start HV.out va3 vb3 fa fb pa pb ne hp hb
  have HVS := Lib.hid hvs
  clear HF HV va3 vb3 fa fb pa pb ne hp hb hvs
  go_wp2_with fail
  go_loopw [8, 27] (fun s8 i wr => ∃ (k : Nat) (F : Nat → Prop) (A : Mem) (na nb : Int), i = .int .i64 k ∧ k ≤ l.length ∧ s8 = .int .i64 na ∧ 0 ≤ na ∧ 0 ≤ nb ∧ na + nb = k ∧ A.trace.length = k ∧ A.cells.length = 256 ∧ A.next = 1 ∧ (∀ y ∈ A.trace, y.vals = []) ∧ VS w wr F bm A Ff bf (Mem.made 256).forked a b na nb) (fun _ i _ => l.length - (intOf i).toNat)
  case atStart => exact ⟨0, F, Mem.made 256, 0, 0, rfl, Nat.zero_le _, rfl, by decide, by decide, rfl, rfl, by simp [Mem.made], rfl, (by intro y hy; cases hy), HVS.out⟩
  case round =>
    clear HVS
    obtain ⟨k, F', A, na, nb, rfl, hk, rfl, ha0, hb0, hab, ht, hc, hn, hvl, hV⟩ := hrel
    by_cases hlt : k < l.length
    · obtain ⟨x, hx⟩ : ∃ x, l[k]? = some x := ⟨_, List.getElem?_eq_getElem hlt⟩
      obtain ⟨sp', sc', hv, hcells⟩ := HS.out.below hV.own.below
      injection hv with e1 e2' e3
      subst e1 e3
      clear e2'
      obtain ⟨sb, so, u, rfl, hbl, c0, c1, c2, c3, c4, c5, c6, hva⟩ := hcells k x hx
      obtain ⟨up, uc, rfl⟩ := hva.cl
      have hfx := hf x (List.mem_of_getElem? hx)
      go_upto_region 10 with fail
      have hob := Blk.made wr 92 #[.int .i64 x.kind, .int .i64 x.which, .int .i64 x.thread, .int .u64 x.addr, .int .u64 x.a, .int .u64 x.b, .slice up x.vals.length uc]
      have hV2 := hV.bel ((Below.refl wr.heap.size wr).alloc (Nat.le_refl _) (.cells #[.int .i64 x.kind, .int .i64 x.which, .int .i64 x.thread, .int .u64 x.addr, .int .u64 x.a, .int .u64 x.b, .slice up x.vals.length uc] 92))
      clear c0 c1 c2 c3 c4 c5 c6 hcells hva hV
      generalize wr.alloc _ = wa at *
      generalize wr.heap.size = ob at *
      have c2 : wa.cell? ⟨ob, 2, none⟩ = some (.int .i64 x.thread) := hob.cell 2
      have c3 : wa.cell? ⟨ob, 3, none⟩ = some (.int .u64 x.addr) := hob.cell 3
      have c4 : wa.cell? ⟨ob, 4, none⟩ = some (.int .u64 x.a) := hob.cell 4
      have HV2 := Lib.hid hV2
      have HC := Lib.hid hc
      have HN := Lib.hid hn
      have HT := Lib.hid ht
      have hx0 : 0 ≤ x.addr := hfx.1
      clear hob hV2 hc hn ht
      have hfit : A.Fit := ⟨by have := HC.out; omega, by have := HT.out; omega, by have := HC.out; have := HN.out; omega⟩
      have hm0 : 0 ≤ x.addr % 256 := by omega
      have HA := Lib.hid (Add_o HV2.out.own HV2.out.va HV2.out.fa HV2.out.pa (x.addr % 256) x.a hm0 hfit ha0 (by omega))
      have HSt := Lib.hid (Store_o HV2.out.own HV2.out.vb HV2.out.fb HV2.out.pb (x.addr % 256) x.a hm0 hfit hb0 (by omega))
      have HVL := Lib.hid hvl
      clear hfit hvl
      go_wp2_with fail
      · refine HA.out.mono ?_
        rintro e w5 ⟨rfl, h5⟩
        obtain ⟨F5, h5⟩ := HV2.out.stepA h5
        have H5 := Lib.hid h5
        clear h5
        go_wp2_with fail
        go_roundw
        case rel =>
          refine ⟨k + 1, F5, A.add 1 (x.addr % 256) x.a, na + 1, nb, by go_num, by omega, by go_num, by omega, hb0, by omega, ?_, ?_, HN.out, ?_, H5.out⟩
          · show (A.trace ++ [_]).length = _; rw [List.length_append, HT.out]; rfl
          · show (A.cells.set _ _).length = _; rw [List.length_set]; exact HC.out
          · intro y hy
            rcases List.mem_append.1 (show y ∈ A.trace ++ [_] from hy) with hy | hy
            · exact HVL.out y hy
            · rw [List.mem_singleton] at hy; subst hy; rfl
        case measure => simp [intOf]; omega
      · refine HSt.out.mono ?_
        rintro e w5 ⟨rfl, h5⟩
        obtain ⟨F5, h5⟩ := HV2.out.stepB h5
        have H5 := Lib.hid h5
        clear h5
        go_wp2_with fail
        go_roundw
        case rel =>
          refine ⟨k + 1, F5, A.store 2 (x.addr % 256) x.a, na, nb + 1, by go_num, by omega, rfl, ha0, by omega, by omega, ?_, ?_, HN.out, ?_, H5.out⟩
          · show (A.trace ++ [_]).length = _; rw [List.length_append, HT.out]; rfl
          · show (A.cells.set _ _).length = _; rw [List.length_set]; exact HC.out
          · intro y hy
            rcases List.mem_append.1 (show y ∈ A.trace ++ [_] from hy) with hy | hy
            · exact HVL.out y hy
            · rw [List.mem_singleton] at hy; subst hy; rfl
        case measure => simp [intOf]; omega
    · obtain rfl : k = l.length := by omega
      have hfit : A.Fit := ⟨by omega, by omega, by omega⟩
      obtain ⟨q5, r5, tv5, rows5, hx5⟩ := hV.own.mine.1
      have HF := Lib.hid (Fork_x hx5 (by omega) (by omega))
      have HV := Lib.hid hV
      have HC := Lib.hid hc
      have HN := Lib.hid hn
      have HT := Lib.hid ht
      have HVL := Lib.hid hvl
      have HFIT := Lib.hid hfit
      clear hx5 hV hc hn ht hvl hfit
      go_wp2_with fail
      refine HF.out.mono ?_
      rintro e w5 ⟨bg, rfl, hp5, hb5⟩
      obtain ⟨Fg, og, hng⟩ := Own.new w HV.out.own.below hp5 hb5
      have V5 := Lib.hid (HV.out.bel hb5)
      have HVR := Lib.hid HV.out
      have HD := Lib.hid hng
      have hs5 := hb5.size
      have OG := Lib.hid og
      have hgfit : A.forked.Fit := ⟨HFIT.out.n, by show 0 ≤ 1000000000; omega, HFIT.out.x⟩
      have GF := Lib.hid hgfit
      clear HF HV hp5 hb5 og hng hgfit
      go_wp2_with fail
      refine (View_h w5 bg 3).mono ?_
      rintro e w6 ⟨c, rfl, ec, vc, b6, z6⟩
      have og6 := OG.out.bel b6
      have hfc : ¬ Fg c := OG.out.mine.not (by have := ec.out; omega)
      have hpc : w.heap.size ≤ c := by have := ec.out; have := OG.out.size; omega
      have HCP : Hid (wr.heap.size ≤ c) := by show _ ≤ _; have := ec.out; omega
      have V6 := Lib.hid (V5.out.bel b6)
      go_wp2_with fail
      have hrow : Blk (w6.alloc (Obj.cells #[Value.int IntKind.u64 1] 22)) w6.heap.size 22 (us [1]).toArray := Blk.made w6 _ _
      have b7 : Below w6.heap.size w6 (w6.alloc (Obj.cells #[Value.int IntKind.u64 1] 22)) := (Below.refl _ w6).alloc (Nat.le_refl _) _
      have og7 := og6.bel b7
      have vc7 := VW.fr vc (Fr.of_below (S := fun _ => False) b7) (fun e => e)
      have ha7 := built_VA (vs := [1]) hrow (c := 1)
      have ho7 : Off (.slice (some ⟨w6.heap.size, 0, none⟩) 1 1) Fg := by
        intro ad n c e hk
        injection e with e1 _ _
        injection e1 with e1
        subst e1
        exact og6.mine.not (Nat.le_refl _) hk
      have V7 := Lib.hid (V6.out.bel b7)
      have hA7 := Alloc_o og7 vc7 hfc hpc ha7 (fun _ => ho7) (by decide) GF.out (by decide) (by decide)
      have HA7 := Lib.hid hA7
      clear V5 V6 OG ec vc b6 z6 og6 hfc hpc hrow b7 og7 vc7 ha7 ho7 hA7
      generalize w6.alloc _ = w7 at *
      refine HA7.out.mono ?_
      rintro e w8 ⟨rfl, F8, O8, vc8, nc8, _, f8⟩
      have V8 := V7.out.far f8 (by rintro k hk (e | e); exact HD.out k (HVR.out.own.mine.2 k hk).2 e; have := (HVR.out.own.mine.2 k hk).2; have := HCP.out; omega)
        (by rintro k hk (e | e); exact HD.out k (HVR.out.frk.mine.2 k hk).2 e; have := (HVR.out.frk.mine.2 k hk).2; have := HCP.out; omega)
        (by rintro (e | e); exact HD.out a (Blk.lt HVR.out.va) e; have : a < wr.heap.size := Blk.lt HVR.out.va; have := HCP.out; omega)
        (by rintro (e | e); exact HD.out b (Blk.lt HVR.out.vb) e; have : b < wr.heap.size := Blk.lt HVR.out.vb; have := HCP.out; omega)
        (by rintro k hk (e | e); have := HVR.out.own.size; exact HD.out k (by omega) e; have := HVR.out.own.size; have := HCP.out; omega)
      have V8H := Lib.hid V8
      have O8H := Lib.hid O8
      have hA8 : (A.forked.alloc 3 [1]).cells.length = 256 ∧ (A.forked.alloc 3 [1]).next = 2 ∧ (A.forked.alloc 3 [1]).trace = [⟨3, 5, A.forked.spot [1], 0, 0, [1], 0, false⟩] := by
        have hft : A.forked.fits [1] = true := by simp [Mem.fits, Mem.forked, HC.out, HN.out]
        refine ⟨?_, ?_, ?_⟩
        · simp only [Mem.alloc, Mem.note, hft, if_true, Mem.laid]
          rw [length_splice _ _ _ (by simp [Mem.forked, HC.out, HN.out])]; exact HC.out
        · simp only [Mem.alloc, Mem.note, hft, if_true, Mem.laid]; simp [Mem.forked, HN.out]
        · simp only [Mem.alloc, Mem.note, hft, if_true, Mem.laid]; rfl
      have H8 := Lib.hid hA8
      have F8t : Hid (A.forked.alloc 3 [1]).Fit := ⟨by omega, by rw [hA8.2.2]; simp, by omega⟩
      clear HA7 V7 O8 vc8 nc8 f8 V8 hA8 HVR HD HCP
      generalize A.forked.alloc 3 [1] = A8 at *
      go_wp2_with fail
      refine (live3_any _).mono ?_
      rintro e w9 ⟨rfl, b9⟩
      have V9 := Lib.hid (V8H.out.bel b9)
      have O9 := Lib.hid (O8H.out.bel b9)
      clear V8H O8H b9
      go_wp2_with fail
      refine (Accesses_any V9.out.va).mono ?_
      rintro e w10 ⟨rfl, rfl⟩
      go_wp2_with fail
      refine (Accesses_any V9.out.vb).mono ?_
      rintro e w10 ⟨rfl, rfl⟩
      have HT10 := Lib.hid (Trace_o V9.out.own HFIT.out (fun y hy => by rw [HVL.out y hy]; simp))
      have ow9 : wrap64 ((l.length : Int) - na) = (l.length : Int) - na := by unfold wrap64; omega
      have ow10 : (nb == (l.length : Int) - na) = true := by simp; omega
      go_wp2_with fail
      refine HT10.out.mono ?_
      rintro e w10 ⟨p10, c10, rfl, -, b10⟩
      have V10 := Lib.hid (V9.out.bel b10)
      have O10 := Lib.hid (O9.out.bel b10)
      have ow11 : ((A.trace.length : Int) == (l.length : Int)) = true := by have := HT.out; simp; omega
      have hff : Hid (Mem.made 256).forked.Fit := fit_of (by decide +kernel)
      have HT11 : Hid (Calls Try.prog 30 #[.pointer (some ⟨bf, 0, none⟩)] w10 fun e w' => ∃ p cap, e = .returned (.slice p 0 cap) ∧ Below w10.heap.size w10 w') := (Trace_o V10.out.frk hff.out (by intro y hy; cases hy)).mono fun e w' ⟨p, cap, h1, _, h3⟩ => ⟨p, cap, h1, h3⟩
      clear V9 O9 HT10 b10
      go_wp2_with fail
      refine HT11.out.mono ?_
      rintro e w11 ⟨p11, c11, rfl, b11⟩
      have V11 := Lib.hid (V10.out.bel b11)
      have O11 := Lib.hid (O10.out.bel b11)
      have h12 := Left_o V11.out.frk hff.out
      rw [show (((Mem.made 256).forked.cells.length : Int) - ((Mem.made 256).forked.next : Int)) = 255 from by simp [Mem.forked, Mem.made]] at h12
      have H12 := Lib.hid h12
      clear V10 O10 HT11 b11 h12
      go_wp2_with fail
      refine H12.out.mono ?_
      rintro e w12 ⟨rfl, n12, rfl⟩
      have O12 := Lib.hid (O11.out.drawn n12)
      have h13 := Left_o O12.out F8t.out
      rw [show ((A8.cells.length : Int) - (A8.next : Int)) = 254 from by have := H8.out; omega] at h13
      have H13 := Lib.hid h13
      have V12 := Lib.hid (V11.out.drawn n12)
      clear H12 h13 V11 O11
      generalize w11.drewN n12 = w12 at *
      go_wp2_with fail
      refine H13.out.mono ?_
      rintro e w13 ⟨rfl, n13, rfl⟩
      have O13 := Lib.hid (O12.out.drawn n13)
      have V13 := Lib.hid (V12.out.drawn n13)
      have h14 := Left_o V13.out.own HFIT.out
      rw [show ((A.cells.length : Int) - (A.next : Int)) = 255 from by have := HC.out; have := HN.out; omega] at h14
      have H14 := Lib.hid h14
      clear H13 h14 V12 O12
      generalize w12.drewN n13 = w13 at *
      go_wp2_with fail
      refine H14.out.mono ?_
      rintro e w14 ⟨rfl, n14, rfl⟩
      have O14 := Lib.hid (O13.out.drawn n14)
      have h15 := Trace_o O14.out F8t.out (by rw [H8.out.2.2]; intro y hy; rw [List.mem_singleton] at hy; subst hy; simp)
      rw [show A8.trace.length = 1 from by rw [H8.out.2.2]; rfl] at h15
      have H15 := Lib.hid h15
      clear H14 h15 V13 O13
      generalize w13.drewN n14 = w14 at *
      go_wp2_with fail
      refine H15.out.mono ?_
      rintro e w15 ⟨p15, c15, rfl, -, b15⟩
      have HB := Lib.hid (O14.out.below.trans (b15.mono O14.out.size))
      clear H15 O14 b15
      go_wp2
      go_ret
      exact ⟨rfl, HB.out⟩
end
end Go.Proofs.Ytfbdgodebeggbaa

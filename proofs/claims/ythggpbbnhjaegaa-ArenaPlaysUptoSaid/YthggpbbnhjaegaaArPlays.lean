/-
  ArenaPlays: every memory, plain and live, and every script of calls, forks and nil ones too. No condition.
-/
import Derived.Test.YthggpbbnhjaegaaArPure
namespace Go.Proofs.Ythggpbbnhjaegaa
open Go Go.RowKit
set_option linter.unusedSimpArgs false
set_option linter.unusedVariables false
section
variable {w w' w1 w0 : World} {l : List Opr} {x : Opr} {sv : Value}
/-- nothing is done -/
def ch0 : Ch := ⟨0, .pointer none, 0, 0, 0⟩
theorem Lst.fke {wb : World} {es : List En} {pvs rvs : List Value} {g1 c1 g2 c2 : Nat} {lab : Nat → Nat} (h : Lst wb es pvs rvs g1 c1 g2 c2 lab w) (e' : En) (hb : Below w.heap.size w w') : FKE wb.heap.size w (sideP e' g1 es.length c1 pvs) (sideD e' g2 es.length c2 rvs) ch0 ch0 w' := by
  have h0 : FKE wb.heap.size w (sideP e' g1 es.length c1 pvs) (sideD e' g2 es.length c2 rvs) ch0 ch0 w :=
    ⟨fun _ => False, fun _ => False, Fr.refl _ _, h.ne, (h.r1.lt g1 rfl).2, (h.r2.lt g2 rfl).2, h.bel.size, fun _ => h.r1, fun _ => h.r2, fun e => absurd e (by decide), fun e => absurd e (by decide), fun _ e => e.elim, fun _ e => e.elim, fun _ e => e.elim, fun e => absurd e (by decide), fun e => absurd e (by decide), fun e => absurd e (by decide), fun e => absurd e (by decide), fun e => absurd e (by decide)⟩
  exact h0.far (sideP_good _ _ _ _ _) (sideD_good _ _ _ _ _) hb
theorem FKE.own1 {B : Nat} {s1 s2 : Side} {a b : Ch} (h : FKE B w s1 s2 a b w') (hx : a.a < 3) : w'.ownsRow B s1.t 1 (.slice (some ⟨s1.g, 0, none⟩) s1.n s1.c) s1.n s1.xs := let ⟨_, _, h⟩ := h; h.r1 hx
theorem FKE.blk1 {B : Nat} {s1 s2 : Side} {a b : Ch} (h : FKE B w s1 s2 a b w') (hx : a.a = 2) : w'.cell? ⟨a.k, 0, none⟩ = some a.v := let ⟨_, _, h⟩ := h; (h.t1 hx).1.cell 0
theorem FKE.frame {B : Nat} {s1 s2 : Side} {a b : Ch} (h : FKE B w s1 s2 a b w') : Fr (fun b => b = s1.g ∨ b = s2.g) w w' ∧ B ≤ w'.heap.size := let ⟨_, _, h⟩ := h; ⟨h.fr, Nat.le_trans h.b0 h.fr.size⟩
/-- a nil row of values has no room -/
def NilAt (w : World) (v : Value) (l : List Opr) : Prop := ∀ k x, l[k]? = some x → ∀ b o n c, v = .slice (some ⟨b, o, none⟩) n c → ∀ m d, w.cell? ⟨b, o + k * 7 + 6, none⟩ = some (.slice none m d) → d = 0
set_option maxHeartbeats 4000000 in
set_option maxRecDepth 100000 in
theorem ArenaPlays_any (n : Int) (lv : Bool) (sv : Value) (w : World) (hs : ScriptAt w sv l) (hf : ∀ x ∈ l, x.fits) (hl : l.length ≤ 1048576) (hwd : ∀ x ∈ l, x.words)
    (hwh : ∀ x ∈ l, -9223372036854775808 ≤ x.which ∧ x.which ≤ 9223372036854775807) (hnil : NilAt w sv l) :
    Calls Try.prog 3 #[.int .i64 n, .bool lv, sv] w fun e w' => e = .returned (.bool true) ∧ Below w.heap.size w w' := by
  have HS := Lib.hid hs
  have HNIL := Lib.hid hnil
  obtain ⟨sp, sc, rfl, -⟩ := hs
  have HNEW := Lib.hid (PNew w n lv)
  clear hnil
  go_enter Try.func3, Try.ntmps3
  go_wp2_with fail
  refine HNEW.out.mono ?_
  rintro a w1 ⟨pv, rfl, hp, b1⟩
  have HNEW2 := Lib.hid (DNew w1 n lv)
  clear HNEW
  go_wp2_with fail
  refine HNEW2.out.mono ?_
  rintro a w2 ⟨rv, rfl, hd, b2⟩
  clear HNEW2
  obtain ⟨pp, rfl⟩ := hp.ptr
  obtain ⟨rp, rfl⟩ := hd.ptr
  have hf1 := hp.form
  have hf2 := hd.form
  have HPP := Lib.hid (And.intro hp (And.intro b1 (And.intro hd b2)))
  have HG0 := Lib.hid (En.new_fine n lv)
  clear hp b1 hd b2
  generalize En.new n lv = e0 at *
  generalize newErr n = ne at *
  go_upto_region 3 with fail
  go_cut [43] (fun s43 wx => s43 = .bool false ∧ Below w2.heap.size w2 wx)
  case first =>
    go_wp2_with fail
    refine (live3_any _).mono ?_
    rintro a w3 ⟨rfl, b3⟩
    have HB3 := Lib.hid b3
    clear b3
    rcases hf1 with ⟨rfl, h⟩ | ⟨bm, y, rfl, h⟩
    · cases h
      rcases hf2 with ⟨-, h⟩ | ⟨bm, y, hc, -⟩
      · cases h
        go_wp2_with fail
        go_meet
        exact ⟨rfl, HB3.out⟩
      · cases hc
    · cases h
      rcases hf2 with ⟨hc, -⟩ | ⟨bm2, y2, -, h⟩
      · cases hc
      · cases h
        go_wp2_with fail
        go_meet
        exact ⟨rfl, HB3.out⟩
  obtain ⟨h43, b3⟩ := hcut
  subst h43
  have HB3 := Lib.hid b3
  clear b3 hf1 hf2
  obtain ⟨w3, hw3⟩ : ∃ w3, w3 = wc := ⟨_, rfl⟩
  subst hw3
  have HL0 : Hid (LstE w [e0] [.pointer pp] [.pointer rp] w3.heap.size 1 (w3.heap.size + 1) 1 ((w3.alloc (.cells #[.pointer pp] 23)).alloc (.cells #[.pointer rp] 27))) := by
    obtain ⟨hp, b1, hd, b2⟩ := HPP.out
    have h1 : Below w3.heap.size w3 (w3.alloc (.cells #[.pointer pp] 23)) := (Below.refl _ _).alloc (Nat.le_refl _) _
    have e1 : (w3.alloc (.cells #[.pointer pp] 23)).heap.size = w3.heap.size + 1 := by simp
    have h2 := Lst.start hp b1 hd b2 HB3.out h1 (Blk.made _ _ _) ((Below.refl _ _).alloc (Nat.le_refl _) (.cells #[.pointer rp] 27)) (Blk.made _ _ _)
    rw [e1] at h2
    exact h2
  have HGD : Hid (Good 0 [e0]) := ⟨Nat.one_pos, Nat.le_refl _, fun y hy => by rw [List.mem_singleton.1 hy]; exact HG0.out⟩
  clear HPP HB3 HG0
  go_wp2_with fail
  go_loopw [50, 11, 12] (fun i s11 s12 wr => ∃ (k : Nat) (es : List En) (pvs rvs : List Value) (g1 c1 g2 c2 : Nat), i = .int .i64 k ∧ s11 = .slice (some ⟨g1, 0, none⟩) es.length c1 ∧ s12 = .slice (some ⟨g2, 0, none⟩) es.length c2 ∧ k ≤ l.length ∧ Good k es ∧ LstE w es pvs rvs g1 c1 g2 c2 wr) (fun i _ _ _ => l.length - (intOf i).toNat)
  case atStart => exact ⟨0, [e0], _, _, _, _, _, _, rfl, rfl, rfl, Nat.zero_le _, HGD.out, HL0.out⟩
  case round =>
    clear HL0 HGD
    obtain ⟨k, es, pvs, rvs, g1, c1, g2, c2, rfl, rfl, rfl, hk, hG, hL⟩ := hrel
    by_cases hlt : k < l.length
    · obtain ⟨x, hx⟩ : ∃ x, l[k]? = some x := ⟨_, List.getElem?_eq_getElem hlt⟩
      obtain ⟨lab, hL⟩ := hL
      have hbel : Below w.heap.size w wr := hL.bel
      have HFR : Hid (∀ j, j < es.length → lab wr.heap.size ≠ 2 * j + 1 ∧ lab wr.heap.size ≠ 2 * j + 2) := by
        intro j hj
        have hn1 := hL.n1
        have hn2 := hL.n2
        have hp := hL.pre j _ _ _ (List.getElem?_eq_getElem hj) (List.getElem?_eq_getElem (by omega)) (List.getElem?_eq_getElem (by omega))
        exact ⟨fun e => Nat.lt_irrefl _ (hp.l1 _ e).2, fun e => Nat.lt_irrefl _ (hp.l2 _ e).2⟩
      obtain ⟨sp', sc', hv, hcells⟩ := HS.out.below hbel
      injection hv with e1 e2' e3
      subst e1 e3
      clear e2'
      obtain ⟨sb, so, u, rfl, hbl, s0, s1, s2, s3, s4, s5, s6, hva⟩ := hcells k x hx
      obtain ⟨up, uc, rfl⟩ := hva.cl
      have hbase : VA w (.slice up x.vals.length uc) x.vals ∧ w.cell? ⟨sb, so + k * 7 + 6, none⟩ = some (.slice up x.vals.length uc) := by
        obtain ⟨sp2, sc2, hv2, hcells0⟩ := HS.out
        injection hv2 with e1 _ e3
        obtain ⟨sb', so', u', e4, hbl0, d0, d1, d2, d3, d4, d5, d6, hva0⟩ := hcells0 k x hx
        rw [← e1] at e4
        injection e4 with e4
        injection e4 with e5 e6 _
        subst e5 e6
        have := (hbel.cell (p := ⟨sb, so + k * 7 + 6, none⟩) hbl0).trans d6
        rw [s6] at this
        injection this with this
        rw [this]; exact ⟨hva0, d6⟩
      have HVA := Lib.hid hbase.1
      have HNL := Lib.hid (fun (n c : Nat) (h : Value.slice up x.vals.length uc = Value.slice none n c) => HNIL.out k x hx sb so _ _ rfl n c (by rw [← h]; exact hbase.2))
      have hfx := hf x (List.mem_of_getElem? hx)
      have hwx := hwd x (List.mem_of_getElem? hx)
      have hwhx := hwh x (List.mem_of_getElem? hx)
      have hpos := hG.pos
      have hlen := hG.len
      go_upto_region 9 with fail
      have hob := Blk.made wr 36 #[.int .i64 x.kind, .int .i64 x.which, .int .i64 x.thread, .int .u64 x.addr, .int .u64 x.a, .int .u64 x.b, .slice up x.vals.length uc]
      have hba := (Below.refl wr.heap.size wr).alloc (Nat.le_refl _) (.cells #[.int .i64 x.kind, .int .i64 x.which, .int .i64 x.thread, .int .u64 x.addr, .int .u64 x.a, .int .u64 x.b, .slice up x.vals.length uc] 36)
      have hLa := hL.far hba
      clear s0 s1 s2 s3 s4 s5 s6 hcells hba hva hL hbel hbase
      generalize wr.alloc _ = wa at *
      generalize wr.heap.size = ob at *
      have o0 : wa.cell? ⟨ob, 0, none⟩ = some (.int .i64 x.kind) := hob.cell 0
      have o1 : wa.cell? ⟨ob, 1, none⟩ = some (.int .i64 x.which) := hob.cell 1
      have HW := Lib.hid (which_any wa x.which es.length (by omega) (by omega) hwhx.1 hwhx.2)
      have hz0 : 0 ≤ x.which % (es.length : Int) := Int.emod_nonneg _ (by omega)
      have hz1 : x.which % (es.length : Int) < es.length := Int.emod_lt_of_pos _ (by omega)
      have HLA := Lib.hid hLa
      have HOB := Lib.hid hob
      clear hLa hob
      go_upto_block 2 with (go_at_call 7; refine HW.out.mono ?_; rintro e w4 ⟨rfl, rfl⟩)
      clear HW o1
      generalize x.which % (es.length : Int) = z at *
      obtain ⟨i, rfl⟩ : ∃ i : Nat, z = i := ⟨z.toNat, by omega⟩
      have hil : i < es.length := by omega
      clear hz0 hz1
      have hLL := HLA.out
      have hn1 := hLL.n1
      have hn2 := hLL.n2
      obtain ⟨e, he⟩ : ∃ e, es[i]? = some e := ⟨_, List.getElem?_eq_getElem hil⟩
      obtain ⟨pv, hpv⟩ : ∃ pv, pvs[i]? = some pv := ⟨_, List.getElem?_eq_getElem (by omega)⟩
      obtain ⟨rv, hrv⟩ : ∃ rv, rvs[i]? = some rv := ⟨_, List.getElem?_eq_getElem (by omega)⟩
      have hpre := hLL.pre i e pv rv he hpv hrv
      obtain ⟨p1, rfl⟩ := hpre.p.ptr
      obtain ⟨p2, rfl⟩ := hpre.d.ptr
      have m1 : wa.cell? ⟨g1, i, none⟩ = some (.pointer p1) := ownRow_cell hLL.r1 hpv
      have m2 : wa.cell? ⟨g2, i, none⟩ = some (.pointer p2) := ownRow_cell hLL.r2 hrv
      have hfine := hG.fine e (List.mem_of_getElem? he)
      have OK := Lib.hid (hfine.ok (by omega))
      have HLL := Lib.hid hLL
      have HPRE := Lib.hid hpre
      have HG := Lib.hid hG
      clear hLL hpre hG HLA
      go_cut [11, 12] (fun s11 s12 wx => ∃ (es' : List En) (pvs' rvs' : List Value) (g1' c1' g2' c2' : Nat), s11 = .slice (some ⟨g1', 0, none⟩) es'.length c1' ∧ s12 = .slice (some ⟨g2', 0, none⟩) es'.length c2' ∧ Good (k + 1) es' ∧ LstE w es' pvs' rvs' g1' c1' g2' c2' wx)
      case first =>
        have hcase : x.kind = 5 ∨ x.kind = 6 ∨ (x.kind ≠ 5 ∧ x.kind ≠ 6) := by omega
        generalize hkk : x.kind = kk at *
        obtain ⟨iM, hiM, hzM, hsM, hyM⟩ := info_parts infoMP
        obtain ⟨iR, hiR, hzR, hsR, hyR⟩ := info_parts infoRP
        have hes9 : es.length ≤ 1000000000 := by omega
        have HNE := Lib.hid HLL.out.ne
        have HPV := Lib.hid hpv
        have HRV := Lib.hid hrv
        have HE := Lib.hid he
        clear hpv hrv hn1 hn2 he
        rcases hcase with hk5 | hk6 | ⟨hk5, hk6⟩
        · subst hk5
          have sideP_g := sideP_good e.fork g1 es.length c1 pvs
          have sideD_g := sideD_good e.fork g2 es.length c2 rvs
          have HF0 : Hid (FKE w.heap.size wa (sideP e.fork g1 es.length c1 pvs) (sideD e.fork g2 es.length c2 rvs) ch0 ch0 (wa.drewN 1)) := HLL.out.fke e.fork ((Below.refl _ _).drew)
          have d1 : (wa.drewN 1).cell? ⟨g1, i, none⟩ = some (.pointer p1) := m1
          have d2 : (wa.drewN 1).cell? ⟨g2, i, none⟩ = some (.pointer p2) := m2
          have HC1 := Lib.hid (PFork (HPRE.out.p.drawn 1) OK.out)
          have HCD : Hid (∀ w', Fr (fun b => b = g1 ∨ b = g2) wa w' → Calls Try.prog 9 #[.pointer p2] w' fun a w'' => ∃ rv', a = .returned rv' ∧ DV w'' (fun b => w'.heap.size ≤ b) rv' e.fork ∧ Below w'.heap.size w' w'') :=
            fun w' hf => DFork (HPRE.out.d.fr hf (fun b hb hS => by have h1 := HLL.out.z1; have h2 := HLL.out.z2; rcases hS with rfl | rfl <;> omega)) OK.out
          have HGD : Hid (Good (k + 1) (es ++ [e.fork])) := HG.out.push hfine.fork
          clear hkk hfine
          go_wp2_with fail
          refine wp_region_held_drew (S := (fun w' => w'.cell? ⟨g1, i, none⟩ = some (.pointer p1) ∧ w'.cell? ⟨g2, i, none⟩ = some (.pointer p2))) (by kernel_rfl) (by exact ⟨m1, m2⟩) (fun hHeld => ?_)
          refine wpAnyH_take (i := 0) (v := ?vvk5_1) rfl (by kernel_rfl) (by kernel_rfl) (by kernel_rfl) (fun _ _ _ h => h) (Or.inl ⟨by rfl, ?hyk5_1⟩) hHeld ?restk5_1
          case hyk5_1 => first | (intro w hSw; (try dsimp only at hSw); go_simp; done) | (intro w hSw; (try dsimp only at hSw); go_simp; with_reducible rfl)
          try simp only [Act.put, List.setIfInBounds_toArray, List.set_cons_zero, List.set_cons_succ]
          refine wpAnyH_take (i := 1) (v := ?vvk5_2) rfl (by kernel_rfl) (by kernel_rfl) (by kernel_rfl) (fun _ _ _ h => h) (Or.inl ⟨by rfl, ?hyk5_2⟩) hHeld ?restk5_2
          case hyk5_2 => first | (intro w hSw; (try dsimp only at hSw); go_simp; done) | (intro w hSw; (try dsimp only at hSw); go_simp; with_reducible rfl)
          try simp only [Act.put, List.setIfInBounds_toArray, List.set_cons_zero, List.set_cons_succ]
          refine wpAnyH_take (i := 2) (v := ?vvk5_3) rfl (by kernel_rfl) (by kernel_rfl) (by kernel_rfl) (fun _ _ _ h => h) (Or.inl ⟨by rfl, ?hyk5_3⟩) hHeld ?restk5_3
          case hyk5_3 => first | (intro w hSw; (try dsimp only at hSw); go_simp; done) | (intro w hSw; (try dsimp only at hSw); go_simp; with_reducible rfl)
          try simp only [Act.put, List.setIfInBounds_toArray, List.set_cons_zero, List.set_cons_succ]
          refine wpAnyH_take (i := 3) (v := ?vvk5_4) rfl (by kernel_rfl) (by kernel_rfl) (by kernel_rfl) (fun _ _ _ h => h) (Or.inl ⟨by rfl, ?hyk5_4⟩) hHeld ?restk5_4
          case hyk5_4 => first | (intro w hSw; (try dsimp only at hSw); go_simp; done) | (intro w hSw; (try dsimp only at hSw); go_simp; with_reducible rfl)
          try simp only [Act.put, List.setIfInBounds_toArray, List.set_cons_zero, List.set_cons_succ]
          refine wpAnyH_take (i := 4) (v := ?vvk5_5) rfl (by kernel_rfl) (by kernel_rfl) (by kernel_rfl) (fun _ _ _ h => h) (Or.inl ⟨by rfl, ?hyk5_5⟩) hHeld ?restk5_5
          case hyk5_5 => first | (intro w hSw; (try dsimp only at hSw); go_simp; done) | (intro w hSw; (try dsimp only at hSw); go_simp; with_reducible rfl)
          try simp only [Act.put, List.setIfInBounds_toArray, List.set_cons_zero, List.set_cons_succ]
          refine wpAnyH_take (i := 8) (v := ?vvk5_6) rfl (by kernel_rfl) (by kernel_rfl) (by kernel_rfl) (fun _ _ _ h => h) (Or.inl ⟨by rfl, ?hyk5_6⟩) hHeld ?restk5_6
          case hyk5_6 => first | (intro w hSw; (try dsimp only at hSw); go_simp; done) | (intro w hSw; (try dsimp only at hSw); go_simp; with_reducible rfl)
          try simp only [Act.put, List.setIfInBounds_toArray, List.set_cons_zero, List.set_cons_succ]
          refine wpAnyH_take (i := 9) (v := ?vvk5_7) rfl (by kernel_rfl) (by kernel_rfl) (by kernel_rfl) (fun _ _ _ h => h) (Or.inl ⟨by rfl, ?hyk5_7⟩) hHeld ?restk5_7
          case hyk5_7 => first | (intro w hSw; (try dsimp only at hSw); go_simp; done) | (intro w hSw; (try dsimp only at hSw); go_simp; with_reducible rfl)
          try simp only [Act.put, List.setIfInBounds_toArray, List.set_cons_zero, List.set_cons_succ]
          refine wpAnyH_take (i := 10) (v := ?vvk5_8) rfl (by kernel_rfl) (by kernel_rfl) (by kernel_rfl) (fun _ _ _ h => h) (Or.inl ⟨by rfl, ?hyk5_8⟩) hHeld ?restk5_8
          case hyk5_8 => first | (intro w hSw; (try dsimp only at hSw); go_simp; done) | (intro w hSw; (try dsimp only at hSw); go_simp; with_reducible rfl)
          try simp only [Act.put, List.setIfInBounds_toArray, List.set_cons_zero, List.set_cons_succ]
          refine wpAnyH_take (i := 11) (v := ?vvk5_9) rfl (by kernel_rfl) (by kernel_rfl) (by kernel_rfl) (fun _ _ _ h => h) (Or.inl ⟨by rfl, ?hyk5_9⟩) hHeld ?restk5_9
          case hyk5_9 => first | (intro w hSw; (try dsimp only at hSw); go_simp; done) | (intro w hSw; (try dsimp only at hSw); go_simp; with_reducible rfl)
          try simp only [Act.put, List.setIfInBounds_toArray, List.set_cons_zero, List.set_cons_succ]
          refine wpAnyH_take (i := 12) (v := ?vvk5_10) rfl (by kernel_rfl) (by kernel_rfl) (by kernel_rfl) (fun _ _ _ h => h) (Or.inl ⟨by rfl, ?hyk5_10⟩) hHeld ?restk5_10
          case hyk5_10 => first | (intro w hSw; (try dsimp only at hSw); go_simp; done) | (intro w hSw; (try dsimp only at hSw); go_simp; with_reducible rfl)
          try simp only [Act.put, List.setIfInBounds_toArray, List.set_cons_zero, List.set_cons_succ]
          refine wpAnyH_ready (rs := [5]) (by kernel_rfl) (by simp) ?_
          refine AllReadyH.cons rfl (fun K hK => ?_) AllReadyH.nil
          go_simp
          refine HC1.out.mono ?_
          rintro a w5 ⟨v1, rfl, hv5, hb5⟩
          obtain ⟨q1, rfl⟩ := hv5.ptr
          have HF5 := Lib.hid (HF0.out.call sideP_g sideD_g rfl hb5 hv5)
          have n1 := tcell d1 hb5
          have n2 := tcell d2 hb5
          clear hv5 hb5 HC1
          refine hK.out _ _ (by exact ⟨n1, n2⟩) (fun hHeld => ?_)
          clear hK K
          refine wpAnyH_ready (rs := [6]) (by kernel_rfl) (by simp) ?_
          refine AllReadyH.cons rfl (fun K hK => ?_) AllReadyH.nil
          go_simp
          have hba : Below w5.heap.size w5 (w5.alloc (.cells #[.pointer q1] 23)) := (Below.refl _ _).alloc (Nat.le_refl _) _
          have HF6 := Lib.hid (HF5.out.build sideP_g sideD_g rfl hba (Blk.made _ _ _))
          have r1 := tcell n1 hba
          have r2 := tcell n2 hba
          have HC6 := Lib.hid (HF6.out.blk1 rfl)
          have HO6 := Lib.hid (HF6.out.own1 (Nat.le_refl 3))
          have HS6 := Lib.hid HF6.out.frame.2
          clear hba
          refine hK.out _ _ (by exact ⟨r1, r2⟩) (fun hHeld => ?_)
          clear hK K
          refine wpAnyH_ready (rs := [7]) (by kernel_rfl) (by simp) ?_
          refine AllReadyH.cons rfl (fun K hK => ?_) AllReadyH.nil
          refine step_one rfl _ _ rfl Try.underlying31 hiM hzM hsM hyM rfl rfl rfl rfl HO6.out HC6.out hes9 HS6.out ?_
          intro g1' c1' w7 ho7 hg7 hn7 hc7
          have HF7 := Lib.hid (HF6.out.app sideP_g sideD_g rfl ho7 hg7 hn7)
          have z1 : w7.cell? ⟨g1, i, none⟩ = some (.pointer p1) := hc7 i _ HPV.out
          have z2 : w7.cell? ⟨g2, i, none⟩ = some (.pointer p2) := hg7.cell r2 (by intro e; injection e with e; exact HNE.out e.symm)
          have HC7 := Lib.hid (HCD.out w7 HF7.out.frame.1)
          clear ho7 hg7 hn7 hc7 HF5 HC6 HO6 HS6
          refine hK.out _ _ (by exact ⟨z1, z2⟩) (fun hHeld => ?_)
          clear hK K
          refine wpAnyH_ready (rs := [13]) (by kernel_rfl) (by simp) ?_
          refine AllReadyH.cons rfl (fun K hK => ?_) AllReadyH.nil
          go_simp
          refine HC7.out.mono ?_
          rintro a w8 ⟨v2, rfl, hv8, hb8⟩
          obtain ⟨q2, rfl⟩ := hv8.ptr
          have HF8 := Lib.hid (HF7.out.swap.call sideD_g sideP_g rfl hb8 hv8)
          have y1 := tcell z1 hb8
          have y2 := tcell z2 hb8
          clear hv8 hb8 HC7
          refine hK.out _ _ (by exact ⟨y1, y2⟩) (fun hHeld => ?_)
          clear hK K
          refine wpAnyH_ready (rs := [14]) (by kernel_rfl) (by simp) ?_
          refine AllReadyH.cons rfl (fun K hK => ?_) AllReadyH.nil
          go_simp
          have hba : Below w8.heap.size w8 (w8.alloc (.cells #[.pointer q2] 27)) := (Below.refl _ _).alloc (Nat.le_refl _) _
          have HF9 := Lib.hid (HF8.out.build sideD_g sideP_g rfl hba (Blk.made _ _ _))
          have x1 := tcell y1 hba
          have x2 := tcell y2 hba
          have HC9 := Lib.hid (HF9.out.blk1 rfl)
          have HO9 := Lib.hid (HF9.out.own1 (Nat.le_refl 3))
          have HS9 := Lib.hid HF9.out.frame.2
          clear hba
          refine hK.out _ _ (by exact ⟨x1, x2⟩) (fun hHeld => ?_)
          clear hK K
          refine wpAnyH_ready (rs := [15]) (by kernel_rfl) (by simp) ?_
          refine AllReadyH.cons rfl (fun K hK => ?_) AllReadyH.nil
          refine step_one rfl _ _ rfl Try.underlying32 hiR hzR hsR hyR rfl rfl rfl rfl HO9.out HC9.out hes9 HS9.out ?_
          intro g2' c2' wb ho7 hg7 hn7 hc7
          have HFB := Lib.hid (HF9.out.app sideD_g sideP_g rfl ho7 hg7 hn7).swap
          have t2 : wb.cell? ⟨g2, i, none⟩ = some (.pointer p2) := hc7 i _ HRV.out
          have t1 : wb.cell? ⟨g1, i, none⟩ = some (.pointer p1) := hg7.cell x1 (by intro e; injection e with e; exact HNE.out e)
          clear ho7 hg7 hn7 hc7 HF8 HC9 HO9 HS9
          refine hK.out _ _ (by exact ⟨t1, t2⟩) (fun hHeld => ?_)
          clear hK K
          refine wpAnyH_take (i := 16) (v := ?vvk5_11) rfl (by kernel_rfl) (by kernel_rfl) (by kernel_rfl) (fun _ _ _ h => h) (Or.inl ⟨by rfl, ?hyk5_11⟩) hHeld ?restk5_11
          case hyk5_11 => first | (intro w hSw; (try dsimp only at hSw); go_simp; done) | (intro w hSw; (try dsimp only at hSw); go_simp; with_reducible rfl)
          try simp only [Act.put, List.setIfInBounds_toArray, List.set_cons_zero, List.set_cons_succ]
          refine wpAnyH_take (i := 17) (v := ?vvk5_12) rfl (by kernel_rfl) (by kernel_rfl) (by kernel_rfl) (fun _ _ _ h => h) (Or.inl ⟨by rfl, ?hyk5_12⟩) hHeld ?restk5_12
          case hyk5_12 => first | (intro w hSw; (try dsimp only at hSw); go_simp; done) | (intro w hSw; (try dsimp only at hSw); go_simp; with_reducible rfl)
          try simp only [Act.put, List.setIfInBounds_toArray, List.set_cons_zero, List.set_cons_succ]
          refine wpAnyH_done (by kernel_rfl) ?_ _
          go_wp2_with fail
          go_meet
          exact ⟨es ++ [e.fork], _, _, _, _, _, _, by simp, by simp, HGD.out, HLL.out.grown rfl rfl HFB.out⟩
        · subst hk6
          have sideP_g := sideP_good none g1 es.length c1 pvs
          have sideD_g := sideD_good none g2 es.length c2 rvs
          have HF0 : Hid (FKE w.heap.size wa (sideP none g1 es.length c1 pvs) (sideD none g2 es.length c2 rvs) ch0 ch0 wa) := HLL.out.fke none (Below.refl _ _)
          have HF1 : Hid (FKE w.heap.size wa (sideP none g1 es.length c1 pvs) (sideD none g2 es.length c2 rvs) ⟨1, .pointer none, 0, 0, 0⟩ ⟨1, .pointer none, 0, 0, 0⟩ wa) := ((HF0.out.plain rfl rfl).swap.plain rfl rfl).swap
          have HF2 := Lib.hid (HF1.out.build sideP_g sideD_g rfl ((Below.refl _ _).alloc (Nat.le_refl _) (.cells #[.pointer none] 23)) (Blk.made _ _ _))
          have HC2 := Lib.hid (HF2.out.blk1 rfl)
          have HO2 := Lib.hid (HF2.out.own1 (Nat.le_refl 3))
          have HS2 := Lib.hid HF2.out.frame.2
          have HGD : Hid (Good (k + 1) (es ++ [none])) := HG.out.push trivial
          clear hkk hfine HF0 HF1
          go_wp2_with (at_builtin; first
            | (refine list_one rfl _ _ rfl Try.underlying31 hiM hzM hsM hyM rfl rfl rfl rfl HO2.out HC2.out hes9 HS2.out ?_
               intro g1' c1' w7 ho7 hg7 hn7
               have HF7 := Lib.hid (HF2.out.app sideP_g sideD_g rfl ho7 hg7 hn7)
               have HF9 := Lib.hid (HF7.out.swap.build sideD_g sideP_g rfl ((Below.refl _ _).alloc (Nat.le_refl _) (.cells #[.pointer none] 27)) (Blk.made _ _ _))
               have HC9 := Lib.hid (HF9.out.blk1 rfl)
               have HO9 := Lib.hid (HF9.out.own1 (Nat.le_refl 3))
               have HS9 := Lib.hid HF9.out.frame.2
               clear ho7 hg7 hn7 HC2 HO2 HS2)
            | (refine list_one rfl _ _ rfl Try.underlying32 hiR hzR hsR hyR rfl rfl rfl rfl HO9.out HC9.out hes9 HS9.out ?_
               intro g2' c2' wb ho7 hg7 hn7
               have HFB := Lib.hid (HF9.out.app sideD_g sideP_g rfl ho7 hg7 hn7).swap
               clear ho7 hg7 hn7 HC9 HO9 HS9))
          go_meet
          exact ⟨es ++ [none], _, _, _, _, _, _, by simp, by simp, HGD.out, HLL.out.grown rfl rfl HFB.out⟩
        · have HSC : Hid (∀ w' : World, Fr (fun b => lab b = 2 * i + 1 ∨ lab b = 2 * i + 2) wa w' → w'.cell? ⟨g1, i, none⟩ = some (.pointer p1) ∧ w'.cell? ⟨g2, i, none⟩ = some (.pointer p2) ∧ w'.cell? ⟨ob, 0, none⟩ = some (.int .i64 kk) ∧ w'.cell? ⟨ob, 1, none⟩ = some (.int .i64 x.which) ∧ w'.cell? ⟨ob, 2, none⟩ = some (.int .i64 x.thread) ∧ w'.cell? ⟨ob, 3, none⟩ = some (.int .u64 x.addr) ∧ w'.cell? ⟨ob, 4, none⟩ = some (.int .u64 x.a) ∧ w'.cell? ⟨ob, 5, none⟩ = some (.int .u64 x.b) ∧ w'.cell? ⟨ob, 6, none⟩ = some (.slice up x.vals.length uc)) := by
            intro w' hf
            have h0 := HFR.out i hil
            have hB := HOB.out.fr hf (by omega)
            have h1 := ownRow_cell (own_fr HLL.out.r1 hf (fun g eg hn => by injection eg with eg; have h3 : lab g = 0 := by rw [← eg]; exact HLL.out.z1
                                                                            omega)) HPV.out
            have h2 := ownRow_cell (own_fr HLL.out.r2 hf (fun g eg hn => by injection eg with eg; have h3 : lab g = 0 := by rw [← eg]; exact HLL.out.z2
                                                                            omega)) HRV.out
            exact ⟨h1, h2, hB.cell 0, hB.cell 1, hB.cell 2, hB.cell 3, hB.cell 4, hB.cell 5, hB.cell 6⟩
          have HCALL : Hid (Calls Try.prog 10 #[.pointer p1, .pointer p2, .agg #[.int .i64 kk, .int .i64 x.which, .int .i64 x.thread, .int .u64 x.addr, .int .u64 x.a, .int .u64 x.b, .slice up x.vals.length uc]] wa.drew fun a w' => a = .returned (.bool true) ∧ (w'.cell? ⟨g1, i, none⟩ = some (.pointer p1) ∧ w'.cell? ⟨g2, i, none⟩ = some (.pointer p2) ∧ w'.cell? ⟨ob, 0, none⟩ = some (.int .i64 kk) ∧ w'.cell? ⟨ob, 1, none⟩ = some (.int .i64 x.which) ∧ w'.cell? ⟨ob, 2, none⟩ = some (.int .i64 x.thread) ∧ w'.cell? ⟨ob, 3, none⟩ = some (.int .u64 x.addr) ∧ w'.cell? ⟨ob, 4, none⟩ = some (.int .u64 x.a) ∧ w'.cell? ⟨ob, 5, none⟩ = some (.int .u64 x.b) ∧ w'.cell? ⟨ob, 6, none⟩ = some (.slice up x.vals.length uc)) ∧ LstE w (es.set i (e.did x)) pvs rvs g1 c1 g2 c2 w') := by
            have h1 := Call_any (wb := w) (w0 := wa.drew) (x := x) (HPRE.out.far ((Below.refl _ wa).drew)) OK.out hfx HVA.out HNL.out
            rw [hkk] at h1
            refine h1.mono ?_
            rintro a w' ⟨rfl, P1, P2, hA⟩
            have hA' : After w wa (fun b => lab b = 2 * i + 1) (fun b => lab b = 2 * i + 2) (.pointer p1) (.pointer p2) (e.did x) P1 P2 w' := ⟨hA.pre, hA.n1, hA.n2, ⟨hA.fr.os, hA.fr.tape, hA.fr.output, hA.fr.size, hA.fr.block⟩⟩
            exact ⟨rfl, HSC.out w' hA'.fr, HLL.out.called HE.out HPV.out HRV.out hA'⟩
          have HGD : Hid (Good (k + 1) (es.set i (e.did x))) := HG.out.set HE.out hfx hwx
          clear hkk hfine
          go_wp2_with fail
          go_region_held3 (fun w' => w'.cell? ⟨g1, i, none⟩ = some (.pointer p1) ∧ w'.cell? ⟨g2, i, none⟩ = some (.pointer p2) ∧ w'.cell? ⟨ob, 0, none⟩ = some (.int .i64 kk) ∧ w'.cell? ⟨ob, 1, none⟩ = some (.int .i64 x.which) ∧ w'.cell? ⟨ob, 2, none⟩ = some (.int .i64 x.thread) ∧ w'.cell? ⟨ob, 3, none⟩ = some (.int .u64 x.addr) ∧ w'.cell? ⟨ob, 4, none⟩ = some (.int .u64 x.a) ∧ w'.cell? ⟨ob, 5, none⟩ = some (.int .u64 x.b) ∧ w'.cell? ⟨ob, 6, none⟩ = some (.slice up x.vals.length uc))
            (first | exact HSC.out _ ((Fr.refl _ wa).drawn 1) | exact HSC.out _ (Fr.refl _ wa) | exact hS5)
            (first | ((with_reducible refine HCALL.out.mono ?_); rintro a w5 ⟨rfl, hS5, hL5⟩))
          all_goals
            go_wp2_with fail
            go_meet
            exact ⟨es.set i (e.did x), pvs, rvs, g1, c1, g2, c2, by rw [List.length_set], by rw [List.length_set], HGD.out, hL5⟩
      case rest =>
        obtain ⟨es', pvs', rvs', g1', c1', g2', c2', h11, h12, hG', lab', hL'⟩ := hcut
        subst h11 h12
        have hpos' := hG'.pos
        obtain ⟨m, hm⟩ : ∃ m, es'.length = m + 1 := ⟨es'.length - 1, by omega⟩
        have hn1' := hL'.n1
        have hn2' := hL'.n2
        have he' : es'[m]? = some (es'[m]'(by omega)) := List.getElem?_eq_getElem _
        obtain ⟨pv, hpv'⟩ : ∃ pv, pvs'[m]? = some pv := ⟨_, List.getElem?_eq_getElem (by omega)⟩
        obtain ⟨rv, hrv'⟩ : ∃ rv, rvs'[m]? = some rv := ⟨_, List.getElem?_eq_getElem (by omega)⟩
        have hpre' := hL'.pre m _ pv rv he' hpv' hrv'
        have hf1 := hpre'.p.form
        have hf2 := hpre'.d.form
        have e1 : wc.cell? ⟨g1', m, none⟩ = some pv := ownRow_cell hL'.r1 hpv'
        have e2 : wc.cell? ⟨g2', m, none⟩ = some rv := ownRow_cell hL'.r2 hrv'
        have HEND : Hid (∀ d : Nat, ∃ (k' : Nat) (es : List En) (pvs rvs : List Value) (a1 b1 a2 b2 : Nat), Value.int .i64 ((k : Int) + 1) = .int .i64 k' ∧ Value.slice (some ⟨g1', 0, none⟩) (m + 1) c1' = .slice (some ⟨a1, 0, none⟩) es.length b1 ∧ Value.slice (some ⟨g2', 0, none⟩) (m + 1) c2' = .slice (some ⟨a2, 0, none⟩) es.length b2 ∧ k' ≤ l.length ∧ Good k' es ∧ LstE w es pvs rvs a1 b1 a2 b2 (wc.drewN d)) := by
          intro d
          exact ⟨k + 1, es', pvs', rvs', g1', c1', g2', c2', by go_num, by rw [hm], by rw [hm], by omega, hG', lab', hL'.far (bdn (Below.refl _ wc) (Nat.le_refl _) d)⟩
        generalize es'[m]'(by omega) = em at *
        rw [hm]
        have hkl : k < l.length := hlt
        have hmb : m ≤ 1048577 := by have := hG'.len; omega
        clear HLL HPRE HG HOB HFR HS HNIL HVA HNL OK hfine he hpv hrv m1 m2 hn1 hn2 hfx hwx hwhx o0 hx hG' hL' hpre' hpv' hrv' he' hn1' hn2' hm hpos'
        rcases hf1 with ⟨rfl, rfl⟩ | ⟨bm, y, rfl, rfl⟩
        · rcases hf2 with ⟨-, rfl⟩ | ⟨bm, y, hc, -⟩
          · go_wp2
            go_quiet (fail)
            all_goals
              go_wp2_with fail
              go_roundw
              case rel => exact HEND.out nq
              case measure => simp [intOf]; omega
          · cases hc
        · rcases hf2 with ⟨hc, -⟩ | ⟨bm2, y2, -, rfl⟩
          · cases hc
          · go_wp2
            go_quiet (fail)
            all_goals
              go_wp2_with fail
              go_roundw
              case rel => exact HEND.out nq
              case measure => simp [intOf]; omega
    · obtain rfl : k = l.length := by omega
      have HG := Lib.hid hG
      have HL := Lib.hid hL
      have hlen := hG.len
      have hpos := hG.pos
      clear hG hL HS HNIL
      go_wp2_with fail
      go_loopw [17] (fun i wx => ∃ k : Nat, i = .int .i64 k ∧ k ≤ es.length ∧ LstE w es pvs rvs g1 c1 g2 c2 wx) (fun i _ => es.length - (intOf i).toNat)
      case atStart => exact ⟨0, rfl, Nat.zero_le _, HL.out⟩
      case round =>
        clear HL
        obtain ⟨i, rfl, hi, lab, hL⟩ := hrel
        by_cases hil : i < es.length
        · have hn1 := hL.n1
          have hn2 := hL.n2
          obtain ⟨e, he⟩ : ∃ e, es[i]? = some e := ⟨_, List.getElem?_eq_getElem hil⟩
          obtain ⟨pv, hpv⟩ : ∃ pv, pvs[i]? = some pv := ⟨_, List.getElem?_eq_getElem (by omega)⟩
          obtain ⟨rv, hrv⟩ : ∃ rv, rvs[i]? = some rv := ⟨_, List.getElem?_eq_getElem (by omega)⟩
          have hpre := hL.pre i e pv rv he hpv hrv
          obtain ⟨p1, rfl⟩ := hpre.p.ptr
          obtain ⟨p2, rfl⟩ := hpre.d.ptr
          have OK := (HG.out.fine e (List.mem_of_getElem? he)).ok (by omega)
          have HAL : Hid (Calls Try.prog 11 #[.pointer p1, .pointer p2, .int .u64 0] wr.drew fun a w' => a = .returned (.bool true) ∧ Below wr.heap.size wr w') := by
            refine (Alike_any (w := wr.drew) (hpre.p.drawn 1) (hpre.d.drawn 1) OK 0 (by decide)).mono ?_
            rintro a w' ⟨rfl, hb⟩
            exact ⟨rfl, (Below.refl _ wr).drew.trans hb⟩
          have HSC : Hid (∀ w', Below wr.heap.size wr w' → w'.cell? ⟨g1, i, none⟩ = some (.pointer p1) ∧ w'.cell? ⟨g2, i, none⟩ = some (.pointer p2)) := fun w' hb => ⟨tcell (ownRow_cell hL.r1 hpv) hb, tcell (ownRow_cell hL.r2 hrv) hb⟩
          have HLL := Lib.hid hL
          clear hL hpre he hpv hrv hn1 hn2 OK
          go_wp2_with fail
          go_region_held3 (fun w' => w'.cell? ⟨g1, i, none⟩ = some (.pointer p1) ∧ w'.cell? ⟨g2, i, none⟩ = some (.pointer p2))
            (first | exact HSC.out _ (Below.refl _ _).drew | exact HSC.out _ (Below.refl _ _) | exact HSC.out _ hb5)
            (first | ((with_reducible refine HAL.out.mono ?_); rintro a w5 ⟨rfl, hb5⟩))
          all_goals
            have HL5 := Lib.hid (HLL.out.far hb5)
            go_wp2_with fail
            go_roundw
            case rel => exact ⟨i + 1, by go_num, by omega, lab, HL5.out⟩
            case measure => simp [intOf]; omega
        · obtain rfl : i = es.length := by omega
          have HB := Lib.hid hL.bel
          clear hL
          go_wp2
          go_ret
          exact ⟨rfl, HB.out⟩
end
end Go.Proofs.Ythggpbbnhjaegaa

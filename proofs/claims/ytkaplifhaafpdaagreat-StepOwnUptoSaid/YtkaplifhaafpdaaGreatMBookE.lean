/-
  Rows of shutter/api.Event that a book keeps: take, alone. No condition.
-/
import Derived.Test.YtkaplifhaafpdaaGreatMBookP4
import Derived.LoopTactic
import Derived.IntWalk
namespace Go.Proofs.YtkaplifhaafpdaaGreat
open Go Go.RowKit
set_option linter.unusedSimpArgs false
set_option linter.unusedVariables false
def mkE (i : Nat) : List Value := [.int .i64 (-7 - (i : Int)), .int .i64 0, .int .i64 0, .bool false]
theorem mkE_len (i : Nat) : (mkE i).length = 4 := rfl
theorem infoEE : (Tryz.prog.info? 97).map (fun i => (i.zero, i.size, i.bytes)) = some (some (.agg #[.int .i64 0, .int .i64 0, .int .i64 0, .bool false]), 4, 32) := by kernel_rfl
theorem infoEL : (Tryz.prog.info? 59).map (fun i => (i.zero, i.size, i.bytes)) = some (some (.slice none 0 0), 1, 24) := by kernel_rfl
section
variable {w w' wx : World} {B bk : Nat} {cs : Array Value} {lv : Value} {L : List Value} {C : Nat → List Value} {N : Nat → Nat} {lab : Nat → Nat}
set_option maxHeartbeats 2000000 in
set_option maxRecDepth 100000 in
theorem takeE (hb : Blk w bk 51 cs) (hc : cs[5]? = some lv) (hl : w.ownsRow B 59 1 lv L.length L) (hB : B ≤ w.heap.size) (p : Option Addr) (n c : Nat) (hn : L.length ≤ 10000000) :
    Calls Tryz.prog 8 #[.pointer (some ⟨bk, 0, none⟩), .slice p n c] w fun e w' => e = .returned (.tuple #[]) ∧ ∃ lv', Blk w' bk 51 (cs.setIfInBounds 5 lv') ∧ w'.ownsRow B 59 1 lv' (L.length + 1) (L ++ [.slice p n c]) ∧
      Fr (fun k => k = bk ∨ lv.ownBlock = some k) w w' ∧ (∀ g, lv'.ownBlock = some g → lv.ownBlock = some g ∨ w.heap.size ≤ g) := by
  have c1 : w.cell? ⟨bk, 5, none⟩ = some lv := (hb.cell 5).trans hc
  have f1 := hb.cold 5
  have hbl := hb.lt
  obtain ⟨i0, hi, hz0, hz1, hz2⟩ := info_parts infoEL
  have hal : Fr (fun _ => False) w (w.alloc (.cells #[.slice p n c] 59)) := (Fr.refl (fun _ => False) w).alloc _
  have hown := own_fr hl hal (fun _ _ e => e)
  have hb1 := hb.fr hal (fun e => e)
  have HB := Lib.hid hb
  have HL := Lib.hid hl
  have HB1 := Lib.hid hb1
  have HAL := Lib.hid hal
  have hz : (w.alloc (.cells #[.slice p n c] 59)).heap.size = w.heap.size + 1 := by simp
  have HZ := Lib.hid hz
  clear hb hl hb1 hal hz
  have HE : Hid (∀ v' w1, w1.ownsRow B 59 1 v' (L.length + 1) (L ++ [.slice p n c]) → Fate (w.alloc (.cells #[.slice p n c] 59)) w1 lv v' L.length 1 → ∃ vp vc, v' = .slice vp (L.length + 1) vc ∧ w1.cell? ⟨bk, 5, none⟩ = some lv ∧ w1.frozen? ⟨bk, 5, none⟩ = false ∧
      Hid (Blk (w1.setCell ⟨bk, 5, none⟩ v') bk 51 (cs.setIfInBounds 5 v') ∧ (w1.setCell ⟨bk, 5, none⟩ v').ownsRow B 59 1 v' (L.length + 1) (L ++ [.slice p n c]) ∧
      Fr (fun k => k = bk ∨ lv.ownBlock = some k) w (w1.setCell ⟨bk, 5, none⟩ v') ∧ (∀ g, v'.ownBlock = some g → lv.ownBlock = some g ∨ w.heap.size ≤ g))) := by
    intro v' w1 hown' hfate
    have hgr := hfate.grown
    have hF : Fr (fun k => lv.ownBlock = some k) w w1 := ((HAL.out.mono (fun _ _ e => e.elim)).trans ((Fr.refl (fun k => lv.ownBlock = some k) _).grown hgr (fun k e => .inl e)))
    have hlb : ¬ lv.ownBlock = some bk := own_ne HL.out HB.out (by decide)
    have hb2 := HB.out.fr hF hlb
    have hvb : v'.ownBlock ≠ some bk := own_ne hown' hb2 (by decide)
    obtain ⟨vp, vc, rfl⟩ := bk_form hown'
    refine ⟨vp, vc, rfl, (hb2.cell 5).trans hc, hb2.cold 5, hb2.put 5 _, own_fr hown' ((Fr.refl (fun b => b = bk) w1).put (p := ⟨bk, 5, none⟩) (.inl rfl) _) (fun g e e2 => hvb (e2 ▸ e)), ((hF.mono (fun _ _ e => .inr e)).put (p := ⟨bk, 5, none⟩) (.inl (.inl rfl)) _), ?_⟩
    intro g e
    rcases hfate with ⟨g', c', e1, e2, _⟩ | ⟨e1, _⟩
    · left; rw [e1]; rw [e2] at e; exact e
    · right; rw [e1] at e; injection e with e; have := HZ.out; omega
  go_enter Tryz.func8, Tryz.ntmps8
  go_wp2_with (at_builtin; refine wpList_append_fate rfl _ _ 35 rfl B 59 i0 _ 1 24 Tryz.underlying35 hi hz0 hz1 hz2 rfl (by decide) lv L.length L rfl hown ⟨w.heap.size, 0, none⟩ 1 1 [.slice p n c] rfl rfl (cell_one_new _ _ _) (by simp [Value.oneCell']) (by decide) (by unfold maxLen; omega) (by omega) (by simp; omega) ?_; intro v' w1 hown' hfate; obtain ⟨vp, vc, rfl, c2, f2, HH⟩ := HE.out _ _ hown' hfate; clear hown' hfate)
  go_end0
  exact ⟨rfl, _, HH.out⟩
set_option maxHeartbeats 4000000 in
set_option maxRecDepth 100000 in
theorem aloneE (hb : Blk w bk 51 cs) (hc : cs[5]? = some lv) (hl : w.ownsRow B 59 1 lv L.length L) (hp : Pcz w 97 4 B lab L N C) (hB : B ≤ w.heap.size) (hn : L.length ≤ 10000000) (hlen : ∀ j, N j ≤ 1000000000) :
    Calls Tryz.prog 39 #[.pointer (some ⟨bk, 0, none⟩)] w fun e w' => e = .returned (.bool true) ∧ Fr (inL L) w w' := by
  have hbk : ¬ inL L bk := by
    rintro ⟨v, hv, e⟩
    obtain ⟨j, hj, rfl⟩ := List.getElem_of_mem hv
    exact own_ne (hp.own j _ (List.getElem?_eq_getElem hj)) hb (by decide) e
  have hlb : ∀ g, lv.ownBlock = some g → ¬ inL L g := by
    rintro g e ⟨v, hv, e2⟩
    obtain ⟨j, hj, rfl⟩ := List.getElem_of_mem hv
    obtain ⟨cs1, h1⟩ := bk_blk (hp.own j _ (List.getElem?_eq_getElem hj)) e2
    exact own_ne hl h1 (by decide) e
  obtain ⟨lp, lc, rfl⟩ := bk_form hl
  have HRD : Hid (∀ wr, Fr (inL L) w wr → wr.cell? ⟨bk, 5, none⟩ = some (.slice lp L.length lc) ∧ ∀ (i : Nat) v, L[i]? = some v → ∃ g, lp = some ⟨g, 0, none⟩ ∧ wr.cell? ⟨g, i, none⟩ = some v) := by
    intro wr hf
    refine ⟨((hb.fr hf hbk).cell 5).trans hc, fun i v hv => ?_⟩
    have ho := own_fr hl hf hlb
    have hi := (List.getElem?_eq_some_iff.1 hv).1
    obtain ⟨g, c, e, _, _⟩ := bk_form1 ho (by omega)
    injection e with e1 _ e3
    subst e1 e3
    exact ⟨g, rfl, own_cell ho hv⟩
  have HP := Lib.hid hp
  have HLEN := Lib.hid hlen
  obtain ⟨i0, hi, hz0, hz1, hz2⟩ := info_parts infoEE
  obtain ⟨i1, hj, hy0, hy1, hy2⟩ := info_parts infoEL
  clear hb hc hl hp hbk hlb hlen
  go_enter Tryz.func39, Tryz.ntmps39
  go_wp2_with fail
  go_loopw [3] (fun s3 wr => ∃ i : Nat, s3 = .int .i64 i ∧ i ≤ L.length ∧ Pcz wr 97 4 B lab L N (phz 4 mkE N C i 0) ∧ Fr (inL L) w wr) (fun s3 _ => L.length - (intOf s3).toNat)
  case atStart => exact ⟨0, rfl, Nat.zero_le _, by rw [phz_zero]; exact HP.out, Fr.refl _ _⟩
  case round =>
    obtain ⟨i, rfl, hiL, hpc, hfr⟩ := hrel
    obtain ⟨c1, hci⟩ := HRD.out _ hfr
    by_cases hlt : i < L.length
    · obtain ⟨v, hv⟩ : ∃ v, L[i]? = some v := ⟨_, List.getElem?_eq_getElem hlt⟩
      obtain ⟨lg, rfl, d1⟩ := hci i v hv
      have ho := hpc.own i v hv
      have HC0 : Hid ((C i).length = N i * 4) := (HP.out.own i v hv).1
      obtain ⟨vp, vc, rfl⟩ := bk_form ho
      have hli := HLEN.out i
      clear hci
      obtain ⟨wo, rfl⟩ : ∃ wo : World, wo = wr := ⟨_, rfl⟩
      have HV := Lib.hid hv
      have HPC := Lib.hid hpc
      have HFR := Lib.hid hfr
      clear hv ho hpc hfr
      go_wp2_with fail
      go_loopw [4] (fun s4 wx => ∃ k : Nat, s4 = .int .i64 k ∧ k ≤ N i ∧ Pcz wx 97 4 B lab L N (phz 4 mkE N C i k) ∧ Fr (inL L) w wx) (fun s4 _ => N i - (intOf s4).toNat)
      case atStart => exact ⟨0, rfl, Nat.zero_le _, HPC.out, HFR.out⟩
      case round =>
        obtain ⟨k, rfl, hk, hpk, hfk⟩ := hrel
        obtain ⟨c1, hci⟩ := HRD.out _ hfk
        obtain ⟨lg', e', d1⟩ := hci i _ HV.out
        obtain rfl : lg = lg' := by injection e' with e'; injection e'
        clear e' hci
        by_cases hlk : k < N i
        · have ho := hpk.own i _ HV.out
          obtain ⟨g, c, e, _, _⟩ := bk_form1 ho (by omega)
          injection e with e1 _ e3
          subst e1 e3
          have hset := Lib.hid (phz_set (z := 4) (mk := mkE) (C := C) (N := N) (i := i) (k := k) (mkE_len i) hlk HC0.out)
          have hput := Lib.hid (hpk.write4 HV.out rfl hlk (.int .i64 (-7 - (i : Int))) (.int .i64 0) (.int .i64 0) (.bool false))
          have hfp := Lib.hid (fr_put4 (g := g) hfk ⟨_, List.mem_of_getElem? HV.out, rfl⟩ (k * 4) (k * 4 + 1) (k * 4 + 2) (k * 4 + 3) (.int .i64 (-7 - (i : Int))) (.int .i64 0) (.int .i64 0) (.bool false))
          have hxl : (phz 4 mkE N C i k i).length = N i * 4 := ho.1
          obtain ⟨xs, hxs⟩ : ∃ xs, xs = phz 4 mkE N C i k i := ⟨_, rfl⟩
          rw [← hxs] at ho hxl
          obtain ⟨o0, h0⟩ : ∃ o, xs[k * 4]? = some o := ⟨_, List.getElem?_eq_getElem (by omega)⟩
          obtain ⟨o1, h1⟩ : ∃ o, xs[k * 4 + 1]? = some o := ⟨_, List.getElem?_eq_getElem (by omega)⟩
          obtain ⟨o2, h2⟩ : ∃ o, xs[k * 4 + 2]? = some o := ⟨_, List.getElem?_eq_getElem (by omega)⟩
          obtain ⟨o3, h3⟩ : ∃ o, xs[k * 4 + 3]? = some o := ⟨_, List.getElem?_eq_getElem (by omega)⟩
          have k0 := own_cell ho h0
          have k1 := own_cell ho h1
          have k2 := own_cell ho h2
          have k3 := own_cell ho h3
          have f0 := bk_cold ho (k * 4)
          have f1 := bk_cold ho (k * 4 + 1)
          have f2 := bk_cold ho (k * 4 + 2)
          have f3 := bk_cold ho (k * 4 + 3)
          have hgw : g < wr.heap.size := own_lt ho rfl
          clear hpk hfk ho h0 h1 h2 h3 hxs hxl
          go_wp2_with fail
          go_roundw
          case rel => exact ⟨k + 1, by go_num, by omega, hput.out.congr (fun j _ => (hset.out j).symm), hfp.out⟩
          case measure => simp [intOf]; omega
        · obtain rfl : k = N i := by omega
          have hn1 := Lib.hid (phz_next (z := 4) (mk := mkE) (C := C) (N := N) (i := i) rfl HC0.out)
          have HPK := Lib.hid hpk
          have HFK := Lib.hid hfk
          clear hpk hfk
          go_wp2_with fail
          go_roundw
          case rel => exact ⟨i + 1, by go_num, by omega, by rw [← hn1.out]; exact HPK.out, HFK.out⟩
          case measure => simp [intOf]; omega
    · obtain rfl : i = L.length := by omega
      have hpd := phz_all (Nat.le_refl _) hpc
      have HPD := Lib.hid hpd
      have HFR := Lib.hid hfr
      clear hci hpd hpc hfr
      obtain ⟨wo, rfl⟩ : ∃ wo : World, wo = wr := ⟨_, rfl⟩
      go_wp2_with fail
      go_loopw [5, 6] (fun s5 s6 wx => ∃ (i : Nat) (GL : List Value) (lab : Nat → Nat), s6 = .int .i64 i ∧ i ≤ L.length ∧ GL.length = i ∧ wx.ownsRow w.heap.size 59 1 s5 GL.length GL ∧ Pcz wx 97 4 B lab L N (Dz mkE N 0) ∧ Pcz wx 97 4 B lab GL (fun j => N j + 20) (Dz mkE N 20) ∧ Fr (inL L) w wx) (fun _ s6 _ => L.length - (intOf s6).toNat)
      case atStart => exact ⟨0, [], lab, rfl, Nat.zero_le _, rfl, World.ownsRow_nil _ _ _ _, HPD.out, ⟨fun j v hj => by simp at hj, fun j v g hj => by simp at hj⟩, HFR.out⟩
      case round =>
        obtain ⟨i, GL, lab2, rfl, hiL, hgl, hall, hpl, hpg, hfr2⟩ := hrel
        obtain ⟨c1, hci⟩ := HRD.out _ hfr2
        obtain ⟨ap, ac, rfl⟩ := bk_form hall
        have HGL := Lib.hid hgl
        clear hgl
        by_cases hlt : i < L.length
        · obtain ⟨v, hv⟩ : ∃ v, L[i]? = some v := ⟨_, List.getElem?_eq_getElem hlt⟩
          obtain ⟨lg, rfl, d1⟩ := hci i v hv
          have hgr := Grz.start hall hpl hpg HGL.out hv hfr2
          obtain ⟨vp, vc, rfl⟩ := bk_form hgr.own
          have hli := HLEN.out i
          have HGR := Lib.hid hgr
          clear hci hgr hall hpl hpg hfr2 hv
          obtain ⟨wo2, rfl⟩ : ∃ wo2 : World, wo2 = wr := ⟨_, rfl⟩
          go_wp2_with fail
          go_loopw [7, 8] (fun s7 s8 wx => ∃ (k : Nat) (lab : Nat → Nat), s8 = .int .i64 k ∧ k ≤ 20 ∧ Grz w wx 97 59 4 B i k mkE lab L GL (.slice ap GL.length ac) N s7) (fun _ s8 _ => 20 - (intOf s8).toNat)
          case atStart => exact ⟨0, lab2, rfl, Nat.zero_le _, HGR.out⟩
          case round =>
            obtain ⟨k, lab3, rfl, hk, hg⟩ := hrel
            obtain ⟨gp, gc, rfl⟩ := bk_form hg.own
            by_cases hlk : k < 20
            · have hown := own_fr hg.own ((Fr.refl (fun _ => False) wr).alloc (.cells (mkE i).toArray 97)) (fun _ _ e => e)
              have hBw : B ≤ wr.heap.size := Nat.le_trans hB hg.fr.size
              have HG := Lib.hid hg
              clear hg
              unfold mkE at hown
              go_wp2_with (at_builtin; refine wpList_append_fate rfl _ _ 59 rfl B 97 i0 _ 4 32 Tryz.underlying59 hi hz0 hz1 hz2 rfl (by decide) _ (N i + k) _ rfl hown ⟨wr.heap.size, 0, none⟩ 1 1 [.int .i64 (-7 - (i : Int)), .int .i64 0, .int .i64 0, .bool false] rfl rfl (fun j u hu => World.news_of_block (heap_alloc_new _ _) j u (by simpa using hu)) (by simp [Value.oneCell']) (by decide) (by unfold maxLen; omega) (by omega) (by simp; omega) ?_; intro v' w1 hown' hfate)
              obtain ⟨lab4, hg4⟩ := HG.out.step mkE_len (by decide) (by decide) _ hown' hfate
              clear hown' hfate
              go_wp2_with fail
              go_roundw
              case rel => exact ⟨k + 1, lab4, by go_num, by omega, hg4⟩
              case measure => simp [intOf]; omega
            · obtain rfl : k = 20 := by omega
              have hown := own_fr hg.all ((Fr.refl (fun _ => False) wr).alloc (.cells #[.slice gp (N i + 20) gc] 59)) (fun _ _ e => e)
              have hBw : w.heap.size ≤ wr.heap.size := hg.fr.size
              have HG := Lib.hid hg
              clear hg
              go_wp2_with (at_builtin; refine wpList_append_fate rfl _ _ 35 rfl w.heap.size 59 i1 _ 1 24 Tryz.underlying35 hj hy0 hy1 hy2 rfl (by decide) _ GL.length _ rfl hown ⟨wr.heap.size, 0, none⟩ 1 1 [.slice gp (N i + 20) gc] rfl rfl (cell_one_new _ _ _) (by simp [Value.oneCell']) (by decide) (by have := HGL.out; unfold maxLen; omega) (by have := HGL.out; omega) (by simp; omega) ?_; intro v' w1 hown' hfate)
              obtain ⟨q1, q2, q3, q4⟩ := HG.out.push (by decide) _ hown' hfate.grown
              clear hown' hfate
              go_wp2_with fail
              go_roundw
              case rel => exact ⟨i + 1, _, lab3, by go_num, by omega, by rw [List.length_append, HGL.out]; rfl, q1, q2, q3, q4⟩
              case measure => simp [intOf]; omega
        · obtain rfl : i = L.length := by omega
          rw [HGL.out] at hall
          have HFR2 := Lib.hid hfr2
          have HAC : Hid (∀ j v, GL[j]? = some v → ∃ g, ap = some ⟨g, 0, none⟩ ∧ wr.cell? ⟨g, j, none⟩ = some v) := by
            intro j v hv
            have hj := (List.getElem?_eq_some_iff.1 hv).1
            obtain ⟨g, c, e, _, _⟩ := bk_form1 hall (by have := HGL.out; omega)
            injection e with e1 _ e3
            subst e1 e3
            exact ⟨g, rfl, own_cell hall hv⟩
          have HPL := Lib.hid hpl
          have HPG := Lib.hid hpg
          have HCI := Lib.hid hci
          rw [HGL.out]
          clear hci hall hpl hpg hfr2
          go_wp2_with fail
          obtain ⟨wf, rfl⟩ : ∃ wf : World, wf = wr := ⟨_, rfl⟩
          go_loopw [9, 10, 11, 12, 13] (fun s9 _ _ _ _ wx => ∃ i : Nat, s9 = .int .i64 i ∧ i ≤ L.length ∧ Hid (Below wf.heap.size wf wx)) (fun s9 _ _ _ _ _ => L.length - (intOf s9).toNat)
          case atStart => exact ⟨0, rfl, Nat.zero_le _, Below.refl _ _⟩
          case round =>
            obtain ⟨i, rfl, hi3, HBW⟩ := hrel
            have hCI := HCI.out
            by_cases hlt3 : i < L.length
            · obtain ⟨v, hv⟩ : ∃ v, L[i]? = some v := ⟨_, List.getElem?_eq_getElem hlt3⟩
              obtain ⟨x, hx⟩ : ∃ x, GL[i]? = some x := ⟨_, List.getElem?_eq_getElem (by have := HGL.out; omega)⟩
              obtain ⟨lg, rfl, d1⟩ := hCI i v hv
              obtain ⟨ag, rfl, d2⟩ := HAC.out i x hx
              have hov := HPL.out.own i v hv
              have hox := HPG.out.own i x hx
              have hDv : Dz mkE N 0 i = rep (N i) (mkE i) := by simp [Dz]
              have hDx : Dz mkE N 20 i = rep (N i + 20) (mkE i) := rfl
              rw [hDv] at hov
              rw [hDx] at hox
              obtain ⟨vp, vc, rfl⟩ := bk_form hov
              obtain ⟨xp, xc, rfl⟩ := bk_form hox
              have hli := HLEN.out i
              have HOV := Lib.hid hov
              have HOX := Lib.hid hox
              have HD : Hid (∀ wx, Below wf.heap.size wf wx → (wx.cell? ⟨bk, 5, none⟩ = some (.slice (some ⟨lg, 0, none⟩) L.length lc) ∧ wx.cell? ⟨lg, i, none⟩ = some (.slice vp (N i) vc) ∧ wx.cell? ⟨ag, i, none⟩ = some (.slice xp (N i + 20) xc))) := fun wx hb => ⟨bkcell c1 hb, bkcell d1 hb, bkcell d2 hb⟩
              have HC1 := Lib.hid c1
              have e2 := (HD.out wr HBW.out).2.2
              clear hv hx hov hox hDv hDx d1 d2 hCI c1
              go_wp2_with fail
              clear e2
              go_loopw [10, 11] (fun s10 _ wx => ∃ k : Nat, s10 = .int .i64 k ∧ k ≤ N i + 20 ∧ Hid (Below wf.heap.size wf wx)) (fun s10 _ _ => N i + 20 - (intOf s10).toNat)
              case atStart => exact ⟨0, rfl, Nat.zero_le _, HBW⟩
              case round =>
                clear HBW
                obtain ⟨k, rfl, hk, HBW⟩ := hrel
                obtain ⟨e0, e1, e2⟩ := HD.out wr HBW.out
                by_cases hlk : k < N i + 20
                · obtain ⟨g, c, e, _, hgl⟩ := bk_form1 HOX.out (by omega)
                  injection e with e1' _ e3
                  subst e1' e3
                  have k0 : wr.cell? ⟨g, k * 4, none⟩ = some (.int .i64 (-7 - (i : Int))) := bkcell (own_cell HOX.out (rep_get (j := 0) (mkE_len i) hlk (by omega))) HBW.out
                  have k1 : wr.cell? ⟨g, k * 4 + 1, none⟩ = some (.int .i64 0) := bkcell (own_cell HOX.out (rep_get (j := 1) (mkE_len i) hlk (by omega))) HBW.out
                  have k2 : wr.cell? ⟨g, k * 4 + 2, none⟩ = some (.int .i64 0) := bkcell (own_cell HOX.out (rep_get (j := 2) (mkE_len i) hlk (by omega))) HBW.out
                  have k3 : wr.cell? ⟨g, k * 4 + 3, none⟩ = some (.bool false) := bkcell (own_cell HOX.out (rep_get (j := 3) (mkE_len i) hlk (by omega))) HBW.out
                  have HB2 : Hid (∀ o, Below wf.heap.size wf (wr.alloc o)) := fun o => HBW.out.alloc HBW.out.size o
                  go_wp2_with fail
                  go_round
                  case rel => exact ⟨k + 1, by go_num, by omega, HB2.out _⟩
                  case measure => simp [intOf]; omega
                · obtain rfl : k = N i + 20 := by omega
                  go_wp2_with fail
                  clear e0 e1 e2
                  go_loopw [12, 13] (fun s12 _ wx => ∃ k : Nat, s12 = .int .i64 k ∧ k ≤ N i ∧ Hid (Below wf.heap.size wf wx)) (fun s12 _ _ => N i - (intOf s12).toNat)
                  case atStart => exact ⟨0, rfl, Nat.zero_le _, HBW⟩
                  case round =>
                    clear HBW
                    obtain ⟨k, rfl, hk4, HBW⟩ := hrel
                    obtain ⟨e0, e1, e2⟩ := HD.out wr HBW.out
                    by_cases hlk4 : k < N i
                    · obtain ⟨g, c, e, _, hgl⟩ := bk_form1 HOV.out (by omega)
                      injection e with e1' _ e3
                      subst e1' e3
                      have k0 : wr.cell? ⟨g, k * 4, none⟩ = some (.int .i64 (-7 - (i : Int))) := bkcell (own_cell HOV.out (rep_get (j := 0) (mkE_len i) hlk4 (by omega))) HBW.out
                      have k1 : wr.cell? ⟨g, k * 4 + 1, none⟩ = some (.int .i64 0) := bkcell (own_cell HOV.out (rep_get (j := 1) (mkE_len i) hlk4 (by omega))) HBW.out
                      have k2 : wr.cell? ⟨g, k * 4 + 2, none⟩ = some (.int .i64 0) := bkcell (own_cell HOV.out (rep_get (j := 2) (mkE_len i) hlk4 (by omega))) HBW.out
                      have k3 : wr.cell? ⟨g, k * 4 + 3, none⟩ = some (.bool false) := bkcell (own_cell HOV.out (rep_get (j := 3) (mkE_len i) hlk4 (by omega))) HBW.out
                      have HB2 : Hid (∀ o, Below wf.heap.size wf (wr.alloc o)) := fun o => HBW.out.alloc HBW.out.size o
                      go_wp2_with fail
                      go_round
                      case rel => exact ⟨k + 1, by go_num, by omega, HB2.out _⟩
                      case measure => simp [intOf]; omega
                    · obtain rfl : k = N i := by omega
                      go_wp2_with fail
                      go_round
                      case rel => exact ⟨i + 1, by go_num, by omega, HBW⟩
                      case measure => simp [intOf]; omega
            · obtain rfl : i = L.length := by omega
              have HFF : Hid (Fr (inL L) w wr) := HFR2.out.trans (Fr.of_below HBW.out)
              go_wp2_with fail
              go_ret
              exact ⟨rfl, HFF.out⟩
end
end Go.Proofs.YtkaplifhaafpdaaGreat

/-
  Rows of int that a book keeps: take, alone. No condition.
-/
import Derived.Test.YtkaplifhaafpdaaGreatM05
import Derived.LoopTactic
import Derived.IntWalk
namespace Go.Proofs.YtkaplifhaafpdaaGreat
open Go Go.RowKit
set_option linter.unusedSimpArgs false
set_option linter.unusedVariables false
def mkI (i : Nat) : Value := .int .i64 (-7 - (i : Int))
theorem infoIE : (Tryz.prog.info? 3).map (fun i => (i.zero, i.size, i.bytes)) = some (some (.int .i64 0), 1, 8) := by kernel_rfl
theorem infoIL : (Tryz.prog.info? 23).map (fun i => (i.zero, i.size, i.bytes)) = some (some (.slice none 0 0), 1, 24) := by kernel_rfl
section
variable {w w' wx : World} {B bk : Nat} {cs : Array Value} {lv : Value} {L : List Value} {C : Nat → List Value} {lab : Nat → Nat}
set_option maxHeartbeats 2000000 in
set_option maxRecDepth 100000 in
theorem takeI (hb : Blk w bk 51 cs) (hc : cs[2]? = some lv) (hl : w.ownsRow B 23 1 lv L.length L) (hB : B ≤ w.heap.size) (p : Option Addr) (n c : Nat) (hn : L.length ≤ 10000000) :
    Calls Tryz.prog 10 #[.pointer (some ⟨bk, 0, none⟩), .slice p n c] w fun e w' => e = .returned (.tuple #[]) ∧ ∃ lv', Blk w' bk 51 (cs.setIfInBounds 2 lv') ∧ w'.ownsRow B 23 1 lv' (L.length + 1) (L ++ [.slice p n c]) ∧
      Fr (fun k => k = bk ∨ lv.ownBlock = some k) w w' ∧ (∀ g, lv'.ownBlock = some g → lv.ownBlock = some g ∨ w.heap.size ≤ g) := by
  have c1 : w.cell? ⟨bk, 2, none⟩ = some lv := (hb.cell 2).trans hc
  have f1 := hb.cold 2
  have hbl := hb.lt
  obtain ⟨i0, hi, hz0, hz1, hz2⟩ := info_parts infoIL
  have hal : Fr (fun _ => False) w (w.alloc (.cells #[.slice p n c] 23)) := (Fr.refl (fun _ => False) w).alloc _
  have hown := own_fr hl hal (fun _ _ e => e)
  have hb1 := hb.fr hal (fun e => e)
  have HB := Lib.hid hb
  have HL := Lib.hid hl
  have HB1 := Lib.hid hb1
  have HAL := Lib.hid hal
  have hz : (w.alloc (.cells #[.slice p n c] 23)).heap.size = w.heap.size + 1 := by simp
  have HZ := Lib.hid hz
  clear hb hl hb1 hal hz
  have HE : Hid (∀ v' w1, w1.ownsRow B 23 1 v' (L.length + 1) (L ++ [.slice p n c]) → Fate (w.alloc (.cells #[.slice p n c] 23)) w1 lv v' L.length 1 → ∃ vp vc, v' = .slice vp (L.length + 1) vc ∧ w1.cell? ⟨bk, 2, none⟩ = some lv ∧ w1.frozen? ⟨bk, 2, none⟩ = false ∧
      Hid (Blk (w1.setCell ⟨bk, 2, none⟩ v') bk 51 (cs.setIfInBounds 2 v') ∧ (w1.setCell ⟨bk, 2, none⟩ v').ownsRow B 23 1 v' (L.length + 1) (L ++ [.slice p n c]) ∧
      Fr (fun k => k = bk ∨ lv.ownBlock = some k) w (w1.setCell ⟨bk, 2, none⟩ v') ∧ (∀ g, v'.ownBlock = some g → lv.ownBlock = some g ∨ w.heap.size ≤ g))) := by
    intro v' w1 hown' hfate
    have hgr := hfate.grown
    have hF : Fr (fun k => lv.ownBlock = some k) w w1 := ((HAL.out.mono (fun _ _ e => e.elim)).trans ((Fr.refl (fun k => lv.ownBlock = some k) _).grown hgr (fun k e => .inl e)))
    have hlb : ¬ lv.ownBlock = some bk := own_ne HL.out HB.out (by decide)
    have hb2 := HB.out.fr hF hlb
    have hvb : v'.ownBlock ≠ some bk := own_ne hown' hb2 (by decide)
    obtain ⟨vp, vc, rfl⟩ := bk_form hown'
    refine ⟨vp, vc, rfl, (hb2.cell 2).trans hc, hb2.cold 2, hb2.put 2 _, own_fr hown' ((Fr.refl (fun b => b = bk) w1).put (p := ⟨bk, 2, none⟩) (.inl rfl) _) (fun g e e2 => hvb (e2 ▸ e)), ((hF.mono (fun _ _ e => .inr e)).put (p := ⟨bk, 2, none⟩) (.inl (.inl rfl)) _), ?_⟩
    intro g e
    rcases hfate with ⟨g', c', e1, e2, _⟩ | ⟨e1, _⟩
    · left; rw [e1]; rw [e2] at e; exact e
    · right; rw [e1] at e; injection e with e; have := HZ.out; omega
  go_enter Tryz.func10, Tryz.ntmps10
  go_wp2_with (at_builtin; refine wpList_append_fate rfl _ _ 32 rfl B 23 i0 _ 1 24 Tryz.underlying32 hi hz0 hz1 hz2 rfl (by decide) lv L.length L rfl hown ⟨w.heap.size, 0, none⟩ 1 1 [.slice p n c] rfl rfl (cell_one_new _ _ _) (by simp [Value.oneCell']) (by decide) (by unfold maxLen; omega) (by omega) (by simp; omega) ?_; intro v' w1 hown' hfate; obtain ⟨vp, vc, rfl, c2, f2, HH⟩ := HE.out _ _ hown' hfate; clear hown' hfate)
  go_end0
  exact ⟨rfl, _, HH.out⟩
set_option maxHeartbeats 4000000 in
set_option maxRecDepth 100000 in
theorem aloneI (hb : Blk w bk 51 cs) (hc : cs[2]? = some lv) (hl : w.ownsRow B 23 1 lv L.length L) (hp : Pcs w 3 B lab L C) (hB : B ≤ w.heap.size) (hn : L.length ≤ 10000000) (hlen : ∀ j, (C j).length ≤ 1000000000) :
    Calls Tryz.prog 36 #[.pointer (some ⟨bk, 0, none⟩)] w fun e w' => e = .returned (.bool true) ∧ Fr (inL L) w w' := by
  have hbk : ¬ inL L bk := by
    rintro ⟨v, hv, e⟩
    obtain ⟨j, hj, rfl⟩ := List.getElem_of_mem hv
    exact own_ne (hp.own j _ (List.getElem?_eq_getElem hj)) hb (by decide) e
  have hlb : ∀ g, lv.ownBlock = some g → ¬ inL L g := by
    rintro g e ⟨v, hv, e2⟩
    obtain ⟨j, hj, rfl⟩ := List.getElem_of_mem hv
    obtain ⟨cs1, h1⟩ := bk_blk (hp.own j _ (List.getElem?_eq_getElem hj)) e2
    exact own_ne hl h1 (by decide) e
  obtain ⟨lp, lc, rfl⟩ := bk_form hl
  have HRD : Hid (∀ wr, Fr (inL L) w wr → wr.cell? ⟨bk, 2, none⟩ = some (.slice lp L.length lc) ∧ ∀ (i : Nat) v, L[i]? = some v → ∃ g, lp = some ⟨g, 0, none⟩ ∧ wr.cell? ⟨g, i, none⟩ = some v) := by
    intro wr hf
    refine ⟨((hb.fr hf hbk).cell 2).trans hc, fun i v hv => ?_⟩
    have ho := own_fr hl hf hlb
    have hi := (List.getElem?_eq_some_iff.1 hv).1
    obtain ⟨g, c, e, _, _⟩ := bk_form1 ho (by omega)
    injection e with e1 _ e3
    subst e1 e3
    exact ⟨g, rfl, own_cell ho hv⟩
  have HP := Lib.hid hp
  have HLEN := Lib.hid hlen
  obtain ⟨i0, hi, hz0, hz1, hz2⟩ := info_parts infoIE
  obtain ⟨i1, hj, hy0, hy1, hy2⟩ := info_parts infoIL
  clear hb hc hl hp hbk hlb hlen
  go_enter Tryz.func36, Tryz.ntmps36
  go_wp2_with fail
  go_loopw [3] (fun s3 wr => ∃ i : Nat, s3 = .int .i64 i ∧ i ≤ L.length ∧ Pcs wr 3 B lab L (ph mkI C i 0) ∧ Fr (inL L) w wr) (fun s3 _ => L.length - (intOf s3).toNat)
  case atStart => exact ⟨0, rfl, Nat.zero_le _, by rw [ph_zero]; exact HP.out, Fr.refl _ _⟩
  case round =>
    obtain ⟨i, rfl, hiL, hpc, hfr⟩ := hrel
    obtain ⟨c1, hci⟩ := HRD.out _ hfr
    by_cases hlt : i < L.length
    · obtain ⟨v, hv⟩ : ∃ v, L[i]? = some v := ⟨_, List.getElem?_eq_getElem hlt⟩
      obtain ⟨lg, rfl, d1⟩ := hci i v hv
      have hlenE : ∀ k, k ≤ (C i).length → (ph mkI C i k i).length = (C i).length := fun k hk => ph_len hk i
      have ho := hpc.own i v hv
      rw [hlenE 0 (Nat.zero_le _)] at ho
      obtain ⟨vp, vc, rfl⟩ := bk_form ho
      have hli := HLEN.out i
      clear hci
      obtain ⟨wo, rfl⟩ : ∃ wo : World, wo = wr := ⟨_, rfl⟩
      have HV := Lib.hid hv
      have HPC := Lib.hid hpc
      have HFR := Lib.hid hfr
      have HLE := Lib.hid hlenE
      clear hv ho hpc hfr hlenE
      go_wp2_with fail
      go_loopw [4] (fun s4 wx => ∃ k : Nat, s4 = .int .i64 k ∧ k ≤ (C i).length ∧ Pcs wx 3 B lab L (ph mkI C i k) ∧ Fr (inL L) w wx) (fun s4 _ => (C i).length - (intOf s4).toNat)
      case atStart => exact ⟨0, rfl, Nat.zero_le _, HPC.out, HFR.out⟩
      case round =>
        obtain ⟨k, rfl, hk, hpk, hfk⟩ := hrel
        obtain ⟨c1, hci⟩ := HRD.out _ hfk
        obtain ⟨lg', e', d1⟩ := hci i _ HV.out
        obtain rfl : lg = lg' := by injection e' with e'; injection e'
        clear e' hci
        by_cases hlk : k < (C i).length
        · have ho := hpk.own i _ HV.out
          have HL0 := HLE.out k hk
          rw [HL0] at ho
          obtain ⟨g, c, e, _, _⟩ := bk_form1 ho (by omega)
          injection e with e1 _ e3
          subst e1 e3
          obtain ⟨old, hold⟩ : ∃ old, (ph mkI C i k i)[k]? = some old := ⟨_, List.getElem?_eq_getElem (by omega)⟩
          have k1 := own_cell ho hold
          have k2 := bk_cold ho k
          have hput := Lib.hid (hpk.put HV.out (by omega) (mkI i) (k := k))
          have hset := Lib.hid (fun j => ph_set (mk := mkI) (C := C) hlk j)
          have hfp := Lib.hid (hfk.put (p := ⟨g, k, none⟩) (.inl ⟨_, List.mem_of_getElem? HV.out, rfl⟩) (mkI i))
          have HL1 := Lib.hid HL0
          clear hpk hfk ho hold HL0
          unfold mkI at hput hfp
          go_wp2_with fail
          go_roundw
          case rel => exact ⟨k + 1, by go_num, by omega, hput.out.congr (fun j _ => (hset.out j).symm), hfp.out⟩
          case measure => simp [intOf]; omega
        · obtain rfl : k = (C i).length := by omega
          have hn1 := Lib.hid (ph_next (mk := mkI) (C := C) (i := i) rfl)
          have HPK := Lib.hid hpk
          have HFK := Lib.hid hfk
          clear hpk hfk
          go_wp2_with fail
          go_roundw
          case rel => exact ⟨i + 1, by go_num, by omega, by rw [← hn1.out]; exact HPK.out, HFK.out⟩
          case measure => simp [intOf]; omega
    · obtain rfl : i = L.length := by omega
      have hpd := ph_all (Nat.le_refl _) hpc
      have HPD := Lib.hid hpd
      have HFR := Lib.hid hfr
      clear hci hpd hpc hfr
      obtain ⟨wo, rfl⟩ : ∃ wo : World, wo = wr := ⟨_, rfl⟩
      go_wp2_with fail
      go_loopw [5, 6] (fun s5 s6 wx => ∃ (i : Nat) (GL : List Value) (lab : Nat → Nat), s6 = .int .i64 i ∧ i ≤ L.length ∧ GL.length = i ∧ wx.ownsRow w.heap.size 23 1 s5 GL.length GL ∧ Pcs wx 3 B lab L (D mkI C 0) ∧ Pcs wx 3 B lab GL (D mkI C 20) ∧ Fr (inL L) w wx) (fun _ s6 _ => L.length - (intOf s6).toNat)
      case atStart => exact ⟨0, [], lab, rfl, Nat.zero_le _, rfl, World.ownsRow_nil _ _ _ _, HPD.out, ⟨fun j v hj => by simp at hj, fun j v g hj => by simp at hj⟩, HFR.out⟩
      case round =>
        obtain ⟨i, GL, lab2, rfl, hiL, hgl, hall, hpl, hpg, hfr2⟩ := hrel
        obtain ⟨c1, hci⟩ := HRD.out _ hfr2
        obtain ⟨ap, ac, rfl⟩ := bk_form hall
        have HGL := Lib.hid hgl
        clear hgl
        by_cases hlt : i < L.length
        · obtain ⟨v, hv⟩ : ∃ v, L[i]? = some v := ⟨_, List.getElem?_eq_getElem hlt⟩
          obtain ⟨lg, rfl, d1⟩ := hci i v hv
          have hgr := Gr.start hall hpl hpg HGL.out hv hfr2
          obtain ⟨vp, vc, rfl⟩ := bk_form hgr.own
          have hli := HLEN.out i
          have HGR := Lib.hid hgr
          clear hci hgr hall hpl hpg hfr2 hv
          obtain ⟨wo2, rfl⟩ : ∃ wo2 : World, wo2 = wr := ⟨_, rfl⟩
          go_wp2_with fail
          go_loopw [7, 8] (fun s7 s8 wx => ∃ (k : Nat) (lab : Nat → Nat), s8 = .int .i64 k ∧ k ≤ 20 ∧ Gr w wx 3 23 B i k mkI lab L GL (.slice ap GL.length ac) C s7) (fun _ s8 _ => 20 - (intOf s8).toNat)
          case atStart => exact ⟨0, lab2, rfl, Nat.zero_le _, HGR.out⟩
          case round =>
            obtain ⟨k, lab3, rfl, hk, hg⟩ := hrel
            obtain ⟨gp, gc, rfl⟩ := bk_form hg.own
            by_cases hlk : k < 20
            · have hown := own_fr hg.own ((Fr.refl (fun _ => False) wr).alloc (.cells #[mkI i] 3)) (fun _ _ e => e)
              have hBw : B ≤ wr.heap.size := Nat.le_trans hB hg.fr.size
              have HG := Lib.hid hg
              clear hg
              unfold mkI at hown
              go_wp2_with (at_builtin; refine wpList_append_fate rfl _ _ 23 rfl B 3 i0 _ 1 8 Tryz.underlying23 hi hz0 hz1 hz2 rfl (by decide) _ ((C i).length + k) _ rfl hown ⟨wr.heap.size, 0, none⟩ 1 1 [.int .i64 (-7 - (i : Int))] rfl rfl (cell_one_new _ _ _) (by simp [Value.oneCell']) (by decide) (by unfold maxLen; omega) (by omega) (by simp; omega) ?_; intro v' w1 hown' hfate)
              obtain ⟨lab4, hg4⟩ := HG.out.step (by decide) _ hown' hfate
              clear hown' hfate
              go_wp2_with fail
              go_roundw
              case rel => exact ⟨k + 1, lab4, by go_num, by omega, hg4⟩
              case measure => simp [intOf]; omega
            · obtain rfl : k = 20 := by omega
              have hown := own_fr hg.all ((Fr.refl (fun _ => False) wr).alloc (.cells #[.slice gp ((C i).length + 20) gc] 23)) (fun _ _ e => e)
              have hBw : w.heap.size ≤ wr.heap.size := hg.fr.size
              have HG := Lib.hid hg
              clear hg
              go_wp2_with (at_builtin; refine wpList_append_fate rfl _ _ 32 rfl w.heap.size 23 i1 _ 1 24 Tryz.underlying32 hj hy0 hy1 hy2 rfl (by decide) _ GL.length _ rfl hown ⟨wr.heap.size, 0, none⟩ 1 1 [.slice gp ((C i).length + 20) gc] rfl rfl (cell_one_new _ _ _) (by simp [Value.oneCell']) (by decide) (by have := HGL.out; unfold maxLen; omega) (by have := HGL.out; omega) (by simp; omega) ?_; intro v' w1 hown' hfate)
              obtain ⟨q1, q2, q3, q4⟩ := HG.out.push (by decide) _ hown' hfate.grown
              clear hown' hfate
              go_wp2_with fail
              go_roundw
              case rel => exact ⟨i + 1, _, lab3, by go_num, by omega, by rw [List.length_append, HGL.out]; rfl, q1, q2, q3, q4⟩
              case measure => simp [intOf]; omega
        · obtain rfl : i = L.length := by omega
          rw [HGL.out] at hall
          have HFR2 := Lib.hid hfr2
          have HAC : Hid (∀ j v, GL[j]? = some v → ∃ g, ap = some ⟨g, 0, none⟩ ∧ wr.cell? ⟨g, j, none⟩ = some v) := by
            intro j v hv
            have hj := (List.getElem?_eq_some_iff.1 hv).1
            obtain ⟨g, c, e, _, _⟩ := bk_form1 hall (by have := HGL.out; omega)
            injection e with e1 _ e3
            subst e1 e3
            exact ⟨g, rfl, own_cell hall hv⟩
          have HPL := Lib.hid hpl
          have HPG := Lib.hid hpg
          have HCI := Lib.hid hci
          rw [HGL.out]
          clear hci hall hpl hpg hfr2
          go_wp2_with fail
          go_loop [9] (fun s9 => ∃ i : Nat, s9 = .int .i64 i ∧ i ≤ L.length) (fun s9 => L.length - (intOf s9).toNat)
          case atStart => exact ⟨0, rfl, Nat.zero_le _⟩
          case round =>
            obtain ⟨i, rfl, hi3⟩ := hrel
            by_cases hlt3 : i < L.length
            · obtain ⟨v, hv⟩ : ∃ v, L[i]? = some v := ⟨_, List.getElem?_eq_getElem hlt3⟩
              obtain ⟨x, hx⟩ : ∃ x, GL[i]? = some x := ⟨_, List.getElem?_eq_getElem (by have := HGL.out; omega)⟩
              obtain ⟨lg, rfl, d1⟩ := HCI.out i v hv
              obtain ⟨ag, rfl, d2⟩ := HAC.out i x hx
              have hov := HPL.out.own i v hv
              have hox := HPG.out.own i x hx
              simp only [D, List.length_replicate, Nat.add_zero] at hov hox
              obtain ⟨vp, vc, rfl⟩ := bk_form hov
              obtain ⟨xp, xc, rfl⟩ := bk_form hox
              have hli := HLEN.out i
              have HOV := Lib.hid hov
              have HOX := Lib.hid hox
              clear hv hx hov hox
              go_wp2_with fail
              go_loop [10] (fun s10 => ∃ k : Nat, s10 = .int .i64 k ∧ k ≤ (C i).length + 20) (fun s10 => (C i).length + 20 - (intOf s10).toNat)
              case atStart => exact ⟨0, rfl, Nat.zero_le _⟩
              case round =>
                obtain ⟨k, rfl, hk⟩ := hrel
                by_cases hlk : k < (C i).length + 20
                · obtain ⟨g, c, e, _, _⟩ := bk_form1 HOX.out (by omega)
                  injection e with e1 _ e3
                  subst e1 e3
                  have k1 := own_cell HOX.out (j := k) (u := mkI i) (by simp [hlk])
                  unfold mkI at k1
                  go_wp2_with fail
                  go_round
                  case rel => exact ⟨k + 1, by go_num, by omega⟩
                  case measure => simp [intOf]; omega
                · obtain rfl : k = (C i).length + 20 := by omega
                  go_wp2_with fail
                  go_loop [12] (fun s12 => ∃ k : Nat, s12 = .int .i64 k ∧ k ≤ (C i).length) (fun s12 => (C i).length - (intOf s12).toNat)
                  case atStart => exact ⟨0, rfl, Nat.zero_le _⟩
                  case round =>
                    obtain ⟨k, rfl, hk4⟩ := hrel
                    by_cases hlk4 : k < (C i).length
                    · obtain ⟨g, c, e, _, _⟩ := bk_form1 HOV.out (by omega)
                      injection e with e1 _ e3
                      subst e1 e3
                      have k1 := own_cell HOV.out (j := k) (u := mkI i) (by simp [hlk4])
                      unfold mkI at k1
                      go_wp2_with fail
                      go_round
                      case rel => exact ⟨k + 1, by go_num, by omega⟩
                      case measure => simp [intOf]; omega
                    · go_wp2_with fail
                      go_round
                      case rel => exact ⟨i + 1, by go_num, by omega⟩
                      case measure => simp [intOf]; omega
            · go_wp2_with fail
              go_ret
              exact ⟨rfl, HFR2.out⟩
end
end Go.Proofs.YtkaplifhaafpdaaGreat

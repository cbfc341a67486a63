/-
  procs over a list that was made, walked. No condition.
-/
import Derived.Test.YtkaplifhaafpdaaM19
namespace Go.Proofs.Ytkaplifhaafpdaa
open Go Go.RowKit
set_option linter.unusedSimpArgs false
set_option linter.unusedVariables false
/-- threads of plans in a list that was made: the plans lie in w0, the list in w -/
def PlansIn (w0 w : World) (u : Value) (ll : List (List Plan)) : Prop := ∃ p c, u = .slice p ll.length c ∧ (p = none → c = 0) ∧ ∀ k l, ll[k]? = some l → ∃ b o v, p = some ⟨b, o, none⟩ ∧ b < w.heap.size ∧ w.cell? ⟨b, o + k, none⟩ = some v ∧ PlanAt w0 v l
section
variable {w0 w : World} {ll : List (List Plan)} {tv : Value}
set_option maxHeartbeats 2000000 in
set_option maxRecDepth 100000 in
theorem procs_in (h : PlansIn w0 w tv ll) (hb0 : Below w0.heap.size w0 w) (hn : ll.length ≤ 1048576) (hl : ∀ l ∈ ll, l.length ≤ 1048576) :
    Calls Try.prog 32 #[tv] w fun e w' => ∃ lays av mv rs ms, e = .returned (.tuple #[av, mv]) ∧ Hid (OutP w0 w w' ll lays av mv rs ms ∧ lays.length = ll.length) := by
  obtain ⟨tp, tc, rfl, _, hth⟩ := h
  have HTH := Lib.hid hth
  have HB0 := Lib.hid hb0
  have HL := Lib.hid hl
  clear hth hb0 hl
  go_enter Try.func32, Try.ntmps32
  go_wp2_with fail
  go_loopw [4, 5, 6] (fun s4 s5 s6 wr => ∃ (i : Nat) (lays : List (List (Option Nat))) (rs ms : List Value), s6 = .int .i64 i ∧ i ≤ ll.length ∧ Hid (OutP w0 w wr ll lays s4 s5 rs ms ∧ lays.length = i)) (fun _ _ s6 _ => ll.length - (intOf s6).toNat)
  case atStart => exact ⟨0, [], [], [], rfl, Nat.zero_le _, OutP.start _ _ _, rfl⟩
  case round =>
    obtain ⟨i, lays, rs, ms, rfl, hi, HO⟩ := hrel
    by_cases hlt : i < ll.length
    · obtain ⟨pl, hpl⟩ : ∃ pl, ll[i]? = some pl := ⟨_, List.getElem?_eq_getElem hlt⟩
      obtain ⟨b, o, u, rfl, hbl, hc, hpa⟩ := HTH.out i pl hpl
      obtain ⟨pp, pc, rfl, _, hps⟩ := hpa
      have hpn := HL.out pl (List.mem_of_getElem? hpl)
      have hbw : Below w0.heap.size w0 wr := HB0.out.trans (HO.out.1.bel.mono HB0.out.size)
      have RD := Lib.hid (fun (wx : World) (hbx : Below w.heap.size w wx) => (hbx.cell (p := ⟨b, o + i, none⟩) hbl).trans hc)
      have HPS := Lib.hid hps
      have HPL := Lib.hid hpl
      have HBW := Lib.hid hbw
      have HWR : Hid (Below w.heap.size w wr) := HO.out.1.bel
      clear hps hc hbw hpl
      obtain ⟨wi, rfl⟩ : ∃ wi : World, wi = wr := ⟨_, rfl⟩
      go_wp2_with fail
      go_loopw [7, 8, 9] (fun s7 s8 s9 wx => ∃ (k : Nat) (lay : List (Option Nat)), s9 = .int .i64 k ∧ k ≤ pl.length ∧ Hid (InP w0 wi wx pl lay (lay.map pval) (mptrs lay) s7 s8 ∧ lay.length = k)) (fun _ _ s9 _ => pl.length - (intOf s9).toNat)
      case atStart => exact ⟨0, [], rfl, Nat.zero_le _, InP.start _ _ _, rfl⟩
      case round =>
        obtain ⟨k, lay, rfl, hk, HI⟩ := hrel
        have hbx : Below w0.heap.size w0 wr := HBW.out.trans (HI.out.1.bel.mono HBW.out.size)
        have c1 := RD.out _ (HWR.out.trans (HI.out.1.bel.mono HWR.out.size))
        obtain ⟨lp, lc, e⟩ := bk_form HI.out.1.ol
        obtain ⟨mp, mc, e'⟩ := bk_form HI.out.1.om
        subst e e'
        have hlen := HI.out.2
        have hl1 : lay.length ≤ 1000000000 := by omega
        rw [List.length_map] at *
        have hl2 : (mptrs lay).length ≤ 1000000000 := by
          have := List.length_filterMap_le id lay
          simp [mptrs]; omega
        have hws := Lib.hid HI.out.1.bel.size
        have HLEN := Lib.hid hlen
        clear hlen
        by_cases hlk : k < pl.length
        · obtain ⟨x, hx⟩ : ∃ x, pl[k]? = some x := ⟨_, List.getElem?_eq_getElem hlk⟩
          obtain ⟨b2, o2, u2, rfl, hb2, d0, d1, hd⟩ := HPS.out k x hx
          have e0 : wr.cell? ⟨b2, o2 + k * 2, none⟩ = some (.bool x.none) := (hbx.cell (p := ⟨b2, _, none⟩) hb2).trans d0
          have e1 : wr.cell? ⟨b2, o2 + k * 2 + 1, none⟩ = some u2 := (hbx.cell (p := ⟨b2, _, none⟩) hb2).trans d1
          have hd' := hd
          obtain ⟨dp, dc, rfl, -, -⟩ := hd'
          rw [← HLEN.out] at hx
          cases hnn : x.none
          · have HBOX := Lib.hid (HI.out.1.box hx hnn hd)
            have HOL := Lib.hid (fun o => own_fr (by have := HBOX.out.ol; rw [List.length_map] at this; exact this) ((Fr.refl (fun _ => False) _).alloc o) (fun _ _ e => e))
            rw [hnn] at e0
            clear hnn hd hx d0 d1
            have hsz : wi.heap.size ≤ (wr.alloc (.cells #[.slice dp x.l.length dc, .int .i64 0, .slice none 0 0] 69)).heap.size := HBOX.out.bel.size
            go_wp2_with (at_builtin; first | (refine app_one infoP Try.underlying38 rfl (by decide) rfl _ _ rfl rfl (HOL.out _) rfl (by simp) rfl hl1 hsz ?_; intro v5 w5 ho5 hg5 _; have HI5 := Lib.hid (HBOX.out.pushL (by rw [List.length_map]; exact ho5) hg5); have HOM := Lib.hid (fun o => own_fr HI5.out.om ((Fr.refl (fun _ => False) _).alloc o) (fun _ _ e => e)); have hs5 := HI5.out.bel.size; clear ho5 hg5) | (refine app_one infoPtrM Try.underlying66 rfl (by decide) rfl _ _ rfl rfl (HOM.out _) rfl (by simp) rfl hl2 hs5 ?_; intro v7 w7 ho7 hg7 _; have HI7 := Lib.hid (HI5.out.pushM ho7 hg7); clear ho7 hg7))
            go_round
            case rel => exact ⟨k + 1, lay ++ [some wr.heap.size], by go_num, by omega, by have := HI7.out; simpa [mptrs, pval, pptr, List.filterMap_append] using this, by rw [List.length_append, HLEN.out]; rfl⟩
            case measure => simp [intOf]; omega
          · have HSK := Lib.hid (HI.out.1.skip hx hnn)
            have HOL := Lib.hid (fun o => own_fr (by have := HSK.out.ol; rw [List.length_map] at this; exact this) ((Fr.refl (fun _ => False) _).alloc o) (fun _ _ e => e))
            rw [hnn] at e0
            clear hnn hd hx d0 d1
            have hsz := hws.out
            go_wp2_with (at_builtin; refine app_one infoP Try.underlying38 rfl (by decide) rfl _ _ rfl rfl (HOL.out _) rfl (by simp) rfl hl1 hsz ?_; intro v5 w5 ho5 hg5 _; have HI5 := Lib.hid (HSK.out.pushL (by rw [List.length_map]; exact ho5) hg5); clear ho5 hg5)
            go_round
            case rel => exact ⟨k + 1, lay ++ [none], by go_num, by omega, by have := HI5.out; simpa [mptrs, pval, pptr, List.filterMap_append] using this, by rw [List.length_append, HLEN.out]; rfl⟩
            case measure => simp [intOf]; omega
        · obtain rfl : k = pl.length := by omega
          have hrl := HO.out.1.rl
          have hml := HO.out.1.ml
          have hli := HO.out.2
          obtain ⟨ap, ac, e⟩ := bk_form HO.out.1.oa
          obtain ⟨bp, bc, e'⟩ := bk_form HO.out.1.om
          subst e e'
          have hn5 : rs.length ≤ 1000000000 := by omega
          have hn7 : ms.length ≤ 1000000000 := by omega
          have hsz : w.heap.size ≤ wr.heap.size := Nat.le_trans HO.out.1.bel.size hws.out
          have HN := Lib.hid (HO.out.1.next HI.out.1 (by rw [hli]; exact HPL.out) HLEN.out.symm)
          clear hrl hml hli
          go_wp2_with (at_builtin; first | (refine app_one infoRowP Try.underlying37 rfl (by decide) rfl _ _ rfl rfl HN.out.1 rfl (by simp) rfl hn5 hsz ?_; intro v5 w5 ho5 hg5 _; have HN5 := Lib.hid (HN.out.2 _ _ ho5 hg5); have hs5 : w.heap.size ≤ w5.heap.size := Nat.le_trans (Nat.le_trans hsz (by simp)) hg5.size; clear ho5 hg5) | (refine app_one infoRowM Try.underlying51 rfl (by decide) rfl _ _ rfl rfl HN5.out.1 rfl (by simp) rfl hn7 hs5 ?_; intro v7 w7 ho7 hg7 _; have HN7 := Lib.hid (HN5.out.2 _ _ ho7 hg7); clear ho7 hg7))
          go_round
          case rel => exact ⟨i + 1, lays ++ [lay], _, _, by go_num, by omega, HN7.out, by rw [List.length_append, HO.out.2]; rfl⟩
          case measure => simp [intOf]; omega
    · obtain rfl : i = ll.length := by omega
      go_wp2_with fail
      go_ret2
      exact ⟨lays, _, _, rs, ms, rfl, HO⟩
end
end Go.Proofs.Ytkaplifhaafpdaa

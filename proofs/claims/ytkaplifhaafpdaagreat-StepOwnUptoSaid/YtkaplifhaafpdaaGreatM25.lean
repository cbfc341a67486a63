/-
  both, walked. No condition.
-/
import Derived.Test.YtkaplifhaafpdaaGreatM24
namespace Go.Proofs.YtkaplifhaafpdaaGreat
open Go Go.RowKit
set_option linter.unusedSimpArgs false
set_option linter.unusedVariables false
/-- the program's runner and the document's, side by side -/
structure BothOK (W w w' : World) (ll : List (List Plan)) (wd q : Nat) (L : Lay) (G Z : Nat → Prop) (lab : Nat → Nat) (rm : Nat) (s : St) : Prop where
  pg : PG W w' G L ll s
  zr : ZR W w' lab q rm ll s
  wx : WX w' Z wd L.bm (.pointer (some ⟨L.rp, 0, none⟩)) L.lays
  gl : ∀ k, G k → lab k = 0
  zg : ∀ k, Z k → ¬ G k ∧ lab k = 0
  hi : ∀ k, w'.heap.size ≤ k → lab k = 0
  bel : Below w.heap.size w w'
  pos : ∀ k, G k ∨ Z k ∨ lab k ≠ 0 → w.heap.size ≤ k
  zlt : ∀ k, Z k → k < w'.heap.size
def BothX (W w w' : World) (ll : List (List Plan)) (wd q : Nat) (s : St) : Prop := ∃ L G Z lab rm, L.OK ll ∧ BothOK W w w' ll wd q L G Z lab rm s
section
variable {W w w1 w2 : World} {ll : List (List Plan)} {tv : Value}
theorem tooLong_lays {lays : List (List (Option Nat))} (h : LayOK ll lays) : tooLong (lays.map fun la => la.map pval) = ll.any fun l => decide (4096 < l.length) := by
  unfold tooLong
  rw [Bool.eq_iff_iff, List.any_eq_true, List.any_eq_true]
  constructor
  · rintro ⟨x, hx, hd⟩
    obtain ⟨la, hla, rfl⟩ := List.mem_map.1 hx
    obtain ⟨i, hi⟩ := List.getElem?_of_mem hla
    have hil := (List.getElem?_eq_some_iff.1 hi).1
    obtain ⟨l, hl⟩ : ∃ l, ll[i]? = some l := ⟨_, List.getElem?_eq_getElem (by rw [← h.n]; exact hil)⟩
    exact ⟨l, List.mem_of_getElem? hl, by rw [← h.len i la l hi hl]; simpa using hd⟩
  · rintro ⟨l, hl, hd⟩
    obtain ⟨i, hi⟩ := List.getElem?_of_mem hl
    have hil := (List.getElem?_eq_some_iff.1 hi).1
    obtain ⟨la, hla⟩ : ∃ la, lays[i]? = some la := ⟨_, List.getElem?_eq_getElem (by rw [h.n]; exact hil)⟩
    exact ⟨_, List.mem_map.2 ⟨la, List.mem_of_getElem? hla, rfl⟩, by rw [List.length_map, h.len i la l hla hi]; exact hd⟩
theorem oneCell_lays {lays : List (List (Option Nat))} : ∀ l ∈ lays.map (fun la => la.map pval), ∀ x ∈ l, x.oneCell' = true := by
  intro l hl x hx
  obtain ⟨la, _, rfl⟩ := List.mem_map.1 hl
  obtain ⟨y, _, rfl⟩ := List.mem_map.1 hx
  cases y <;> rfl
set_option maxHeartbeats 4000000 in
set_option maxRecDepth 100000 in
theorem both_any (hp : PlansAt W tv ll) (hb : Below W.heap.size W w) (hn : ll.length ≤ 1048576) (hl : ∀ l ∈ ll, l.length ≤ 1048576) :
    Calls Tryz.prog 5 #[tv] w fun e w' => (tooMany ll = true ∧ (∃ wd, e = .returned (.tuple #[.pointer (some ⟨wd, 0, none⟩), .pointer none, .bool true])) ∧ Below w.heap.size w w') ∨ (tooMany ll = false ∧ ∃ wd q, e = .returned (.tuple #[.pointer (some ⟨wd, 0, none⟩), .pointer (some ⟨q, 0, none⟩), .bool true]) ∧ Hid (BothX W w w' ll wd q (St.start ll mem0))) := by
  have hp0 := hp
  obtain ⟨tp, tc, rfl, _, _⟩ := hp0
  have HP := Lib.hid hp
  have HB := Lib.hid hb
  have HL := Lib.hid hl
  have HC1 := Lib.hid (New_plain w 200 (by decide) (by decide))
  clear hp hb hl
  go_enter Tryz.func5, Tryz.ntmps5
  go_wp2_with fail
  refine HC1.out.mono ?_
  rintro e w1 ⟨bm, rfl, hM1, hB1⟩
  have HM1 : Hid (PM w1 (fun k => w.heap.size ≤ k ∧ k < w1.heap.size) bm (Mem.made 200) ∧ Below w.heap.size w w1) := ⟨hM1.tight, hB1⟩
  have HC2 := Lib.hid (RNew_any w1 200 (by decide) (by decide) false)
  clear hM1 hB1 HC1
  go_wp2_with fail
  refine HC2.out.mono ?_
  rintro e w2 ⟨rm, rfl, hM2⟩
  have HM2 := Lib.hid hM2
  have HC3 := Lib.hid (View_any w2 bm 9)
  clear hM2 HC2
  go_wp2_with fail
  refine HC3.out.mono ?_
  rintro e w3 ⟨rfl, hw3⟩
  have hv3 : w3.heap.size = w2.heap.size + 1 := by rw [hw3]; simp
  have HM3 : Hid (PM w3 (fun k => w.heap.size ≤ k ∧ k < w1.heap.size) bm (Mem.made 200) ∧ RM w3 (fun k => w1.heap.size ≤ k ∧ k < w2.heap.size) rm false (Mem.made 200) ∧ VW w3 w2.heap.size bm 9 0 ∧ Below w1.heap.size w1 w2 ∧ Below w2.heap.size w2 w3) := by
    have f : Fr (fun _ => False) w2 w3 := by rw [hw3]; exact (Fr.refl _ w2).alloc _
    have f12 : Fr (fun _ => False) w1 w2 := Fr.of_below HM2.out.2
    refine ⟨(HM1.out.1.fr f12 (fun _ _ e => e)).fr f (fun _ _ e => e), (HM2.out.1.tight2.fr f (fun _ _ e => e)).wide (fun k hk => hk), by rw [hw3]; exact Blk.made _ _ _, HM2.out.2, f.below (fun _ _ e => e)⟩
  obtain ⟨q1, r1, tv1, rows1, hx1⟩ := HM3.out.1
  have HC4 := Lib.hid (Store_x hx1 HM3.out.2.2.1 50 3 (by decide) (by decide) (by decide) (by decide) (by decide))
  have HV3 := Lib.hid hv3
  clear hx1 hw3 hv3 HC3
  go_wp2_with fail
  refine HC4.out.mono ?_
  rintro e w4 ⟨rfl, hD4⟩
  have hs01 := HM1.out.2.size
  have hs12 := HM3.out.2.2.2.1.size
  have hs23 := HM3.out.2.2.2.2.size
  have hs34 := hD4.2.2.size
  have HS := Lib.hid (And.intro hs01 (And.intro hs12 (And.intro hs23 hs34)))
  have HM4 : Hid (PM w4 (fun k => (w.heap.size ≤ k ∧ k < w1.heap.size) ∨ (w3.heap.size ≤ k ∧ k < w4.heap.size)) bm mem0 ∧ RM w4 (fun k => w1.heap.size ≤ k ∧ k < w2.heap.size) rm false (Mem.made 200) ∧ Fr (fun k => (w.heap.size ≤ k ∧ k < w1.heap.size) ∨ k = w2.heap.size) w3 w4) := by
    obtain ⟨h1, h2, h3⟩ := hD4
    refine ⟨h1.tight.wide (fun k hk => ?_), HM3.out.2.1.fr h3 (fun k hk e => by rcases e with e | e <;> omega), h3⟩
    rcases hk with ⟨e | e, e2⟩
    · exact .inl e
    · exact .inr ⟨e, e2⟩
  obtain ⟨r2, tv2, rows2, hx2⟩ := HM4.out.2.1
  have HC5 := Lib.hid (RStore_x hx2 9 50 3 (by decide) (by decide) (by decide))
  clear hx2 hD4 HC4 hs01 hs12 hs23 hs34
  go_wp2_with fail
  refine HC5.out.mono ?_
  rintro e w5 ⟨rfl, hD5⟩
  have HM5 : Hid (PM w5 (fun k => (w.heap.size ≤ k ∧ k < w1.heap.size) ∨ (w3.heap.size ≤ k ∧ k < w4.heap.size)) bm mem0 ∧ RM w5 (fun k => (w1.heap.size ≤ k ∧ k < w2.heap.size) ∨ (w4.heap.size ≤ k ∧ k < w5.heap.size)) rm false mem0 ∧ Below w.heap.size w w5 ∧ w4.heap.size ≤ w5.heap.size) := by
    obtain ⟨h1, h2⟩ := hD5
    obtain ⟨s1, s2, s3, s4⟩ := HS.out
    have b := HV3.out
    refine ⟨HM4.out.1.fr h2 (fun k hk e => by rcases hk with hk | hk <;> omega), h1.tight2.wide (fun k hk => ?_), ?_, h2.size⟩
    · rcases hk with ⟨e | e, e2⟩
      · exact .inl e
      · exact .inr ⟨e, e2⟩
    · refine (((HM1.out.2.trans (HM3.out.2.2.2.1.mono s1)).trans (HM3.out.2.2.2.2.mono (by omega))).trans (HM4.out.2.2.to_below (by omega) fun k hk e => ?_)).trans (h2.to_below (by omega) fun k hk e => ?_)
      · rcases e with e | e <;> omega
      · omega
  have HBW : Hid (Below W.heap.size W w5) := HB.out.trans (HM5.out.2.2.1.mono HB.out.size)
  have HC6 := Lib.hid (procs_any HP.out HBW.out hn HL.out)
  clear hD5 HC5
  go_wp2_with fail
  refine HC6.out.mono ?_
  rintro e w6 ⟨lays, av, mv, rs, ms, rfl, HO⟩
  clear HC6
  have HLY := Lib.hid (HO.out.1.layok HO.out.2)
  obtain ⟨ap, ac, e⟩ := bk_form HO.out.1.oa
  obtain ⟨mp, mc, e'⟩ := bk_form HO.out.1.om
  subst e e'
  have hrl : rs.length = ll.length := HO.out.1.rl.trans HO.out.2
  rw [hrl]
  have HRD : Hid (Reads2 w6 (.slice ap (lays.map fun la => la.map pval).length ac) (lays.map fun la => la.map pval)) := by
    have h1 := HO.out.1.reads
    rw [List.length_map, HO.out.2]
    rw [hrl] at h1
    exact h1
  have HRL := Lib.hid hrl
  clear hrl
  have HTL := Lib.hid (tooLong_lays HLY.out)
  have hpl : (lays.map fun la => la.map pval).length = ll.length := by rw [List.length_map]; exact HLY.out.n
  have HNEW : Hid (Calls Tryz.prog 16 #[.pointer (some ⟨bm, 0, none⟩), .slice ap ll.length ac] w6 fun e w' => ∃ s11 s6, e = .returned (.tuple #[s11, s6]) ∧ Hid (Below w6.heap.size w6 w' ∧ ((tooMany ll = true ∧ s11 = .pointer none ∧ s6 = .int .i64 6) ∨ (tooMany ll = false ∧ ∃ rp T vws cs tv', s11 = .pointer (some ⟨rp, 0, none⟩) ∧ s6 = .int .i64 0 ∧ NewAt w6 w' rp bm (lays.map fun la => la.map pval) ll.length T vws cs tv')))) := by
    have hrd := HRD.out
    have htl := HTL.out
    cases htm : tooMany ll
    · have h64 : ¬ 64 < ll.length := by
        intro h
        unfold tooMany at htm
        rw [show decide (64 < ll.length) = true from by simpa using h] at htm
        cases htm
      have hd : tooLong (lays.map fun la => la.map pval) = false := by
        rw [htl]
        unfold tooMany at htm
        rw [show decide (64 < ll.length) = false from by simpa using h64, Bool.false_or] at htm
        exact htm
      have hne := New_ok (bm := bm) hrd (by rw [hpl]; omega) hd oneCell_lays
      rw [hpl] at hne
      refine hne.mono ?_
      rintro e w' ⟨rp, rfl, T, vws, cs, tv', hN⟩
      exact ⟨_, _, rfl, hN.bel, .inr ⟨rfl, rp, T, vws, cs, tv', rfl, rfl, hN⟩⟩
    · have hne : Calls Tryz.prog 16 #[.pointer (some ⟨bm, 0, none⟩), .slice ap ll.length ac] w6 fun e w' => e = .returned (.tuple #[.pointer none, .int .i64 6]) ∧ w6 = w' := by
        rw [← hpl]
        by_cases h64 : 64 < ll.length
        · exact New_many w6 bm _ ac ap (by rw [hpl]; exact h64)
        · refine New_deep bm hrd (by rw [hpl]; omega) ?_
          rw [htl]
          unfold tooMany at htm
          rw [show decide (64 < ll.length) = false from by simpa using h64, Bool.false_or] at htm
          exact htm
      refine hne.mono ?_
      rintro e w' ⟨rfl, rfl⟩
      exact ⟨_, _, rfl, Below.refl _ _, .inl ⟨rfl, rfl, rfl⟩⟩
  clear HRD HTL hpl
  go_wp2_with fail
  refine HNEW.out.mono ?_
  rintro e w7 ⟨s11, s6, rfl, H8⟩
  clear HNEW
  have HB67 : Hid (Below w5.heap.size w5 w7 ∧ Below w6.heap.size w6 w7) := ⟨HO.out.1.bel.trans (H8.out.1.mono HO.out.1.bel.size), H8.out.1⟩
  have HZN : Hid (Calls Tryz.prog 25 #[.pointer (some ⟨rm, 0, none⟩), .slice tp ll.length tc] w7 fun e w' => ∃ s12 s13, e = .returned (.tuple #[s12, s13]) ∧ Hid (Fr (fun k => ((w1.heap.size ≤ k ∧ k < w2.heap.size) ∨ (w4.heap.size ≤ k ∧ k < w5.heap.size))) w7 w' ∧ ((tooMany ll = true ∧ s12 = .pointer none ∧ s13 = .int .i64 6) ∨ (tooMany ll = false ∧ ∃ q lab, s12 = .pointer (some ⟨q, 0, none⟩) ∧ s13 = .int .i64 0 ∧ ZR W w' lab q rm ll (St.start ll mem0) ∧ (∀ k, lab k ≠ 0 → ((w1.heap.size ≤ k ∧ k < w2.heap.size) ∨ (w4.heap.size ≤ k ∧ k < w5.heap.size)) ∨ w7.heap.size ≤ k))))) := by
    have hb7 : Below W.heap.size W w7 := HBW.out.trans (HB67.out.1.mono HBW.out.size)
    have hs := HS.out
    have hv3 := HV3.out
    have hs5 := HM5.out.2.2.2
    have hs7 := HB67.out.1.size
    have hW := HB.out.size
    refine (RNew04_any (F := fun k => ((w1.heap.size ≤ k ∧ k < w2.heap.size) ∨ (w4.heap.size ≤ k ∧ k < w5.heap.size))) (HM5.out.2.1.fr (Fr.of_below (S := fun _ => False) HB67.out.1) (fun _ _ e => e)) (fun k hk => by omega) (fun k hk => by omega) HP.out hb7 mem0_fit.1 (by rw [mem0_fit.2]; exact Nat.le_refl _) hn HL.out).mono ?_
    rintro e w' (⟨h1, rfl, rfl⟩ | ⟨h1, q, lab, rfl, h2, h3, h4⟩)
    · exact ⟨_, _, rfl, Fr.refl _ _, .inl ⟨h1, rfl, rfl⟩⟩
    · exact ⟨_, _, rfl, h4, .inr ⟨h1, q, lab, rfl, rfl, h2, h3⟩⟩
  go_wp2_with fail
  refine HZN.out.mono ?_
  rintro e w8 ⟨s12, s13, rfl, H9⟩
  clear HZN
  have HCL : Hid (Clr w8 w8 (.slice ap ll.length ac) rs (lays.map List.length) 0) := by
    have hs := HS.out
    have hv3 := HV3.out
    have hs5 := HM5.out.2.2.2
    have h6 := HO.out.1
    have f68 : Fr (fun k => ((w1.heap.size ≤ k ∧ k < w2.heap.size) ∨ (w4.heap.size ≤ k ∧ k < w5.heap.size))) w6 w8 := (Fr.of_below HB67.out.2).trans H9.out.1
    have nf : ∀ k, w5.heap.size ≤ k → ¬ ((w1.heap.size ≤ k ∧ k < w2.heap.size) ∨ (w4.heap.size ≤ k ∧ k < w5.heap.size)) := fun k hk e => by omega
    refine ⟨⟨rs, ?_, fun _ _ => rfl⟩, fun j r n _ hr hn => ?_, Fr.refl _ _⟩
    · have h1 := own_fr h6.oa f68 (fun g e => nf g (own_ge h6.oa e))
      rw [HRL.out] at h1
      rw [HRL.out]
      exact own_base h1 (Nat.zero_le _)
    · rw [List.getElem?_map] at hn
      cases hla : lays[j]? with
      | none => rw [hla] at hn; cases hn
      | some la =>
        rw [hla] at hn
        injection hn with hn
        subst hn
        obtain ⟨l', r', m, a, b, c, d, e1, e2, e3⟩ := h6.row j la hla
        rw [hr] at c; injection c with c; subst c
        exact ⟨_, own_base (own_fr e1 f68 (fun g e => nf g (own_ge e1 e))) (Nat.zero_le _)⟩
  have HDJ := Lib.hid HO.out.1.dj
  have hrl2 : rs.length = ll.length := HRL.out
  have HLL : Hid (lays.length = ll.length) := HLY.out.n
  clear hrl2
  go_wp2_with fail
  go_loopw [14] (fun s14 wr => ∃ i : Nat, s14 = .int .i64 i ∧ i ≤ ll.length ∧ Hid (Clr w8 wr (.slice ap ll.length ac) rs (lays.map List.length) i)) (fun s14 _ => ll.length - (intOf s14).toNat)
  case atStart => exact ⟨0, rfl, Nat.zero_le _, HCL⟩
  case round =>
    clear HCL
    obtain ⟨i, rfl, hi, HC⟩ := hrel
    by_cases hlt : i < ll.length
    · obtain ⟨ag, ac', r, e, hr, hcell⟩ := HC.out.cell (by rw [HRL.out]; exact hlt)
      injection e with e1 e2 e3
      clear e2
      subst e1 e3
      obtain ⟨n, hnl⟩ : ∃ n, (lays.map List.length)[i]? = some n := ⟨_, List.getElem?_eq_getElem (by rw [List.length_map, HLL.out]; exact hlt)⟩
      obtain ⟨xs, hx⟩ := HC.out.row i r n (Nat.le_refl _) hr hnl
      obtain ⟨rp0, rc0, e⟩ := bk_form hx
      subst e
      have hnb : n ≤ 1048576 := by
        rw [List.getElem?_map] at hnl
        cases hla : lays[i]? with
        | none => rw [hla] at hnl; cases hnl
        | some la =>
          rw [hla] at hnl
          injection hnl with hnl
          obtain ⟨l', hl'⟩ : ∃ l', ll[i]? = some l' := ⟨_, List.getElem?_eq_getElem hlt⟩
          have := HLY.out.len i la l' hla hl'
          have := HL.out l' (List.mem_of_getElem? hl')
          omega
      have HR := Lib.hid hr
      have HNL := Lib.hid hnl
      clear hcell hx hr hnl
      obtain ⟨wi, rfl⟩ : ∃ wi : World, wi = wr := ⟨_, rfl⟩
      have c0 : ∀ wx, Clr w8 wx (.slice (some ⟨ag, 0, none⟩) ll.length ac) rs (lays.map List.length) i → wx.cell? ⟨ag, i, none⟩ = some (.slice rp0 n rc0) := by
        intro wx hc
        obtain ⟨g, c, r, e, hr, hcell⟩ := hc.cell (by rw [HRL.out]; exact hlt)
        injection e with e1 _ _
        injection e1 with e1
        injection e1 with e1
        subst e1
        rw [HR.out] at hr
        injection hr with hr
        subst hr
        exact hcell
      have HC0 := Lib.hid c0
      have cc := c0 _ HC.out
      clear c0
      go_wp2_with fail
      go_loopw [15] (fun s15 wx => ∃ k : Nat, s15 = .int .i64 k ∧ k ≤ n ∧ Hid (Clr w8 wx (.slice (some ⟨ag, 0, none⟩) ll.length ac) rs (lays.map List.length) i)) (fun s15 _ => n - (intOf s15).toNat)
      case atStart => exact ⟨0, rfl, Nat.zero_le _, HC⟩
      case round =>
        clear HC cc
        obtain ⟨k, rfl, hk, HC⟩ := hrel
        have c1 := HC0.out _ HC.out
        by_cases hlk : k < n
        · obtain ⟨g, c, e, ⟨x, hx⟩, hf, hcl⟩ := HC.out.inner HDJ.out HR.out HNL.out hlk .nilIface
          injection e with e1 e2 e3
          clear e2
          subst e1 e3
          have HN := Lib.hid hcl
          clear hcl HC
          go_wp2_with fail
          go_round
          case rel => exact ⟨k + 1, by go_num, by omega, HN⟩
          case measure => simp [intOf]; omega
        · obtain ⟨g, c, e, ⟨x, hx⟩, hf, hcl⟩ := HC.out.outer (by rw [HRL.out]; exact hlt) (.slice none 0 0)
          injection e with e1 e2 e3
          clear e2 e3
          injection e1 with e1
          injection e1 with e1
          subst e1
          have HN := Lib.hid hcl
          clear hcl HC hx
          go_wp2_with fail
          go_round
          case rel => exact ⟨i + 1, by go_num, by omega, HN⟩
          case measure => simp [intOf]; omega
    · obtain rfl : i = ll.length := by omega
      have HALL : Hid (Fr (fun k => w5.heap.size ≤ k ∧ k < w6.heap.size) w8 wr ∧ Below w.heap.size w wr) := by
        have hs := HS.out
        have hv3 := HV3.out
        have hs5 := HM5.out.2.2.2
        have h6 := HO.out.1
        have f9 : Fr (fun k => w5.heap.size ≤ k ∧ k < w6.heap.size) w8 wr := HC.out.fr.mono fun k _ hk => by
          rcases hk with e | ⟨r, hr, e⟩
          · exact ⟨own_ge h6.oa (by rw [HRL.out]; exact e), own_lt h6.oa (by rw [HRL.out]; exact e)⟩
          · obtain ⟨j, hj⟩ := List.getElem?_of_mem hr
            obtain ⟨la, hla⟩ : ∃ la, lays[j]? = some la := ⟨_, List.getElem?_eq_getElem (by have := (List.getElem?_eq_some_iff.1 hj).1; rw [← h6.rl]; exact this)⟩
            obtain ⟨l', r', m, a, b, c, d, e1, e2, e3⟩ := h6.row j la hla
            rw [hj] at c; injection c with c; subst c
            exact ⟨own_ge e1 e, own_lt e1 e⟩
        refine ⟨f9, ?_⟩
        have b5 := HM5.out.2.2.1
        have h56 := HB67.out.1
        have f78 : Fr (fun k => ((w1.heap.size ≤ k ∧ k < w2.heap.size) ∨ (w4.heap.size ≤ k ∧ k < w5.heap.size))) w7 w8 := H9.out.1
        have z5 := b5.size
        have z7 := h56.size
        have z8 := f78.size
        refine ((b5.trans (h56.mono z5)).trans (f78.to_below (by omega) fun k hk e => ?_)).trans (f9.to_below (by omega) fun k hk e => ?_)
        · omega
        · omega
      have HFR := Lib.hid HC.out.fr
      clear HC
      rcases H8.out.2 with ⟨h8, rfl, rfl⟩ | ⟨h8, rp, T, vws, cs, tv', rfl, rfl, hN⟩
      · have H9' : s12 = .pointer none ∧ s13 = .int .i64 6 := by
          rcases H9.out.2 with ⟨_, a, b⟩ | ⟨h, _⟩
          · exact ⟨a, b⟩
          · rw [h8] at h; cases h
        obtain ⟨rfl, rfl⟩ := H9'
        have HT := Lib.hid h8
        clear h8
        have HBEL : Hid (∀ o, Below w.heap.size w (wr.alloc o)) := fun o => (HALL.out.2).trans (((Fr.refl (fun _ => False) wr).alloc o).to_below (by exact HALL.out.2.size) (fun _ _ e => e))
        go_wp2_with fail
        go_ret3
        exact .inl ⟨HT.out, ⟨_, rfl⟩, HBEL.out _⟩
      · have H9' : ∃ q lab, s12 = .pointer (some ⟨q, 0, none⟩) ∧ s13 = .int .i64 0 ∧ ZR W w8 lab q rm ll (St.start ll mem0) ∧ (∀ k, lab k ≠ 0 → ((w1.heap.size ≤ k ∧ k < w2.heap.size) ∨ (w4.heap.size ≤ k ∧ k < w5.heap.size)) ∨ w7.heap.size ≤ k) := by
          rcases H9.out.2 with ⟨h, _⟩ | ⟨_, h⟩
          · rw [h8] at h; cases h
          · exact h
        obtain ⟨q, lab, rfl, rfl, hzr, hlab⟩ := H9'
        have HEND : Hid (BothX W w (wr.alloc (.cells #[.pointer (some ⟨bm, 0, none⟩), .pointer (some ⟨rp, 0, none⟩), .slice mp ms.length mc] 56)) ll wr.heap.size q (St.start ll mem0)) := by
          have hs := HS.out
          have hv3 := HV3.out
          have hs5 := HM5.out.2.2.2
          have h6 := HO.out.1
          have h56 := HB67.out.1
          have z56 := h6.bel.size
          have z67 := HB67.out.2.size
          have f78 : Fr (fun k => ((w1.heap.size ≤ k ∧ k < w2.heap.size) ∨ (w4.heap.size ≤ k ∧ k < w5.heap.size))) w7 w8 := H9.out.1
          have f8r := HFR.out
          have fra : Fr (fun _ => False) wr (wr.alloc (.cells #[.pointer (some ⟨bm, 0, none⟩), .pointer (some ⟨rp, 0, none⟩), .slice mp ms.length mc] 56)) := (Fr.refl _ wr).alloc _
          have hll := HO.out.2
          have hL : ((T.map Thr.pv).zip lays).map (·.2) = lays := List.map_snd_zip (by rw [List.length_map, hN.lt]; omega)
          have hlays : (⟨rp, bm, vws, (T.map Thr.pv).zip lays⟩ : Lay).lays = lays := hL
          have hlok : (⟨rp, bm, vws, (T.map Thr.pv).zip lays⟩ : Lay).OK ll := by
            refine ⟨by rw [hlays]; exact HLY.out, hN.lv, ?_⟩
            show ((T.map Thr.pv).zip lays).length = ll.length
            rw [List.length_zip, List.length_map, hN.lt, hll, Nat.min_self]
          have hW := HB.out.size
          have z05 := HM5.out.2.2.1.size
          obtain ⟨G, hpg, hG⟩ := PG.start (L := ⟨rp, bm, vws, (T.map Thr.pv).zip lays⟩) (W := W) (w := w5) (w1 := w6) (w2 := w7) (w3 := w7) (F := fun k => ((w.heap.size ≤ k ∧ k < w1.heap.size) ∨ (w3.heap.size ≤ k ∧ k < w4.heap.size))) (by rw [hlays]; exact h6) hlok (by rw [hlays]; exact hN) (by rw [hlays]) (Fr.refl _ _) (HM5.out.1.fr (Fr.of_below (S := fun _ => False) h56) (fun _ _ e => e)) (fun k hk => by omega) (by omega) (HBW.out.trans (h56.mono (by omega))) HB67.out.2
          rw [hlays] at hG
          have hav : ∀ k, ((Value.slice ap ll.length ac).ownBlock = some k ∨ ∃ r ∈ rs, r.ownBlock = some k) → (w5.heap.size ≤ k ∧ k < w6.heap.size) ∧ ∃ e cs, Blk w6 k e cs ∧ (e = 73 ∨ e = 88) := by
            rintro k (e | ⟨r, hr, e⟩)
            · have e' : (Value.slice ap rs.length ac).ownBlock = some k := by rw [HRL.out]; exact e
              obtain ⟨cs, hb⟩ := bk_blk h6.oa e'
              exact ⟨⟨own_ge h6.oa e', own_lt h6.oa e'⟩, _, cs, hb, .inl rfl⟩
            · obtain ⟨j, hj⟩ := List.getElem?_of_mem hr
              obtain ⟨la, hla⟩ : ∃ la, lays[j]? = some la := ⟨_, List.getElem?_eq_getElem (by have := (List.getElem?_eq_some_iff.1 hj).1; rw [← h6.rl]; exact this)⟩
              obtain ⟨l', r', m, a, b, c, d, e1, e2, e3⟩ := h6.row j la hla
              rw [hj] at c; injection c with c; subst c
              obtain ⟨cs, hb⟩ := bk_blk e1 e
              exact ⟨⟨own_ge e1 e, own_lt e1 e⟩, _, cs, hb, .inr rfl⟩
          have hlp : ∀ t j k, layAt lays t j = some (some k) → (w5.heap.size ≤ k ∧ k < w6.heap.size) ∧ ∃ cs, Blk w6 k 122 cs := by
            intro t j k h
            unfold layAt at h
            split at h
            · rename_i la hla
              obtain ⟨l, r, m, a, _, _, _, _, _, e3⟩ := h6.row t la hla
              obtain ⟨x, q1, lv, q2, q3, q4, q5⟩ := e3.pr j k h
              exact ⟨⟨q5, q4.lt⟩, _, q4⟩
            · cases h
          have hGn : ∀ k, G k → ¬ ((w1.heap.size ≤ k ∧ k < w2.heap.size) ∨ (w4.heap.size ≤ k ∧ k < w5.heap.size)) ∧ ¬ ((Value.slice ap ll.length ac).ownBlock = some k ∨ ∃ r ∈ rs, r.ownBlock = some k) ∧ w.heap.size ≤ k ∧ k < w7.heap.size := by
            intro k hk
            rcases hG k hk with e | ⟨t, j, e⟩ | e
            · refine ⟨by omega, fun h => ?_, by omega, by omega⟩
              have := (hav k h).1; omega
            · obtain ⟨h1, cs, hb⟩ := hlp t j k e
              refine ⟨by omega, fun h => ?_, by omega, by omega⟩
              obtain ⟨_, e', cs', hb', he⟩ := hav k h
              rcases he with rfl | rfl
              · exact Blk.ne hb hb' (by decide) rfl
              · exact Blk.ne hb hb' (by decide) rfl
            · refine ⟨by omega, fun h => ?_, by omega, by omega⟩
              have := (hav k h).1; omega
          have p1 := hpg.fr f78 (fun k hk => ⟨by omega, fun h => (hGn k h).1 hk⟩)
          have p2 := p1.fr f8r (fun k hk => ⟨by have := (hav k hk).1; omega, fun h => (hGn k h).2.1 hk⟩)
          have p3 := p2.fr fra (fun k hk => hk.elim)
          obtain ⟨lab', z1, ha, hz⟩ := (hzr.fr f8r (fun k hk h => by
            have := (hav k h).1
            have := hlab k hk
            omega) (fun k hk h => by have := (hav k h).1; omega)).wipe
          have z2 := z1.fr fra (fun _ _ e => e) (fun _ _ e => e)
          have z78 := f78.size
          have z8r := f8r.size
          have hsz : (wr.alloc (.cells #[.pointer (some ⟨bm, 0, none⟩), .pointer (some ⟨rp, 0, none⟩), .slice mp ms.length mc] 56)).heap.size = wr.heap.size + 1 := by simp
          have hlab' : ∀ k, lab' k ≠ 0 → ((w1.heap.size ≤ k ∧ k < w2.heap.size) ∨ (w4.heap.size ≤ k ∧ k < w5.heap.size)) ∨ w7.heap.size ≤ k := by
            intro k hk
            rcases Nat.lt_or_ge k wr.heap.size with h | h
            · rw [ha k h] at hk; exact hlab k hk
            · exact absurd (hz k h) hk
          have mine : ∀ {v : Value} {n : Nat} {xs : List Value} {e : TypeId}, w6.ownsRow w5.heap.size e 1 v n xs → 73 ≠ e → 88 ≠ e → (wr.alloc (.cells #[.pointer (some ⟨bm, 0, none⟩), .pointer (some ⟨rp, 0, none⟩), .slice mp ms.length mc] 56)).ownsRow 0 e 1 v n xs := by
            intro v n xs e ho n1 n2
            have a1 := own_fr ho (Fr.of_below (S := fun _ => False) HB67.out.2) (fun _ _ e => e)
            have a2 := own_fr a1 f78 (fun g hg e => by have := own_ge ho hg; omega)
            have a3 := own_fr a2 f8r (fun g hg h => by
              obtain ⟨_, e', cs', hb', he⟩ := hav g h
              obtain ⟨cs, hb⟩ := bk_blk ho hg
              rcases he with rfl | rfl
              · exact Blk.ne hb' hb n1 rfl
              · exact Blk.ne hb' hb n2 rfl)
            exact own_base (own_fr a3 fra (fun _ _ e => e)) (Nat.zero_le _)
          have hmz : ∀ k, ((Value.slice mp ms.length mc).ownBlock = some k ∨ ∃ m ∈ ms, m.ownBlock = some k) → (w5.heap.size ≤ k ∧ k < w6.heap.size) ∧ ¬ G k := by
            have ng : ∀ {k : Nat} {e : TypeId} {cs : Array Value}, Blk w6 k e cs → 122 ≠ e → w5.heap.size ≤ k → ¬ G k := by
              intro k e cs hb hne h5 hk
              have h6 := hb.lt
              rcases hG k hk with e | ⟨t, j, e⟩ | e
              · omega
              · obtain ⟨_, cs', hb'⟩ := hlp t j k e
                exact Blk.ne hb' hb hne rfl
              · omega
            rintro k (e | ⟨m, hm, e⟩)
            · obtain ⟨cs, hb⟩ := bk_blk h6.om e
              exact ⟨⟨own_ge h6.om e, hb.lt⟩, ng hb (by decide) (own_ge h6.om e)⟩
            · obtain ⟨j, hj⟩ := List.getElem?_of_mem hm
              obtain ⟨la, hla⟩ : ∃ la, lays[j]? = some la := ⟨_, List.getElem?_eq_getElem (by have := (List.getElem?_eq_some_iff.1 hj).1; rw [← h6.ml]; exact this)⟩
              obtain ⟨l', r', m', a, b, c, d, e1, e2, e3⟩ := h6.row j la hla
              rw [hj] at d; injection d with d; subst d
              obtain ⟨cs, hb⟩ := bk_blk e2 e
              exact ⟨⟨own_ge e2 e, hb.lt⟩, ng hb (by decide) (own_ge e2 e)⟩
          refine ⟨_, G, fun k => k = wr.heap.size ∨ (Value.slice mp ms.length mc).ownBlock = some k ∨ ∃ m ∈ ms, m.ownBlock = some k, lab', rm, hlok, ⟨p3, z2, ?_, fun k hk => ?_, fun k hk => ?_, fun k hk => hz k (by omega), ?_, fun k hk => ?_, fun k hk => ?_⟩⟩
          · rw [hlays]
            refine ⟨_, ms, Blk.made _ _ _, ?_, fun i lay m h1 h2 => ?_, .inl rfl, fun g hg => .inr (.inl hg)⟩
            · have := mine h6.om (by decide) (by decide)
              rw [h6.ml] at this ⊢
              exact this
            · obtain ⟨l', r', m', a, b, c, d, e1, e2, e3⟩ := h6.row i lay h1
              rw [h2] at d; injection d with d; subst d
              exact ⟨mine e2 (by decide) (by decide), fun g hg => .inr (.inr ⟨_, List.mem_of_getElem? h2, hg⟩)⟩
          · have h1 := hGn k hk
            refine Classical.byContradiction fun h => ?_
            rcases hlab' k h with e | e
            · exact h1.1 e
            · omega
          · rcases hk with rfl | hk
            · exact ⟨fun h => by have := hGn _ h; omega, hz _ (Nat.le_refl _)⟩
            · obtain ⟨h1, h2⟩ := hmz k hk
              refine ⟨h2, Classical.byContradiction fun h => ?_⟩
              have := hlab' k h
              omega
          · exact HALL.out.2.trans (fra.to_below HALL.out.2.size (fun _ _ e => e))
          · rcases hk with hk | hk | hk
            · exact (hGn k hk).2.2.1
            · rcases hk with rfl | hk
              · omega
              · have := (hmz k hk).1; omega
            · have := hlab' k hk; omega
          · rcases hk with rfl | hk
            · omega
            · have := (hmz k hk).1; omega
        have HT := Lib.hid h8
        clear h8 hN hzr hlab
        go_wp2_with fail
        go_ret3
        exact .inr ⟨HT.out, _, q, rfl, HEND⟩
end
end Go.Proofs.YtkaplifhaafpdaaGreat

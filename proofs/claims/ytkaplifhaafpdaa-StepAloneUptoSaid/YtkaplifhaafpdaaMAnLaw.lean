/-
  StepAlone: the row, alone. No condition.
-/
import Derived.Test.YtkaplifhaafpdaaMAnTail
import Derived.Test.YtkaplifhaafpdaaM23
import Derived.Test.YtkaplifhaafpdaaM37
namespace Go.Proofs.Ytkaplifhaafpdaa
open Go Go.RowKit
set_option linter.unusedSimpArgs false
set_option linter.unusedVariables false
section
variable {W w : World} {l : List Plan} {lv : Value}
theorem NewRow_any {v : Value} {xs : List Value} (h : Reads w v xs) (hn : xs.length ≤ 1000000000) (h1 : ∀ x ∈ xs, x.oneCell' = true) : Calls Try.prog 33 #[v] w fun e w' => ∃ rp sv, e = .returned (.pointer (some ⟨rp, 0, none⟩)) ∧ Hid (Blk w' rp 143 #[sv] ∧ w'.ownsRow w.heap.size 80 1 sv xs.length xs ∧ w.heap.size ≤ rp ∧ Below w.heap.size w w') := by
  have HC := Lib.hid (CloneP_own h hn h1)
  go_enter Try.func33, Try.ntmps33
  go_wp2_with fail
  refine HC.out.mono ?_
  rintro e w1 ⟨sv, rfl, ho, hb⟩
  have HO := Lib.hid (And.intro ho hb)
  obtain ⟨sp, sc, e⟩ := bk_form ho
  subst e
  clear ho hb HC
  go_wp2_with fail
  go_ret
  exact ⟨_, _, rfl, Blk.made _ _ _, own_fr HO.out.1 ((Fr.refl (fun _ => False) _).alloc _) (fun _ _ e => e), HO.out.2.size, HO.out.2.alloc HO.out.2.size _⟩
theorem own_reads {v : Value} {n : Nat} {xs : List Value} {b e : Nat} (ho : w.ownsRow b e 1 v n xs) (hl : xs.length = n) : Reads w v xs := by
  rcases id ho.2 with ⟨rfl, h2⟩ | ⟨g, cap, cur, rfl, -, hb, -⟩
  · subst h2
    exact ⟨none, 0, by rw [hl], fun _ => rfl, fun j x hx => by have := (List.getElem?_eq_some_iff.1 hx).1; omega⟩
  · exact ⟨some ⟨g, 0, none⟩, cap, by rw [hl], (by intro e; cases e), fun j x hx => ⟨g, 0, rfl, own_lt ho rfl, by rw [Nat.zero_add]; exact own_cell ho hx⟩⟩
set_option maxHeartbeats 4000000 in
set_option maxRecDepth 100000 in
theorem StepAlone_any (hp : PlanAt W lv l) (hw : planWt l ≤ 1048576) (hf : ∀ y ∈ l, ∀ d ∈ y.l, d.fits) (most : Int) (hm : -9223372036854775808 ≤ most ∧ most ≤ 9223372036854775807) :
    Calls Try.prog 7 #[lv, .int .i64 most] W fun e w' => e = .returned (.bool true) ∧ Below W.heap.size W w' := by
  have hp0 := hp
  obtain ⟨lp, lc, rfl, -, -⟩ := hp0
  have HP := Lib.hid hp
  have HF := Lib.hid hf
  have HL1 := Lib.hid (live_any W)
  have hll : l.length ≤ 1048576 := by 
    have h : ∀ l : List Plan, l.length ≤ (l.map Plan.cost).sum := by
      intro l
      induction l with
      | nil => simp
      | cons y l ih => have := cost_pos y; simp; omega
    have := h l; have := wt_sum l; omega
  clear hp hf
  go_enter Try.func7, Try.ntmps7
  go_wp2_with fail
  refine HL1.out.mono ?_
  rintro e w1 ⟨rfl, hb1⟩
  have HB1 := Lib.hid hb1
  have HC1 := Lib.hid (New_plain w1 200 (by decide) (by decide))
  clear hb1 HL1
  go_wp2_with fail
  refine HC1.out.mono ?_
  rintro e w2 ⟨bm, rfl, hM2, hB2⟩
  have HM2 : Hid (PM w2 (fun k => w1.heap.size ≤ k ∧ k < w2.heap.size) bm (Mem.made 200) ∧ Below w1.heap.size w1 w2) := ⟨hM2.tight, hB2⟩
  have HC2 := Lib.hid (RNew_any w2 200 (by decide) (by decide) false)
  clear hM2 hB2 HC1
  go_wp2_with fail
  refine HC2.out.mono ?_
  rintro e w3 ⟨rm, rfl, hM3⟩
  have HM3 : Hid (PM w3 (fun k => w1.heap.size ≤ k ∧ k < w2.heap.size) bm (Mem.made 200) ∧ RM w3 (fun k => w2.heap.size ≤ k ∧ k < w3.heap.size) rm false (Mem.made 200) ∧ Below W.heap.size W w3 ∧ w1.heap.size ≤ w2.heap.size ∧ w2.heap.size ≤ w3.heap.size) := by
    have b1 := HB1.out
    have b2 := HM2.out.2
    have b3 := hM3.2
    refine ⟨HM2.out.1.fr (Fr.of_below (S := fun _ => False) b3) (fun _ _ e => e), hM3.1.tight2, (b1.trans (b2.mono b1.size)).trans (b3.mono (Nat.le_trans b1.size b2.size)), b2.size, b3.size⟩
  have hin : PlansIn W (w3.alloc (.cells #[.slice lp l.length lc] 56)) (.slice (some ⟨w3.heap.size, 0, none⟩) 1 1) [l] := by
    refine ⟨some ⟨w3.heap.size, 0, none⟩, 1, rfl, (by intro e; cases e), fun k l' hk => ?_⟩
    obtain ⟨rfl, rfl⟩ : k = 0 ∧ l = l' := by
      match k, hk with
      | 0, hk => exact ⟨rfl, by simpa using hk⟩
      | k + 1, hk => simp at hk
    exact ⟨w3.heap.size, 0, .slice lp l.length lc, rfl, by simp, (Blk.made w3 _ _).cell 0, HP.out⟩
  have HB4 : Hid (Below W.heap.size W (w3.alloc (.cells #[.slice lp l.length lc] 56))) := HM3.out.2.2.1.alloc HM3.out.2.2.1.size _
  have HC6 := Lib.hid (procs_in hin HB4.out (by simp) (by intro l' hl'; simp at hl'; subst hl'; exact hll))
  have H34 : Hid (Below w3.heap.size w3 (w3.alloc (.cells #[.slice lp l.length lc] 56))) := (Below.refl _ w3).alloc (Nat.le_refl _) _
  clear hin hM3 HC2
  go_wp2_with fail
  generalize w3.alloc (.cells #[.slice lp l.length lc] 56) = w4 at *
  refine HC6.out.mono ?_
  rintro e w5 ⟨lays, av, mv, rs, ms, rfl, HO⟩
  clear HC6
  obtain ⟨lay, rfl⟩ : ∃ lay, lays = [lay] := by
    have h1 : lays.length = 1 := HO.out.2
    match lays, h1 with
    | [lay], _ => exact ⟨lay, rfl⟩
  have hrl : rs.length = 1 := HO.out.1.rl
  have hml : ms.length = 1 := HO.out.1.ml
  have HLY := Lib.hid (HO.out.1.layok HO.out.2)
  obtain ⟨l', r, m, q1, q2, hr, hmm, hro, hmo, -⟩ := HO.out.1.row 0 lay rfl
  obtain rfl : l = l' := by simpa using q1
  obtain ⟨ap, ac, rfl, -, -⟩ := bk_form1 HO.out.1.oa (by omega)
  obtain ⟨mp, mc, rfl, -, -⟩ := bk_form1 HO.out.1.om (by omega)
  have car : w5.cell? ⟨ap, 0, none⟩ = some r := own_cell HO.out.1.oa hr
  have HCM : Hid (w5.cell? ⟨mp, 0, none⟩ = some m) := own_cell HO.out.1.om hmm
  have HC7 := Lib.hid (NewRow_any (own_reads hro (by simp)) (by simp; omega) (fun x hx => by obtain ⟨y, _, rfl⟩ := List.mem_map.1 hx; cases y <;> rfl))
  have HRO := Lib.hid (And.intro hro (And.intro hmo (And.intro hr hmm)))
  have HQ2 : Hid (lay.length = l.length) := q2.symm
  obtain ⟨rp0, rc0, e⟩ := bk_form hro
  subst e
  rw [hrl, hml]
  have HRL := Lib.hid (And.intro hrl hml)
  clear hro hmo hr hmm q1 q2 hrl hml
  go_wp2_with fail
  refine HC7.out.mono ?_
  rintro e w6 ⟨rp, sv, rfl, HR6⟩
  rw [List.length_map] at HR6
  have HCL : Hid (Clr w6 w6 (.slice (some ⟨ap, 0, none⟩) 1 ac) rs [lay.length] 0) := by
    have f : Fr (fun _ => False) w5 w6 := Fr.of_below HR6.out.2.2.2
    refine ⟨⟨rs, ?_, fun _ _ => rfl⟩, fun j r n _ hr hn => ?_, Fr.refl _ _⟩
    · have h1 := own_fr HO.out.1.oa f (fun _ _ e => e)
      rw [HRL.out.1] at h1 ⊢
      exact own_base h1 (Nat.zero_le _)
    · obtain ⟨rfl, rfl⟩ : j = 0 ∧ lay.length = n := by
        match j, hn with
        | 0, hn => exact ⟨rfl, by simpa using hn⟩
        | j + 1, hn => simp at hn
      rw [HRO.out.2.2.1] at hr
      injection hr with hr
      subst hr
      exact ⟨_, own_base (own_fr HRO.out.1 f (fun _ _ e => e)) (Nat.zero_le _)⟩
  have hdj : ∀ (i j : Nat) (r r' : Value) g, rs[i]? = some r → rs[j]? = some r' → r.ownBlock = some g → r'.ownBlock = some g → i = j := HO.out.1.dj
  have HDJ := Lib.hid hdj
  clear hdj car HC7
  go_wp2_with fail
  go_loopw [12] (fun s12 wr => ∃ i : Nat, s12 = .int .i64 i ∧ i ≤ lay.length ∧ Hid (Clr w6 wr (.slice (some ⟨ap, 0, none⟩) 1 ac) rs [lay.length] 0)) (fun s12 _ => lay.length - (intOf s12).toNat)
  case atStart => exact ⟨0, rfl, Nat.zero_le _, HCL⟩
  case round =>
    clear HCL
    obtain ⟨i, rfl, hi, HC⟩ := hrel
    have c0 : wr.cell? ⟨ap, 0, none⟩ = some (.slice rp0 lay.length rc0) := by
      obtain ⟨g, c, r', e, hr', hcell⟩ := HC.out.cell (by rw [HRL.out.1]; decide)
      injection e with e1 _ _
      injection e1 with e1
      injection e1 with e1
      subst e1
      rw [HRO.out.2.2.1] at hr'
      injection hr' with hr'
      rw [hr']
      exact hcell
    have hnb : lay.length ≤ 1048576 := by rw [HQ2.out]; exact hll
    by_cases hlt : i < lay.length
    · obtain ⟨g, c, e, ⟨x0, cx⟩, fx, hC2⟩ := HC.out.inner HDJ.out HRO.out.2.2.1 rfl hlt .nilIface
      injection e with e1 e2 e3
      subst e1 e3
      have hlt' : decide ((i : Int) < (lay.length : Int)) = true := by simp; omega
      have HC2 := Lib.hid hC2
      clear hC2
      go_wp2_with fail
      go_round
      case rel => exact ⟨i + 1, by go_num, by omega, HC2⟩
      case measure => simp [intOf]; omega
    · obtain rfl : i = lay.length := by omega
      have H7 : Hid (Fr (fun k => k = ap ∨ (Value.slice rp0 lay.length rc0).ownBlock = some k) w6 wr ∧ Below W.heap.size W wr) := by
        have f := HC.out.fr.mono (T := fun k => k = ap ∨ (Value.slice rp0 lay.length rc0).ownBlock = some k) (fun k _ e => by
          rcases e with e | ⟨r', hr', e⟩
          · left; simpa [Value.ownBlock] using e.symm
          · right
            obtain ⟨j, hj⟩ := List.getElem?_of_mem hr'
            have hj0 : j = 0 := by have := (List.getElem?_eq_some_iff.1 hj).1; have := HRL.out.1; omega
            subst hj0
            rw [HRO.out.2.2.1] at hj
            injection hj with hj
            rw [hj]; exact e)
        have hb6 : Below W.heap.size W w6 := (HB4.out.trans (HO.out.1.bel.mono HB4.out.size)).trans (HR6.out.2.2.2.mono (Nat.le_trans HB4.out.size HO.out.1.bel.size))
        refine ⟨f, hb6.trans (f.to_below hb6.size fun k hk e => ?_)⟩
        rcases e with rfl | e
        · have h1 : w4.heap.size ≤ k := own_ge HO.out.1.oa rfl
          have := HB4.out.size; omega
        · have := own_ge HRO.out.1 e; have := HB4.out.size; omega
      have HPW : Hid (∀ k x, l[k]? = some x → ∃ b o dp dc, lp = some ⟨b, o, none⟩ ∧ wr.cell? ⟨b, o + k * 2, none⟩ = some (.bool x.none) ∧ wr.cell? ⟨b, o + k * 2 + 1, none⟩ = some (.slice dp x.l.length dc)) := by
        obtain ⟨p, c, e, _, hq⟩ := HP.out
        injection e with e _ _
        subst e
        refine Lib.hid fun k x hk => ?_
        obtain ⟨b, o, v, e1, hb, k1, k2, dp, dc, e2, _⟩ := hq k x hk
        subst e2
        exact ⟨b, o, dp, dc, e1, (H7.out.2.cell (p := ⟨b, _, none⟩) hb).trans k1, (H7.out.2.cell (p := ⟨b, _, none⟩) hb).trans k2⟩
      clear HC
      generalize hw7 : wr = w7 at *
      clear hw7
      go_wp2_with fail
      clear c0
      go_loop [13, 14, 15] (fun s13 s14 s15 => ∃ k : Nat, s14 = .int .i64 k ∧ k ≤ l.length ∧ s13 = .int .i64 (cum l k)) (fun _ s14 _ => l.length - (intOf s14).toNat)
      case atStart => exact ⟨0, rfl, Nat.zero_le _, by simp [cum]⟩
      case round =>
        obtain ⟨k, rfl, hk, rfl⟩ := hrel
        by_cases hlk : k < l.length
        · obtain ⟨x, hx⟩ : ∃ x, l[k]? = some x := ⟨_, List.getElem?_eq_getElem hlk⟩
          obtain ⟨b, o, dp, dc, rfl, k1, k2⟩ := HPW.out k x hx
          have hcs := cum_succ hx
          have hcw := cum_wt (l := l) (k + 1)
          have hlk' : decide ((k : Int) < (l.length : Int)) = true := by simp; omega
          have HX := Lib.hid hx
          clear hx
          cases hxn : x.none
          · rw [hxn] at k1
            by_cases hx1 : x.l.length < 1
            · have t1 : decide ((x.l.length : Int) < 1) = true := by simp; omega
              have hco : x.cost = 1 := by unfold Plan.cost; rw [hxn]; simp; omega
              go_wp2_with fail
              go_round
              case rel => exact ⟨k + 1, by go_num, by omega, by rw [hcs, hco]; go_num⟩
              case measure => simp [intOf]; omega
            · have t1 : decide ((x.l.length : Int) < 1) = false := by simp; omega
              have hco : x.cost = x.l.length := by unfold Plan.cost; rw [hxn]; simp; omega
              go_wp2_with fail
              go_round
              case rel => exact ⟨k + 1, by go_num, by omega, by rw [hcs, hco]; go_num⟩
              case measure => simp [intOf]; omega
          · rw [hxn] at k1
            have hco : x.cost = 1 := by unfold Plan.cost; rw [hxn]; rfl
            go_wp2_with fail
            go_round
            case rel => exact ⟨k + 1, by go_num, by omega, by rw [hcs, hco]; go_num⟩
            case measure => simp [intOf]; omega
        · obtain rfl : k = l.length := by omega
          have hcw := cum_wt (l := l) l.length
          go_upto_if 82 with fail
          go_cut [13] (fun s13 wx => s13 = .int .i64 ((max 1 (cum l l.length) : Nat) : Int) ∧ wx = w7)
          case first =>
            by_cases hc1 : cum l l.length < 1
            · have t1 : decide ((cum l l.length : Int) < 1) = true := by simp; omega
              have e1 : max 1 (cum l l.length) = 1 := by omega
              go_wp2_with fail
              go_meet
              exact ⟨by rw [e1]; rfl, rfl⟩
            · have t1 : decide ((cum l l.length : Int) < 1) = false := by simp; omega
              have e1 : max 1 (cum l l.length) = cum l l.length := by omega
              go_wp2_with fail
              go_meet
              exact ⟨by rw [e1], rfl⟩
          case rest =>
            obtain ⟨rfl, rfl⟩ := hcut
            have HV := Lib.hid (View_any wc bm 3)
            go_wp2_with fail
            refine HV.out.mono ?_
            rintro e w8 ⟨rfl, hw8⟩
            have HK : Hid (AnOK l lay) := ⟨lay4 HLY.out, HQ2.out, fitsP_of hw HF.out, hw⟩
            have HB : Hid (Bgn l (St.start (l4 l) (Mem.made 200))) := ⟨start_ok ⟨by simp [Mem.made], by simp [Mem.made], by simp [Mem.made]⟩ (by simp [Mem.made]), rfl, ⟨_, start3 l _, rfl, rfl⟩, hw⟩
            have HAG : Hid (∃ G, AG W w8 G rp bm wc.heap.size l lay (St.start (l4 l) (Mem.made 200)) ∧ Rx W w8 G (fun k => w2.heap.size ≤ k ∧ k < w3.heap.size) rm (Mem.made 200) mp lay) := by
              have b5 : Below w5.heap.size w5 w6 := HR6.out.2.2.2
              have f58 : Fr (fun k => k = ap ∨ (Value.slice rp0 lay.length rc0).ownBlock = some k) w5 w8 := by
                rw [hw8]
                exact ((Fr.of_below b5).trans H7.out.1).alloc _
              have hlt : ∀ k, (k = ap ∨ (Value.slice rp0 lay.length rc0).ownBlock = some k) → w4.heap.size ≤ k ∧ k < w5.heap.size := by
                rintro k (e | e)
                · subst e; exact ⟨own_ge HO.out.1.oa rfl, own_lt HO.out.1.oa rfl⟩
                · exact ⟨own_ge HRO.out.1 e, own_lt HRO.out.1 e⟩
              have f68 : Fr (fun k => k = ap ∨ (Value.slice rp0 lay.length rc0).ownBlock = some k) w6 w8 := by
                rw [hw8]
                exact H7.out.1.alloc _
              have f48 : Below w4.heap.size w4 w8 := HO.out.1.bel.trans (f58.to_below HO.out.1.bel.size fun k hk e => by have := (hlt k e).1; omega)
              have f38 : Below w3.heap.size w3 w8 := H34.out.trans (f48.mono H34.out.size)
              have hB8 : Below W.heap.size W w8 := HB4.out.trans (f48.mono HB4.out.size)
              have s34 := H34.out.size
              have s45 := HO.out.1.bel.size
              have s56 := b5.size
              have s67 := H7.out.1.size
              have s01 := HB1.out.size
              have hSk : ∀ k, (k = ap ∨ (Value.slice rp0 lay.length rc0).ownBlock = some k) → (∃ cs, Blk w5 k 38 cs) ∨ ∃ cs, Blk w5 k 80 cs := by
                rintro k (e | e)
                · subst e; exact .inl (bk_blk HO.out.1.oa rfl)
                · exact .inr (bk_blk HRO.out.1 e)
              have hs8 := own_fr HR6.out.2.1 f68 (fun g e hg => by have := own_ge HR6.out.2.1 e; have := (hlt g hg).2; omega)
              have hr8 := HR6.out.1.fr f68 (fun hg => by have := HR6.out.2.2.1; have := (hlt _ hg).2; omega)
              refine ⟨_, AG.start (F := fun k => w1.heap.size ≤ k ∧ k < w2.heap.size) HO.out.1 HK.out f58 ?_ (HM3.out.1.fr (Fr.of_below (S := fun _ => False) f38) (fun _ _ e => e)) ?_ hB8 HB4.out.size ?_ ?_ hr8 HR6.out.2.2.1 hs8, ?_⟩
              · intro k cs hb hk
                rcases hSk k hk with ⟨cs', h⟩ | ⟨cs', h⟩
                · exact Blk.ne hb h (by decide) rfl
                · exact Blk.ne hb h (by decide) rfl
              · intro k hk
                have := HM3.out.2.2.2.2
                exact ⟨by omega, by omega⟩
              · rw [hw8]; exact Blk.made _ _ _
              · omega
              · refine Rx.start HO.out.1 (by rw [HRL.out.2]; exact Nat.le_refl 1) f58 hSk (HM3.out.2.1.fr (Fr.of_below (S := fun _ => False) f38) (fun _ _ e => e)) (fun k hk => ?_) (fun k hk => ?_) HB4.out.size (by omega) HR6.out.2.2.1 hs8
                · have := HM3.out.2.2.2.2; omega
                · have := HM3.out.2.2.2.1; exact ⟨by omega, by omega, by omega⟩
            have HPR : Hid (∀ (j : Nat) (p : Plan), l[j]? = some p → (p.none = true ∧ lay[j]? = some none) ∨ (p.none = false ∧ ∃ pb, lay[j]? = some (some pb))) := by
              intro j p hp
              have hj := (List.getElem?_eq_some_iff.1 hp).1
              obtain ⟨y, hy⟩ : ∃ y, lay[j]? = some y := ⟨_, List.getElem?_eq_getElem (by rw [HQ2.out]; exact hj)⟩
              have hno := HLY.out.no 0 j lay l p rfl rfl hp
              cases y with
              | none => exact .inl ⟨hno.2 hy, hy⟩
              | some pb =>
                refine .inr ⟨?_, pb, hy⟩
                cases hpn : p.none
                · rfl
                · have := hno.1 hpn; rw [hy] at this; cases this
            have hvs : ∃ vv, vv = wc.heap.size := ⟨_, rfl⟩
            obtain ⟨vv, hvv⟩ := hvs
            rw [← hvv] at HAG ⊢
            clear hvv hw8 HV H7 HCM HRO HRL HDJ HM2 HM3 H34 HO HR6 HB4 HB1
            obtain ⟨G, hAG, hRX⟩ := HAG.out
            have HAL := Lib.hid (Alone_row hAG HK.out HB.out.ok rfl HB.out.hs most hm.2)
            have HRX := Lib.hid hRX
            clear hRX hAG HAG
            generalize hnd : ((max 1 (cum l l.length) : Nat) : Int) = nd at *
            have HND := Lib.hid hnd
            clear hnd
            go_wp2_with fail
            refine HAL.out.mono ?_
            rintro e w9 ⟨u, rfl, m, d, rfl, hE, G', hA', hG'⟩
            have HDN : Hid (d = decide (nd ≤ most)) := by
              have := hE.done HB.out
              rw [HND.out] at this
              exact this
            have HF3 : Hid (Fin3 l most.toNat m) := hE.fin HB.out
            have HR9 := Lib.hid (HRX.out.gk hG')
            have HOKm : Hid ((run3 l (St.start (l4 l) (Mem.made 200)) m).Ok (l4 l)) := (run_ok HB.out.ok rfl m (by have := hE.le; omega)).1
            have HTR : Hid ((run3 l (St.start (l4 l) (Mem.made 200)) m).TrOK ∧ (run3 l (St.start (l4 l) (Mem.made 200)) m).A.trace.length ≤ 1000000000) := by
              refine ⟨run_tr (by intro x hx; simp [St.start, Mem.made] at hx) HK.out.fit m, ?_⟩
              have h1 := HOKm.out.tr
              have h2 := (run_ok HB.out.ok rfl m (by have := hE.le; omega)).2
              have := hE.le
              omega
            have HDL : Hid (d = true → left3 l (run3 l (St.start (l4 l) (Mem.made 200)) m) = true) := fun e => (hE.yes e).2
            have HA9 := Lib.hid hA'
            clear hE hA' hG' HAL HRX
            generalize hS0 : St.start (l4 l) (Mem.made 200) = s0 at *
            have HA0 : Hid (s0.A = Mem.made 200) := by rw [← hS0]; rfl
            clear hS0
            have HW9 : Hid (Below W.heap.size W w9) := HA9.out.bel
            obtain ⟨made, hmade⟩ := HA9.out.view
            have HACC := Lib.hid (Accesses_any hmade)
            clear hmade hi hlt hk hlk
            have t17 : decide (nd ≤ most) = d := HDN.out.symm
            go_upto_if 95 with fail
            go_cut [18] (fun s18 wx => wx = w9)
            case first =>
              cases d
              · go_wp2_with fail
                go_meet
                rfl
              · have HDS := Lib.hid (HA9.out.doneStep HOKm.out (HDL.out rfl) HK.out.len)
                go_wp2_with fail
                refine HACC.out.mono ?_
                rintro e wa ⟨rfl, rfl⟩
                go_wp2_with fail
                refine HDS.out.mono ?_
                rintro e wa ⟨rfl, rfl⟩
                go_wp2_with fail
                refine HACC.out.mono ?_
                rintro e wa ⟨rfl, rfl⟩
                go_wp2_with fail
                go_meet
                rfl
            case rest =>
              have hcut : w9 = _ := hcut.symm
              subst hcut
              clear HACC t17 HDN HND HDL HPW HLY
              rename_i aK
              refine aK _ _ ?_
              exact AnTail _ rfl HP HF hll (Lib.hid hm) HK HPR HF3 HR9 HB HOKm HTR HA9 HA0 HW9 _ _ _ _ _ _ _ _ _ _ _ _ _ _ _ _ _ _ _ _ _ _ _ _ _ _ _ _ _ _ _ _ _ _ _ _ _ _ _ _ _ _ _ _ _ _ _ _ _ _ _ _ _ _ _ _ _ _ _ _ _ _ _ _ _ _ _ _ _ _ _ _ _ _ _ _ _ _ _ _ _ _ _ _ _ _ _ _ _ _ _ _ _ _ _ _ _ _ _ _ _ _ _ _ _ _ _ _ _ _ _ _ _ _ _ _ _ _ _ _ _ _ _ _ _ _ _ _ _ _ _ _ _ _ _ _ _ _ _ _ _ _ _ _ _ _ _ _ _ _ _ _ _ _ _ _ _ _ _ _ _ _ _ _ _ _ _ _ _ _ _ _ _ _ _ _ _ _ _ _ _ _ _ _ _ _ _ _ _ _ _ _ _ _ _ _ _ _ _ _ _ _ _ _ _ _ _ _ _ _ _
end
end Go.Proofs.Ytkaplifhaafpdaa

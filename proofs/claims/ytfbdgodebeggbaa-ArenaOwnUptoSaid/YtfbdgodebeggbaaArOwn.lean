/-
  ArenaOwn: a trace that was handed out is nobody else's; values that were handed in are not kept. No condition.
-/
import Derived.Test.YtfbdgodebeggbaaArHand
import Derived.Test.YtfbdgodebeggbaaBookAloneU
import Derived.Deep.Cut
import Derived.Deep.DeepCutAuto
namespace Go.Proofs.Ytfbdgodebeggbaa
open Go Go.RowKit
set_option linter.unusedSimpArgs false
set_option linter.unusedVariables false
/-- the book, while the memory stays -/
structure KU (w0 w : World) (F : Nat → Prop) (bm : Nat) (A : Mem) (bk : Nat) (vs : List Int) (n : Nat) (lv : Value) (L : List Value) (lab : Nat → Nat) : Prop where
  own : Own w0 w F bm A
  len : L.length = n
  blk : Blk w bk 81 #[.slice none 0 0, .slice none 0 0, .slice none 0 0, lv, .slice none 0 0, .slice none 0 0, .slice none 0 0, .slice none 0 0, .slice none 0 0, .slice none 0 0, .slice none 0 0, .slice none 0 0, .slice none 0 0, .slice none 0 0, .slice none 0 0, .slice none 0 0, .slice none 0 0, .slice none 0 0, .slice none 0 0, .slice none 0 0]
  row : w.ownsRow w0.heap.size 57 1 lv L.length L
  pcs : Pcs w 22 w0.heap.size lab L (fun _ => us vs)
  pos : w0.heap.size ≤ bk
  nF : ¬ F bk
  nL : ∀ g, lv.ownBlock = some g → ¬ F g
section
variable {w0 w w' w1 : World} {F : Nat → Prop} {bm bk n g : Nat} {A : Mem} {vs : List Int} {lv v : Value} {L : List Value} {lab : Nat → Nat}
theorem KU.bel (h : KU w0 w F bm A bk vs n lv L lab) (hb : Below w.heap.size w w') : KU w0 w' F bm A bk vs n lv L lab :=
  have hf : Fr (fun _ => False) w w' := Fr.of_below hb
  ⟨h.own.bel hb, h.len, h.blk.fr hf (fun e => e), own_fr h.row hf (fun _ _ e => e), h.pcs.fr hf (fun _ _ e => e), h.pos, h.nF, h.nL⟩
theorem KU.take (h : KU w0 w F bm A bk vs n lv L lab) (hb : Below w.heap.size w w1) {p : Option Addr} {c : Nat} (hv : w1.ownsRow w.heap.size 22 1 (.slice p vs.length c) vs.length (us vs)) (hn : n ≤ 100) :
    Calls Try.prog 31 #[.pointer (some ⟨bk, 0, none⟩), .slice p vs.length c] w1 fun e w' => e = .returned (.tuple #[]) ∧ ∃ lv' L' lab', KU w0 w' F bm A bk vs (n + 1) lv' L' lab' := by
  have hf : Fr (fun _ => False) w w1 := Fr.of_below hb
  have hs := h.own.size
  obtain ⟨lab', hp⟩ := h.pcs.snoc hb hs hv
  have hbk := h.blk.fr hf (fun e => e)
  have hrow := own_fr h.row hf (fun _ _ e => e)
  refine (takeU (lv := lv) hbk rfl hrow (Nat.le_trans hs hb.size) p vs.length c (by have := h.len; omega)).mono ?_
  rintro e w2 ⟨rfl, lv', b2, r2, f2, g2⟩
  refine ⟨rfl, lv', L ++ [.slice p vs.length c], lab', (h.own.bel hb).fr f2 ?_ ?_, by simp [h.len], b2, by simpa using r2, hp.take hbk hrow (by decide) (by decide) f2, h.pos, h.nF, ?_⟩
  · rintro k hk (rfl | e)
    · exact h.nF hk
    · exact h.nL k e hk
  · rintro k hk (rfl | e)
    · have := h.pos; omega
    · have := (hrow.lt k e).1; omega
  · intro g e hF
    rcases g2 g e with e2 | e2
    · exact h.nL g e2 hF
    · have := (h.own.mine.2 g hF).2
      have := hb.size
      omega
theorem marksU_us : marksU = us ((List.range 9).map fun i : Nat => 2305843009213693952 + (i : Int)) := by simp [marksU, us]
theorem Blk.pre {xs : List Value} {sp : List Value} {t : TypeId} (h : Blk w g t (xs ++ sp).toArray) {j : Nat} {u : Value} (hj : xs[j]? = some u) : w.cell? ⟨g, j, none⟩ = some u := by
  rw [h.cell j]
  have := (List.getElem?_eq_some_iff.1 hj).1
  simpa [List.getElem?_append_left this] using hj
theorem own_VA {B : Nat} {p : Option Addr} {c : Nat} (hv : w.ownsRow B 22 1 (.slice p vs.length c) vs.length (us vs)) : VA w (.slice p vs.length c) vs := by
  refine ⟨p, c, rfl, ?_⟩
  by_cases h0 : vs = []
  · exact .inl h0
  · obtain ⟨g, c', e, _, hl⟩ := bk_form1 hv (List.length_pos_iff.2 h0)
    injection e with e1 _ e3
    subst e1 e3
    refine .inr ⟨_, rfl, hl, fun j u hu => ?_⟩
    have ea : (⟨g, 0, none⟩ : Addr).add j = ⟨g, j, none⟩ := by unfold Addr.add; split <;> simp_all
    rw [ea]
    exact own_cell hv hu
theorem made_fits (N : Nat) : (Mem.made N).fits vs = decide (vs ≠ [] ∧ 1 + vs.length ≤ N) := by simp [Mem.fits, Mem.made]
theorem own_trace (N : Nat) : ((Mem.made N).alloc 0 vs).trace = [⟨0, 5, (Mem.made N).spot vs, 0, 0, vs, 0, false⟩] := by
  simp only [Mem.alloc, Mem.note]
  split <;> rfl
theorem own_fit (N : Nat) (h1 : 1 ≤ N) (h2 : N ≤ 4194304) : ((Mem.made N).alloc 0 vs).Fit := by
  have ht := own_trace (vs := vs) N
  have hc : ((Mem.made N).alloc 0 vs).cells.length = N := by
    simp only [Mem.alloc, Mem.note]
    split
    · rename_i h
      rw [made_fits] at h
      have h := of_decide_eq_true h
      show (splice _ _ _).length = N
      rw [length_splice _ _ _ (by simp [Mem.made]; omega)]
      simp [Mem.made]
    · simp [Mem.made]
  refine ⟨by omega, by rw [ht]; simp, ?_⟩
  rw [hc]
  simp only [Mem.alloc, Mem.note]
  split
  · rename_i h
    rw [made_fits] at h
    have h := of_decide_eq_true h
    show 1 + vs.length ≤ N
    exact h.2
  · exact h1
theorem own_peek (N : Nat) (h0 : vs ≠ []) (hl : 1 + vs.length ≤ N) (k : Nat) (hk : k < vs.length) : ((Mem.made N).alloc 0 vs).peek (1 + (k : Int)) = vs.getD k 0 := by
  have hf : (Mem.made N).fits vs = true := by rw [made_fits]; simp [h0, hl]
  simp only [Mem.alloc, hf, if_true, Mem.note, Mem.laid, Mem.peek]
  have e : (1 + (k : Int)).toNat = 1 + k := by omega
  rw [e, List.getD_eq_getElem?_getD, List.getD_eq_getElem?_getD]
  congr 1
  unfold splice
  have h1 : ((Mem.made N).cells.take (Mem.made N).next).length = 1 := by simp [Mem.made]; omega
  rw [List.getElem?_append_right (by omega), h1, List.getElem?_append_left (by omega)]
  congr 1
  omega
set_option maxHeartbeats 4000000 in
set_option maxRecDepth 100000 in
theorem ArenaOwn_any (p : Option Addr) (c : Nat) (w : World) (hv : VA w (.slice p vs.length c) vs) (hl : vs.length ≤ 1048576) :
    Calls Try.prog 8 #[.slice p vs.length c] w fun e w' => e = .returned (.bool true) ∧ Below w.heap.size w w' := by
  have HV := Lib.hid hv
  have HNEW := Lib.hid (New_plain w 4096 (by decide) (by decide))
  clear hv
  go_enter Try.func8, Try.ntmps8
  go_wp2_with fail
  refine HNEW.out.mono ?_
  rintro e w1 ⟨bm, rfl, hm, hb⟩
  obtain ⟨F, O, -⟩ := Own.new w (Below.refl _ _) hm hb
  have HH := Lib.hid (HandU_any p c (HV.out.below hb) (by omega))
  have hs1 := O.size
  clear hm hb HNEW
  go_wp2_with fail
  refine HH.out.mono ?_
  rintro e w2 ⟨rfl, hB2, hb2⟩
  have O2 := O.bel hb2
  have hng : ¬ F w1.heap.size := O.mine.not (Nat.le_refl _)
  generalize w1.heap.size = g at *
  clear HH O hb2
  go_wp2_with fail
  refine (View_any w2 bm 0).mono ?_
  rintro e w3 ⟨rfl, hw3⟩
  obtain ⟨O3, v3, n3, b3⟩ := O2.view 0 hw3
  have hB3 := hB2.below b3
  have hs2 := O2.size
  have hlt2 := hB2.lt
  have ha : VA w3 (.slice (some ⟨g, 0, none⟩) vs.length (vs.length + 9)) vs := by
    refine ⟨_, _, rfl, .inr ⟨_, rfl, hB3.lt, fun j u hu => ?_⟩⟩
    have ea : (⟨g, 0, none⟩ : Addr).add j = ⟨g, j, none⟩ := by unfold Addr.add; split <;> simp_all
    rw [ea]; exact hB3.pre hu
  have hoff : vs ≠ [] → Off (.slice (some ⟨g, 0, none⟩) vs.length (vs.length + 9)) F := by
    intro _ ad n c e hk
    injection e with e1 _ _
    injection e1 with e1
    subst e1
    exact hng hk
  have hfit : (Mem.made 4096).Fit := fit_of (by decide +kernel)
  have HA := Lib.hid (Alloc_o O3 v3 n3 hs2 ha hoff (by omega) hfit (by decide) (by decide))
  have HB3 := Lib.hid hB3
  clear hw3 b3 O2 hB2 hB3 ha hoff hfit O3 v3 n3
  generalize w2.heap.size = v at *
  go_wp2_with fail
  refine HA.out.mono ?_
  rintro e w4 ⟨rfl, F4, O4, v4, n4, hk4, f4⟩
  have hB4 : Blk w4 g 22 (us (vs ++ (List.range 9).map fun i : Nat => 2305843009213693952 + (i : Int))).toArray := by
    have := HB3.out.fr f4 (by rintro (e | e); exact hng e; omega)
    rw [marksU_us] at this
    simpa [us] using this
  have ng4 : ¬ F4 g := hk4 g HB3.out.lt hng
  have hlen9 : (vs ++ (List.range 9).map fun i : Nat => 2305843009213693952 + (i : Int)).length = vs.length + 9 := by simp
  generalize (vs ++ (List.range 9).map fun i : Nat => 2305843009213693952 + (i : Int)) = zs0 at *
  have hA1 : ∃ A, A = (Mem.made 4096).alloc 0 vs := ⟨_, rfl⟩
  obtain ⟨A, hA⟩ := hA1
  rw [← hA] at O4
  have HAQ := Lib.hid hA
  have HB4 := Lib.hid hB4
  have HL9 := Lib.hid hlen9
  have O4H := Lib.hid O4
  have hsp : ∃ a, a = (Mem.made 4096).spot vs := ⟨_, rfl⟩
  obtain ⟨a, hsp⟩ := hsp
  rw [← hsp]
  have HSP := Lib.hid hsp
  clear HA HB3 f4 v4 n4 hk4 hA hB4 hlen9 O4 hsp
  go_wp2_with fail
  go_loopw [8] (fun i wr => ∃ (k : Nat) (zs : List Int), i = .int .i64 k ∧ k ≤ vs.length ∧ zs.length = vs.length + 9 ∧ Blk wr g 22 (us zs).toArray ∧ Fr (fun b => b = g) w4 wr) (fun i _ => vs.length - (intOf i).toNat)
  case atStart => exact ⟨0, zs0, rfl, Nat.zero_le _, HL9.out, HB4.out, Fr.refl _ _⟩
  case round =>
    obtain ⟨k, zs, rfl, hk, hz, hB, hf⟩ := hrel
    by_cases hlt : k < vs.length
    · obtain ⟨y, hy⟩ : ∃ y, zs[k]? = some y := ⟨_, List.getElem?_eq_getElem (by omega)⟩
      have c1 : wr.cell? ⟨g, k, none⟩ = some (.int .u64 y) := by rw [hB.cell]; simp [us, hy]
      have c2 := hB.cold k
      have HP : Hid (∀ z : Int, Blk (wr.setCell ⟨g, k, none⟩ (.int .u64 z)) g 22 (us (zs.set k z)).toArray ∧ Fr (fun b => b = g) w4 (wr.setCell ⟨g, k, none⟩ (.int .u64 z))) := fun z =>
        ⟨(hB.put k (.int .u64 z)).eq (by simp [us, List.map_set]), hf.put (p := ⟨g, k, none⟩) (.inl rfl) _⟩
      have HZ := Lib.hid hz
      clear hB hf hy hz
      go_wp2_with fail
      go_roundw
      case rel => exact ⟨k + 1, zs.set k _, by go_num, by omega, by rw [List.length_set]; exact HZ.out, (HP.out _).1, (HP.out _).2⟩
      case measure => simp [intOf]; omega
    · obtain rfl : k = vs.length := by omega
      have O5 := O4H.out.fr hf (by rintro k hk2 rfl; exact ng4 hk2) (by rintro k hk2 rfl; omega)
      have hs5 := O5.size
      have K0 : KU w (wr.alloc (.cells #[.slice none 0 0, .slice none 0 0, .slice none 0 0, .slice none 0 0, .slice none 0 0, .slice none 0 0, .slice none 0 0, .slice none 0 0, .slice none 0 0, .slice none 0 0, .slice none 0 0, .slice none 0 0, .slice none 0 0, .slice none 0 0, .slice none 0 0, .slice none 0 0, .slice none 0 0, .slice none 0 0, .slice none 0 0, .slice none 0 0] 81)) F4 bm A wr.heap.size vs 0 (.slice none 0 0) [] (fun _ => 0) :=
        ⟨O5.bel ((Below.refl _ wr).alloc (Nat.le_refl _) _), rfl, Blk.made wr _ _, World.ownsRow_nil _ _ _ _, ⟨fun j v hj => by simp at hj, fun j v g hj => by simp at hj⟩, hs5, O5.mine.not (Nat.le_refl _), fun g e => by cases e⟩
      have KH := Lib.hid K0
      clear hB hf hz O5 K0
      go_wp2_with fail
      generalize wr.alloc _ = w5 at *
      generalize wr.heap.size = bk at *
      go_loopw [10] (fun i wr => ∃ k lv L lab, i = .int .i64 (k : Nat) ∧ k ≤ 2 ∧ KU w wr F4 bm A bk vs k lv L lab) (fun i _ => 2 - (intOf i).toNat)
      case atStart => exact ⟨0, _, _, _, rfl, by decide, KH.out⟩
      case round =>
        clear KH
        obtain ⟨k, lv, L, lab, rfl, hk, hK⟩ := hrel
        have htr := own_trace (vs := vs) 4096
        rw [← HAQ.out, ← HSP.out] at htr
        obtain ⟨q5, r5, tv5, rows5, hx5⟩ := hK.own.mine.1
        have HT := Lib.hid (Trace_one hx5 htr (by show vs.length ≤ _; omega))
        clear hx5 htr
        by_cases hlt : k < 2
        · have HK := Lib.hid hK
          clear hK
          obtain ⟨wo, rfl⟩ : ∃ wo : World, wo = wr := ⟨_, rfl⟩
          go_wp2_with fail
          refine HT.out.mono ?_
          rintro e w6 ⟨g6, cap6, v6, rfl, hc6, hv6, hl6, hb6, b6⟩
          obtain ⟨vp, vc, rfl⟩ := bk_form hv6
          have d1 : w6.cell? ⟨g6, 5, none⟩ = some (.slice vp vs.length vc) := hc6 5 _ rfl
          have HTK := Lib.hid (HK.out.take b6 hv6 (by omega))
          have HKB := Lib.hid (HK.out.bel b6)
          clear hc6 hv6 HT HK b6
          go_wp2_with fail
          go_loopw [12] (fun i wx => ∃ j : Nat, i = .int .i64 j ∧ j ≤ 1 ∧ (j = 0 → wx = w6) ∧ (j = 1 → ∃ lv L lab, KU w wx F4 bm A bk vs (k + 1) lv L lab)) (fun i _ => 1 - (intOf i).toNat)
          case atStart => exact ⟨0, rfl, by decide, fun _ => rfl, fun e => by cases e⟩
          case round =>
            obtain ⟨j, rfl, hj, h0, h1⟩ := hrel
            by_cases hj0 : j = 0
            · subst hj0
              obtain rfl := h0 rfl
              clear h0 h1
              go_wp2_with fail
              refine HTK.out.mono ?_
              rintro e w7 ⟨rfl, lv7, L7, lab7, h7⟩
              have H7 := Lib.hid h7
              clear h7
              go_wp2_with fail
              go_roundw
              case rel => exact ⟨1, by go_num, by omega, fun e => (by cases e), fun _ => ⟨_, _, _, H7.out⟩⟩
              case measure => simp [intOf]
            · obtain rfl : j = 1 := by omega
              have H1 := Lib.hid (h1 rfl)
              clear h0 h1
              go_wp2_with fail
              go_roundw
              case rel =>
                obtain ⟨lv7, L7, lab7, h7⟩ := H1.out
                exact ⟨k + 1, lv7, L7, lab7, by go_num, by omega, h7⟩
              case measure => simp [intOf]; omega
        · obtain rfl : k = 2 := by omega
          have HK := Lib.hid hK
          clear hK
          go_wp2_with fail
          refine HT.out.mono ?_
          rintro e w6 ⟨g6, cap6, v6, rfl, hc6, hv6, hl6, hb6, b6⟩
          obtain ⟨vp, vc, rfl⟩ := bk_form hv6
          have d1 : w6.cell? ⟨g6, 5, none⟩ = some (.slice vp vs.length vc) := hc6 5 _ rfl
          have d2 : w6.cell? ⟨g6, 2, none⟩ = some (.int .u64 a) := hc6 2 _ rfl
          have hK6 := HK.out.bel b6
          have HS := Lib.hid (SameUV_yes (vs := vs) (own_VA hv6) (HV.out.below hK6.own.below) (by omega))
          have HK6 := Lib.hid hK6
          clear hc6 hv6 HT HK b6 hK6
          go_wp2_with fail
          refine HS.out.mono ?_
          rintro e w7 ⟨rfl, n7, rfl⟩
          have HEND : Hid (∀ d w8, Below (w6.drewN d).heap.size (w6.drewN d) w8 → Calls Try.prog 34 #[.pointer (some ⟨bk, 0, none⟩)] w8 fun e w' => e = .returned (.bool true) ∧ Below w.heap.size w w') := by
            intro d w8 hb8
            have h8 := HK6.out.bel (show Below w6.heap.size w6 w8 from ⟨hb8.os, hb8.tape, hb8.output, hb8.size, hb8.block⟩)
            refine (BookAloneU_any (CU := fun _ => us vs) h8.blk h8.row h8.pcs (by have := h8.len; omega) (by intro j; simp [us]; omega) h8.own.size).mono ?_
            rintro e w9 ⟨rfl, hf9⟩
            refine ⟨rfl, h8.own.below.trans (hf9.to_below h8.own.size ?_)⟩
            rintro k hk (rfl | ⟨v, hv, e⟩)
            · have := h8.pos; omega
            · obtain ⟨j, hj, rfl⟩ := List.getElem_of_mem hv
              have := ((h8.pcs.own j _ (List.getElem?_eq_getElem hj)).lt k e).1
              omega
          cases hft : (Mem.made 4096).fits vs
          · have ha0 := HSP.out
            simp only [Mem.spot, hft, Bool.false_eq_true, if_false] at ha0
            subst ha0
            clear hft
            go_wp2_with fail
            go_loop [14] (fun i => i = .int .i64 0) (fun _ => 0)
            case atStart => rfl
            case round =>
              obtain rfl := hrel
              go_wp2_with fail
              refine (live3_any _).mono ?_
              rintro e w8 ⟨rfl, b8⟩
              have HE := Lib.hid (HEND.out _ _ b8)
              clear b8
              go_wp2_with fail
              refine HE.out.mono ?_
              rintro e w9 ⟨rfl, b9⟩
              go_wp2
              go_ret
              exact ⟨rfl, b9⟩
          · have ha0 := HSP.out
            simp only [Mem.spot, hft, if_true] at ha0
            obtain rfl : a = 1 := ha0
            have hf2 := hft
            rw [made_fits] at hf2
            obtain ⟨hne, hle⟩ := of_decide_eq_true hf2
            have HPK : Hid (∀ d nq k : Nat, k < vs.length → Calls Try.prog 27 #[.pointer (some ⟨bm, 0, none⟩), .int .u64 (1 + (k : Int))] ((w6.drewN d).drewN nq) fun e w' => e = .returned (.int .u64 (vs.getD k 0)) ∧ (w6.drewN d).drewN nq = w') := by
              intro d nq k hk
              have h := peek_o ((HK6.out.own.drawn d).drawn nq) (1 + (k : Int)) (by omega) (by rw [HAQ.out]; exact own_fit 4096 (by decide) (by decide))
              have hp := own_peek (vs := vs) 4096 hne hle k hk
              rw [← HAQ.out] at hp
              rw [hp] at h
              exact h
            have HVC : Hid (∀ (d k : Nat), k < vs.length → ∃ b o, p = some ⟨b, o, none⟩ ∧ (w6.drewN d).cell? ⟨b, o + k, none⟩ = some (.int .u64 (vs.getD k 0))) := by
              intro d k hk
              have hy : vs[k]? = some (vs.getD k 0) := by rw [List.getD_eq_getElem?_getD, List.getElem?_eq_getElem hk]; rfl
              obtain ⟨b, o, e, _, hc⟩ := ((HV.out.below HK6.out.own.below).drawn d).at hy
              exact ⟨b, o, e, hc⟩
            have HLE : Hid (1 + vs.length ≤ 4096) := hle
            clear hft hf2 hne hle
            go_wp2_with fail
            go_loopw [14] (fun i wx => ∃ k d : Nat, i = .int .i64 k ∧ k ≤ vs.length ∧ wx = w6.drewN d) (fun i _ => vs.length - (intOf i).toNat)
            case atStart => exact ⟨0, n7, rfl, Nat.zero_le _, rfl⟩
            case round =>
              obtain ⟨k, d, rfl, hk, rfl⟩ := hrel
              by_cases hlt2 : k < vs.length
              · obtain ⟨b, o, rfl, d3⟩ := HVC.out d k hlt2
                have HP1 := Lib.hid (fun nq => HPK.out d nq k hlt2)
                generalize vs.getD k 0 = pk at *
                have HWX : Hid (∀ nq, (w6.drewN d).drewN nq = w6.drewN (d + nq)) := fun nq => by simp [World.drewN, Nat.add_assoc]
                generalize w6.drewN d = wx at *
                have ow5 : IntKind.u64.wrap (k : Int) = (k : Int) := IntWalk.u64_in _ ⟨by omega, by omega⟩
                have ow6 : IntKind.u64.wrap (1 + (k : Int)) = 1 + (k : Int) := IntWalk.u64_in _ ⟨by omega, by omega⟩
                clear d1 d2
                go_wp2_with fail
                go_quiet ((go_at_call 27; exact Calls.quiet_of_same ((HP1.out _).mono fun _ _ hh => ⟨hh.1, hh.2.symm⟩)))
                all_goals
                  go_wp2_with fail
                  go_roundw
                  case rel => exact ⟨k + 1, d + nq, by go_num, by omega, HWX.out nq⟩
                  case measure => simp [intOf]; omega
              · obtain rfl : k = vs.length := by omega
                go_wp2_with fail
                refine (live3_any _).mono ?_
                rintro e w8 ⟨rfl, b8⟩
                have HE := Lib.hid (HEND.out _ _ b8)
                clear b8
                go_wp2_with fail
                refine HE.out.mono ?_
                rintro e w9 ⟨rfl, b9⟩
                go_wp2
                go_ret
                exact ⟨rfl, b9⟩
end
end Go.Proofs.Ytfbdgodebeggbaa

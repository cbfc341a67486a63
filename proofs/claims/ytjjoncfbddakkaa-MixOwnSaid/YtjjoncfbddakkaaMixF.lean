/-
  The walks of mix.Digits, the reference's Digits and Common, and SameInts: the lists read as the plain law says; nothing that lay in memory turns. No condition beyond the lengths that Go's memory bears.
-/
import Derived.Test.YtjjoncfbddakkaaMixE
namespace Go.Proofs.Ytjjoncfbddakkaa
open Go Pl Go.RowKit Go.Shelf
set_option maxHeartbeats 1000000
theorem info3 : (Try.prog.info? 3).map (fun i => (i.zero, i.size, i.bytes)) = some (some (.int .i64 0), 1, 8) := by kernel_rfl
/-- the digits, as values -/
def dvs (x : BitVec 64) : List Value := (List.range 11).map fun i : Nat => Value.int .i64 (dgI x (i : Int))
theorem dvs_len (x : BitVec 64) : (dvs x).length = 11 := by simp [dvs]
theorem dvs_take (x : BitVec 64) (k : Nat) (hk : k < 11) : (dvs x).take k ++ [Value.int .i64 (dgI x (k : Int))] = (dvs x).take (k + 1) := by
  rw [List.take_succ_eq_append_getElem (by rw [dvs_len]; exact hk)]
  simp [dvs]
set_option maxRecDepth 100000 in
theorem refDigits_any (x : BitVec 64) (w : World) : Calls Try.prog 26 #[.int .u64 (U x)] w fun e w' => ∃ v, e = .returned v ∧ w'.ownsRow w.heap.size 3 1 v 11 (dvs x) ∧ Below w.heap.size w w' := by
  obtain ⟨i0, hi, hz0, hz1, hz2⟩ := info_parts info3
  go_enter Try.func26, Try.ntmps26
  go_wp2
  go_loopw [3, 4] (fun v i wr => ∃ k : Nat, k ≤ 11 ∧ i = .int .i64 (k : Int) ∧ wr.ownsRow w.heap.size 3 1 v k ((dvs x).take k) ∧ Below w.heap.size w wr) (fun _ i _ => 20 - (intOf i).toNat)
  case atStart => exact ⟨0, by decide, rfl, World.ownsRow_nil _ _ _ _, Below.refl _ _⟩
  case round =>
    obtain ⟨k, hk, rfl, hown, hB⟩ := hrel
    have hsz := hB.size
    by_cases hlt : k < 11
    · have ht := Lib.hid (dvs_take x k hlt)
      go_wp2_with (first
        | (go_at_call 23; refine (refDigit_any x (k : Int) _).mono ?_; rintro e w' ⟨rfl, rfl⟩)
        | (at_builtin; refine wpList_append_own _ rfl _ _ 34 rfl w.heap.size 3 i0 (.int .i64 0) 1 8 Try.underlying34 hi hz0 hz1 hz2 rfl (by decide) _ _ _ rfl (hown.alloc _) ⟨wr.heap.size, 0, none⟩ 1 1 [.int .i64 (dgI x (k : Int))] rfl rfl (cell_one_new _ _ _) (by simp [Value.oneCell']) (by unfold maxLen; omega) (by omega) (by simp; omega) ?_; intro v' w1 hown' hgrow _))
      go_roundw
      case rel => exact ⟨k + 1, by omega, by go_num, by rw [← ht.out]; exact hown', (hB.alloc hsz _).grown hgrow (by simp; omega) (fun j e => ((hown.alloc (.cells #[.int .i64 0] 3)).lt j e).1)⟩
      case measure => simp [intOf]; omega
    · obtain rfl : k = 11 := by omega
      go_wp2
      go_ret
      refine ⟨_, rfl, ?_, hB⟩
      rwa [List.take_of_length_le (by rw [dvs_len]; exact Nat.le_refl _)] at hown

theorem refCommon_any (a b : BitVec 64) (w : World) :
    Calls Try.prog 27 #[.int .u64 (U a), .int .u64 (U b)] w fun e w' => e = .returned (.int .i64 (cm a.toNat b.toNat : Int)) ∧ w = w' := by
  go_enter Try.func27, Try.ntmps27
  go_wp2
  go_loop [5] (fun i => ∃ k : Nat, k ≤ 11 ∧ i = .int .i64 (k : Int) ∧ ∀ j, j < k → dg a.toNat j = dg b.toNat j) (fun i => 20 - (intOf i).toNat)
  case atStart => exact ⟨0, by decide, rfl, fun j hj => absurd hj (Nat.not_lt_zero j)⟩
  case round =>
    obtain ⟨k, hk, rfl, hall⟩ := hrel
    have Hall := Lib.hid hall
    clear hall
    by_cases hlt : k < 11
    · by_cases he : dg a.toNat k = dg b.toNat k
      · have hq : (dgI a (k : Int) == dgI b (k : Int)) = true := by rw [dgI_nat, dgI_nat, he]; simp
        have He := Lib.hid he
        clear he
        go_wp2_with fail
        refine (refDigit_any a (k : Int) _).mono ?_; rintro e w' ⟨rfl, rfl⟩
        go_wp2_with fail
        refine (refDigit_any b (k : Int) _).mono ?_; rintro e w' ⟨rfl, rfl⟩
        go_wp2_with fail
        go_round
        case rel => exact ⟨k + 1, by omega, by go_num, fun j hj => by by_cases hjk : j = k; exact hjk ▸ He.out; exact Hall.out j (by omega)⟩
        case measure => simp [intOf]; omega
      · have hq : (dgI a (k : Int) == dgI b (k : Int)) = false := by rw [dgI_nat, dgI_nat]; simp; omega
        have He := Lib.hid he
        clear he
        go_wp2_with fail
        refine (refDigit_any a (k : Int) _).mono ?_; rintro e w' ⟨rfl, rfl⟩
        go_wp2_with fail
        refine (refDigit_any b (k : Int) _).mono ?_; rintro e w' ⟨rfl, rfl⟩
        go_wp2_with fail
        go_ret
        exact ⟨ret_i64 (by rw [cm_eq (by omega) Hall.out (fun _ => He.out)]), rfl⟩
    · obtain rfl : k = 11 := by omega
      go_wp2
      go_ret
      exact ⟨ret_i64 (by rw [cm_eq (Nat.le_refl _) Hall.out (fun h => absurd h (Nat.lt_irrefl _))]; rfl), rfl⟩

/-! ### Digits: append in a loop over the iterator -/
/-- the cells from p on read, in w, as these values -/
def Rd (w : World) (p : Option Addr) (cs : List Value) : Prop :=
  cs = [] ∨ ∃ b off, p = some ⟨b, off, none⟩ ∧ ∀ i, i < cs.length → w.cell? ⟨b, off + i, none⟩ = some (cs.getD i undef)
def iv (xs : List Int) : List Value := xs.map (Value.int .i64)
theorem Rd.at_int {w : World} {p : Option Addr} {xs : List Int} (h : Rd w p (iv xs)) {k : Nat} (hk : k < xs.length) :
    ∃ b off, p = some ⟨b, off, none⟩ ∧ w.cell? ⟨b, off + k, none⟩ = some (.int .i64 (xs.getD k 0)) := by
  rcases h with h | ⟨b, off, hp, hc⟩
  · have : xs.length = 0 := by have := congrArg List.length h; simpa [iv] using this
    omega
  · refine ⟨b, off, hp, ?_⟩
    rw [hc k (by simpa [iv] using hk)]
    simp [iv, hk]
theorem Rd.at_lt {w : World} {p : Option Addr} {xs : List Int} (h : Rd w p (iv xs)) (h0 : xs.length ≠ 0) :
    ∃ b off, p = some ⟨b, off, none⟩ ∧ ∀ k, k < xs.length → w.cell? ⟨b, off + k, none⟩ = some (.int .i64 (xs.getD k 0)) := by
  obtain ⟨b, off, hp, _⟩ := h.at_int (k := 0) (by omega)
  refine ⟨b, off, hp, fun k hk => ?_⟩
  obtain ⟨b', off', hp', hc⟩ := h.at_int hk
  rw [hp] at hp'
  cases hp'
  exact hc
theorem take_eq_succ (xs ys : List Int) (k : Nat) (hx : k < xs.length) (hy : k < ys.length) (h : xs.take k = ys.take k) (e : xs.getD k 0 = ys.getD k 0) : xs.take (k + 1) = ys.take (k + 1) := by
  rw [List.take_succ_eq_append_getElem hx, List.take_succ_eq_append_getElem hy, h]
  have e1 : xs.getD k 0 = xs[k] := by simp [hx]
  have e2 : ys.getD k 0 = ys[k] := by simp [hy]
  rw [e1, e2] at e
  rw [e]
theorem ne_of_getD (xs ys : List Int) (k : Nat) (h : ¬ xs.getD k 0 = ys.getD k 0) : (xs == ys) = false := by
  rw [beq_eq_false_iff_ne]; intro e; exact h (by rw [e])
theorem SameInts_any (p q : Option Addr) (m n c1 c2 : Nat) (xs ys : List Int) (hm : m = xs.length) (hn : n = ys.length) (w : World) (hlm : m ≤ 140737488351232) (ha : Rd w p (iv xs)) (hb : Rd w q (iv ys)) :
    Calls Try.prog 24 #[.slice p m c1, .slice q n c2] w fun e w' => e = .returned (.bool (xs == ys)) ∧ ∃ n, w' = w.drewN n := by
  by_cases hlen : m = n
  · have hbe : ((m : Int) == (n : Int)) = true := by simp; omega
    have hbn : ((m : Int) != (n : Int)) = false := by simp; omega
    by_cases h0 : xs.length = 0
    · obtain rfl : m = 0 := by omega
      obtain rfl : n = 0 := by omega
      have hf : (xs == ys) = true := by
        have e1 : xs = [] := List.length_eq_zero_iff.1 (by omega)
        have e2 : ys = [] := List.length_eq_zero_iff.1 (by omega)
        rw [e1, e2]; rfl
      have Hf := Lib.hid hf
      clear hf hm hn h0
      go_enter Try.func24, Try.ntmps24
      go_wp2
      go_loop [5] (fun i => i = .int .i64 0) (fun i => 0)
      case atStart => rfl
      case round =>
        obtain rfl := hrel
        go_wp2
        go_ret
        exact ⟨ret_bool Hf.out.symm, 0, rfl⟩
    · obtain ⟨ba, oa, rfl, hca⟩ := ha.at_lt h0
      obtain ⟨bb, ob, rfl, hcb⟩ := hb.at_lt (by omega)
      have Hm := Lib.hid hm
      have Hn := Lib.hid hn
      have Hl := Lib.hid hlen
      have hmn : m ≤ n := by omega
      have hnm : n ≤ m := by omega
      clear hm hn hlen h0 ha hb
      go_enter Try.func24, Try.ntmps24
      go_wp2
      go_loopw [5] (fun i wr => ∃ k nq : Nat, wr = w.drewN nq ∧ k ≤ m ∧ i = .int .i64 (k : Int) ∧ xs.take k = ys.take k) (fun i _ => m - (intOf i).toNat)
      case atStart => exact ⟨0, 0, rfl, by omega, rfl, rfl⟩
      case round =>
        obtain ⟨k, nq, rfl, hk, rfl, ht⟩ := hrel
        have Ht := Lib.hid ht
        clear ht
        by_cases hlt : k < m
        · have h1 := hca k (by have := Hm.out; omega)
          have h2 := hcb k (by have := Hn.out; omega)
          have hk2 : k < n := by omega
          by_cases he : xs.getD k 0 = ys.getD k 0
          · have hs := take_eq_succ xs ys k (by have := Hm.out; omega) (by have := Hn.out; omega) Ht.out he
            have Hs := Lib.hid hs
            clear hs
            have hz : ((xs.getD k 0) != (ys.getD k 0)) = false := by simpa using he
            clear he
            generalize xs.getD k 0 = x at *
            generalize ys.getD k 0 = y at *
            go_wp2
            go_quiet (fail)
            go_wp2
            go_roundw
            case rel => exact ⟨k + 1, _, rfl, by omega, by go_num, Hs.out⟩
            case measure => simp [intOf]; omega
          · have hz : ((xs.getD k 0) != (ys.getD k 0)) = true := by simpa using he
            have hf := ne_of_getD xs ys k he
            have Hf := Lib.hid hf
            clear he hf
            generalize xs.getD k 0 = x at *
            generalize ys.getD k 0 = y at *
            go_wp2
            go_quiet (fail)
            go_wp2
            go_ret
            exact ⟨ret_bool Hf.out.symm, _, World.drewN_drewN ..⟩
        · have hf : (xs == ys) = true := by
            have := Ht.out
            rw [List.take_of_length_le (by have := Hm.out; omega), List.take_of_length_le (by have := Hn.out; omega)] at this
            rw [this]; simp
          have Hf := Lib.hid hf
          clear hf
          go_wp2
          go_ret
          exact ⟨ret_bool Hf.out.symm, _, rfl⟩
  · have hbe : ((m : Int) == (n : Int)) = false := by simp; omega
    have hbn : ((m : Int) != (n : Int)) = true := by simp; omega
    have hf : (xs == ys) = false := by rw [beq_eq_false_iff_ne]; intro e; rw [e] at hm; omega
    have Hf := Lib.hid hf
    clear hf hm hn
    go_enter Try.func24, Try.ntmps24
    go_wp2
    go_ret
    exact ⟨ret_bool Hf.out.symm, 0, rfl⟩
theorem below_draws {B : Nat} {a w : World} (h : Below B a w) (n : Nat) : Below B a (w.drewN n) := h.trans ⟨rfl, rfl, rfl, Nat.le_refl _, fun _ _ => rfl⟩
theorem Rd.below {B : Nat} {w w' : World} {p : Option Addr} {cs : List Value} (h : Rd w p cs) (hb : Below B w w') (hlt : ∀ x, p = some x → x.block < B) : Rd w' p cs := by
  rcases h with h | ⟨b, off, hp, hc⟩
  · exact .inl h
  · exact .inr ⟨b, off, hp, fun i hi => (hb.cell (p := ⟨b, off + i, none⟩) (hlt ⟨b, off, none⟩ hp)).trans (hc i hi)⟩
theorem own_Rd {w : World} {base : Nat} {e : TypeId} {v : Value} {n : Nat} {xs : List Value} (h : w.ownsRow base e 1 v n xs) :
    ∃ p cap, v = .slice p n cap ∧ Rd w p xs ∧ n ≤ cap ∧ cap ≤ maxLen ∧ (∀ x, p = some x → base ≤ x.block ∧ x.block < w.heap.size) := by
  obtain ⟨hl, ⟨rfl, rfl⟩ | ⟨g, cap, cur, rfl, hb, hh, hn, hc, hs, ht⟩⟩ := h
  · exact ⟨none, 0, rfl, .inl (List.length_eq_zero_iff.1 (by omega)), by omega, by unfold maxLen; omega, fun x hx => by cases hx⟩
  · refine ⟨_, cap, rfl, .inr ⟨g, 0, rfl, fun i hi => ?_⟩, hn, hc, fun x hx => by cases hx; exact ⟨hb, (Array.getElem?_eq_some_iff.1 hh).1⟩⟩
    have hh2 := World.ownsRow.cellAt (base := base) (e := e) (size := 1) (n := n) (xs := xs) (cap := cap) ⟨hl, .inr ⟨g, cap, cur, rfl, hb, hh, hn, hc, hs, ht⟩⟩ i (by omega)
    rw [Nat.zero_add, hh2]
    simp [hi]
theorem dvs_iv (x : BitVec 64) : dvs x = iv ((List.range 11).map fun i : Nat => dgI x (i : Int)) := by simp [dvs, iv]
section
attribute [local go_sem] Oper.semAt_some
theorem dvs_pre (x : BitVec 64) (pre : List (Int × Int)) (h : pre = lds x) : pre.map (fun p => Value.int .i64 p.2) = dvs x := by
  rw [h]; simp [lds, dvs]
set_option maxRecDepth 100000 in
set_option maxHeartbeats 2000000 in
theorem Digits_any (x : BitVec 64) (w : World) :
    Calls Try.prog 25 #[.int .u64 (U x)] w fun e w' => ∃ v, e = .returned v ∧ w'.ownsRow w.heap.size 3 1 v 11 (dvs x) ∧ Below w.heap.size w w' := by
  obtain ⟨i0, hi, hz0, hz1, hz2⟩ := info_parts info3
  refine (callsIn_wide (n := 6)).1 ?_
  refine callsIn_of_wp_marks Try.func25 rfl trivial ?_ rfl
  simp only [Try.ntmps25, List.size_toArray, List.length_cons, List.length_nil, Nat.reduceAdd, Nat.reduceSub, Array.replicate_succ, Array.replicate_zero, List.push_toArray, List.append_toArray, List.nil_append, List.cons_append]
  gi_wp2_with (refine ⟨trivial, ?_⟩; gi_at_call 41; refine (callsIn_wide.2 (all_in x _)).mono ?_; rintro e w' ⟨rfl, rfl⟩)
  have bO := Boxed.new w 34 (.slice none 0 0)
  have bN := Boxed.new (w.alloc (.cells #[.slice none 0 0] 34)) 22 (.int .u64 (U x))
  rw [World.size_alloc] at bN
  have hB0 : Below w.heap.size w ((w.alloc (.cells #[.slice none 0 0] 34)).alloc (.cells #[.int .u64 (U x)] 22)) := ((Below.refl _ w).alloc (Nat.le_refl _) _).alloc (by simp) _
  refine wpIn_rangeFunc_ownG rfl (by decide) (gf := 62) (lb := #[.pointer (some ⟨w.heap.size + 1, 0, none⟩)]) rfl trivial (enters_of Try.func62 (by kernel_rfl) rfl)
    (all_stops 5 (by decide) (w.heap.size + 1) x _ (by simp) bN.cell) KpC_t (KpC_b (by simp)) (Below.refl _ _) (fun _ => rfl)
    (fun (pre : List (Int × Int)) (W : World) => ((∃ v, Boxed W w.heap.size 34 v ∧ W.ownsRow w.heap.size 3 1 v pre.length (pre.map (fun p => Value.int .i64 p.2)) ∧ True) ∧ Boxed W (w.heap.size + 1) 22 (.int .u64 (U x))) ∧ Below w.heap.size w W)
    (fun _ _ _ => False)
    (OwnFrom.and (OwnFrom.and (Own.from (holdsRow_own w.heap.size w.heap.size 34 3 1 (fun (pre : List (Int × Int)) => pre.length) (fun (pre : List (Int × Int)) => pre.map (fun p => Value.int .i64 p.2)) (fun _ _ => True)) _) (Own.from (boxed_own (w.heap.size + 1) 22 (fun _ => .int .u64 (U x))) _)) (ownFrom_below (Nat.le_refl _) (by simp; omega)))
    (fun _ _ _ _ _ hs _ _ => hs)
    ⟨⟨⟨_, bO.alloc _, World.ownsRow_nil _ _ _ _, trivial⟩, bN⟩, hB0⟩
    (fun p => { tmps := #[.int .u64 (U x), undef, .slice none 0 0, .pointer (some ⟨w.heap.size, 0, none⟩), undef, .int .i64 p.2, .int .u64 (U x), .func (.func 62) #[] #[.pointer (some ⟨w.heap.size + 1, 0, none⟩)], .int .i64 p.1, .int .i64 p.2, undef, undef, undef, undef, undef], defers := [] }) ?assign ?body ?done ?stop
  case assign =>
    intro l p W K hK
    gi_wp2
    exact hK
  case body =>
    rintro l pre p W ⟨⟨⟨v, hv, hrow, _⟩, hbx⟩, hB⟩ hlt
    have hc := hv.cell
    have hsz := hB.size
    gi_wp2_with (gi_at_builtin; refine wpListIn_append_own _ rfl _ _ 34 rfl w.heap.size 3 i0 (.int .i64 0) 1 8 Try.underlying34 hi hz0 hz1 hz2 rfl (by decide) _ _ _ rfl (hrow.alloc _) ⟨W.heap.size, 0, none⟩ 1 1 [.int .i64 p.2] rfl rfl (cell_one_new _ _ _) (by simp [Value.oneCell']) (by unfold maxLen; omega) (by omega) (by simp; omega) ?_; intro v' w1 hown' hgrow _; obtain ⟨g', cap', rfl⟩ := ownsRow_succ hown'; obtain ⟨hv1, hv2, hr2, hk2, hb2⟩ := hv.appended (by decide) hrow hB.size (Nat.le_refl _) hown' hgrow; have hc1 := hv1.cell; have hf1 := hv1.frozen; have hbx1 := (hbx.alloc (.cells #[.int .i64 p.2] 3)).kept hgrow ((hbx.alloc (.cells #[.int .i64 p.2] 3)).not_row (by decide) (hrow.alloc (.cells #[.int .i64 p.2] 3))))
    have hbx2 := hbx1.other (B' := w.heap.size) (by omega) (.slice (some ⟨g', 0, none⟩) (pre.length + 1) cap')
    exact ⟨hk2.from _, hbx2.cell.trans hbx.cell.symm, ⟨⟨_, hv2, by simpa using hr2, trivial⟩, hbx2⟩, hB.trans hb2⟩
  case done =>
    rintro D ys W hD rfl ⟨⟨⟨v, hv, hrow, _⟩, hbx⟩, hB⟩ hK
    have hc := hv.cell
    gi_wp2
    refine ⟨by simp, .inl ⟨_, _, rfl, run_takeDeferred hK, ?_⟩⟩
    refine ⟨_, results_tmp rfl _ _ _, v, rfl, ?_, hB.trans (belowK_b (w := w) (Nat.le_refl _) W D _ _ (by simp at hD; omega) hK rfl rfl)⟩
    have hr := ownsRow_putObj hrow (.deferred none) hK rfl
    rw [dvs_pre x _ rfl, lds_len] at hr
    exact hr
  case stop =>
    rintro D c pre W _ _ h _
    exact h.elim
end
theorem MixDigits_walk (a b : BitVec 64) (l : Int) (w : World) : Calls Try.prog 7 #[.int .u64 (U a), .int .u64 (U b), .int .i64 l] w fun e w' => e = .returned (.bool true) ∧ Below w.heap.size w w' := by
  have hb := Below.refl w.heap.size w
  go_enter Try.func7, Try.ntmps7
  go_wp2_with fail
  refine (live_any w).mono ?_; rintro e w1 ⟨rfl, hb2⟩; replace hb := hb.trans (hb2.mono hb.size); clear hb2
  go_wp2_with fail
  refine (Digit_any a l _).mono ?_; rintro e w' ⟨rfl, rfl⟩
  go_wp2_with fail
  refine (refDigit_any a l _).mono ?_; rintro e w' ⟨rfl, rfl⟩
  go_wp2_with fail
  refine (Digits_any a _).mono ?_; rintro e w2 ⟨v2, rfl, h2, hb2⟩; replace hb := hb.trans (hb2.mono hb.size); clear hb2
  obtain ⟨p2, cap2, rfl, hr2, hc2, hm2, hlt2⟩ := own_Rd h2
  clear h2
  go_wp2_with fail
  refine (refDigits_any a _).mono ?_; rintro e w3 ⟨v3, rfl, h3, hb3⟩; replace hb := hb.trans (hb3.mono hb.size)
  obtain ⟨p3, cap3, rfl, hr3, hc3, hm3, hlt3⟩ := own_Rd h3
  replace hr2 := hr2.below hb3 (fun x hx => (hlt2 x hx).2)
  clear h3 hb3
  have hl : 11 = ((List.range 11).map fun i : Nat => dgI a (i : Int)).length := by simp
  rw [dvs_iv] at hr2 hr3
  have Hl := Lib.hid hl
  clear hl
  go_wp2_with fail
  refine (SameInts_any _ _ _ _ _ _ _ _ Hl.out Hl.out _ (by omega) hr2 hr3).mono ?_; rintro e w' ⟨rfl, nq, rfl⟩
  rw [show (((List.range 11).map fun i : Nat => dgI a (i : Int)) == ((List.range 11).map fun i : Nat => dgI a (i : Int))) = true from beq_self_eq_true _]
  go_wp2_with fail
  refine (Common_any a b _).mono ?_; rintro e w4 ⟨rfl, hb2⟩
  go_wp2_with fail
  refine (refCommon_any a b _).mono ?_; rintro e w' ⟨rfl, rfl⟩
  go_wp2_with fail
  go_ret
  exact ⟨rfl, (below_draws hb nq).trans (hb2.mono hb.size)⟩
end Go.Proofs.Ytjjoncfbddakkaa

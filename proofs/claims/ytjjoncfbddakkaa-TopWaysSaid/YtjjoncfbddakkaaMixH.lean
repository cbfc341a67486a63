/-
  The walks of HandInts (a copy with nine marks behind its end) and KeptInts (the copy and the marks are as they were). Nothing that lay in memory turns. Condition: the list takes up no more room than Go's memory bears.
-/
import Derived.Test.YtjjoncfbddakkaaMixG
namespace Go.Proofs.Ytjjoncfbddakkaa
open Go Pl Go.RowKit Go.Shelf
set_option maxHeartbeats 1000000
/-- what HandInts lays behind the list: nine marks -/
def marks9 : List Int := [-700, -701, -702, -703, -704, -705, -706, -707, -708]
/-- what the row holds after j stores, the list and the marks coming in -/
def hand (ys : List Int) (j : Nat) : List Value := iv (ys.take j) ++ List.replicate (ys.length - j) (Value.int .i64 0)
theorem hand_set (ys : List Int) (k : Nat) (hk : k < ys.length) : (hand ys k).set k (.int .i64 (ys.getD k 0)) = hand ys (k + 1) := by
  have e : ys.getD k 0 = ys[k] := by simp [hk]
  have hl : (List.map (Value.int IntKind.i64) (List.take k ys)).length = k := by simp; omega
  have e2 : ys.length - k = (ys.length - (k + 1)) + 1 := by omega
  unfold hand iv
  rw [e, List.set_append_right _ _ (by omega), List.take_succ_eq_append_getElem hk, hl, Nat.sub_self, e2, List.replicate_succ, List.set_cons_zero, List.map_append, List.append_assoc]
  rfl
theorem hand_all (ys : List Int) : hand ys ys.length = iv ys := by unfold hand; simp
theorem hand_len (ys : List Int) (k : Nat) (hk : k ≤ ys.length) : (hand ys k).length = ys.length := by unfold hand iv; simp; omega
theorem hand_get (ys : List Int) (k : Nat) (hk : k < ys.length) : (hand ys k)[k]? = some (.int .i64 0) := by
  have hl : (List.map (Value.int IntKind.i64) (List.take k ys)).length = k := by simp; omega
  unfold hand iv
  rw [List.getElem?_append_right (by omega), hl, Nat.sub_self, List.getElem?_replicate, if_pos (by omega)]
theorem mark_at (xs : List Int) (j : Nat) (h0 : xs.length ≤ j) (h1 : j < xs.length + 9) : (xs ++ marks9).getD j 0 = -700 - (j : Int) + (xs.length : Int) := by
  obtain ⟨i, rfl⟩ : ∃ i, j = xs.length + i := ⟨j - xs.length, by omega⟩
  have hi : i < 9 := by omega
  rw [List.getD_eq_getElem?_getD, List.getElem?_append_right (by omega), Nat.add_sub_cancel_left]
  have : marks9[i]? = some (-700 - (i : Int)) := by
    match i, hi with
    | 0, _ => rfl
    | 1, _ => rfl
    | 2, _ => rfl
    | 3, _ => rfl
    | 4, _ => rfl
    | 5, _ => rfl
    | 6, _ => rfl
    | 7, _ => rfl
    | 8, _ => rfl
  rw [this]; simp; omega
theorem run_mk (n : Nat) (h : n * 8 ≤ 281474976710656) (L : Int) (hL : L = (n : Int)) (u : World) : (Instr.makeSlice 34 (.int .i64 L) (.int .i64 L)).run Try.prog u =
      .ok (.slice (some ⟨u.heap.size, 0, none⟩) n n) (u.alloc (.cells (madeCells #[.int .i64 0] n) 3)) := by
  obtain ⟨i0, hi, hz0, hz1, hz2⟩ := info_parts info3
  subst hL
  have h := run_make (P := Try.prog) u 34 3 i0 (.int .i64 0) Try.underlying34 hi hz0 .i64 .i64 (n : Int) (n : Int) (by omega) (Int.le_refl _) (by rw [hz2]; omega) (by omega)
  simpa [hz1, Value.cells] using h
theorem made_zero (n : Nat) : (madeCells #[Value.int .i64 0] n).toList = List.replicate n (.int .i64 0) := toList_madeCells_one _ n
set_option maxRecDepth 100000 in
theorem HandInts_any (p : Option Addr) (n cap : Nat) (xs : List Int) (hn : n = xs.length) (w : World) (hl : n ≤ 17592186044160) (hr : Rd w p (iv xs)) (hlt : xs = [] ∨ ∀ x, p = some x → x.block < w.heap.size) :
    Calls Try.prog 30 #[.slice p n cap] w fun e w' => e = .returned (.slice (some ⟨w.heap.size, 0, none⟩) n (n + 9)) ∧ Below w.heap.size w w' ∧
      w'.ownsRow w.heap.size 3 1 (.slice (some ⟨w.heap.size, 0, none⟩) (n + 9) (n + 9)) (n + 9) (iv (xs ++ marks9)) := by
  have Hn := Lib.hid hn
  have hmk := run_mk (n + 9) (by omega) ((n : Int) + 9) (by omega)
  have hy : (xs ++ marks9).length = n + 9 := by rw [List.length_append, hn]; rfl
  have Hy := Lib.hid hy
  clear hn hy
  have hBelow : Below w.heap.size w (w.alloc (.cells (madeCells #[.int .i64 0] (n + 9)) 3)) := (Below.refl _ w).alloc (Nat.le_refl _) _
  have hown := World.ownsRow_lit (base := w.heap.size) (size := 1) (e := 3) w (madeCells #[.int .i64 0] (n + 9)) (n + 9) (Nat.le_refl _) (by unfold maxLen; omega) (by rw [size_madeCells, Nat.mul_one])
  have hst : hand (xs ++ marks9) 0 = (madeCells #[Value.int .i64 0] (n + 9)).toList := by rw [made_zero]; unfold hand iv; rw [Hy.out]; simp
  rw [← hst] at hown
  have Hown := Lib.hid hown
  have HB := Lib.hid hBelow
  clear hst hown hBelow
  go_enter Try.func30, Try.ntmps30
  go_wp2
  go_loopw [4] (fun i wr => ∃ k : Nat, k ≤ n ∧ i = .int .i64 (k : Int) ∧ wr.ownsRow w.heap.size 3 1 (.slice (some ⟨w.heap.size, 0, none⟩) (n + 9) (n + 9)) (n + 9) (hand (xs ++ marks9) k) ∧ Below w.heap.size w wr) (fun i _ => n - (intOf i).toNat)
  case atStart => exact ⟨0, by omega, rfl, Hown.out, HB.out⟩
  case round =>
    obtain ⟨k, hk, rfl, hown, hB⟩ := hrel
    have hsz := hB.size
    by_cases hlt2 : k < n
    · obtain ⟨b, off, hp, hc⟩ := hr.at_int (k := k) (by have := Hn.out; omega)
      subst hp
      have hb := hlt.resolve_left (fun e => by have := Hn.out; rw [e] at this; simp at this; omega) _ rfl
      have hc2 : wr.cell? ⟨b, off + k, none⟩ = some (.int .i64 (xs.getD k 0)) := (hB.cell (p := ⟨b, off + k, none⟩) hb).trans hc
      have hst := hown.stored k (.int .i64 (xs.getD k 0))
      have e1 : (xs ++ marks9).getD k 0 = xs.getD k 0 := by
        rw [List.getD_eq_getElem?_getD, List.getElem?_append_left (by have := Hn.out; omega), ← List.getD_eq_getElem?_getD]
      have hset := hand_set (xs ++ marks9) k (by have := Hy.out; omega)
      rw [e1] at hset
      rw [hset] at hst
      have Hst := Lib.hid hst
      have hcell := hown.cellAt k (by omega)
      rw [hand_get _ _ (by have := Hy.out; omega)] at hcell
      have hfr := hown.frozenAt k
      clear hset e1 hst hown
      generalize xs.getD k 0 = x at *
      go_wp2
      go_roundw
      case rel => exact ⟨k + 1, by omega, by go_num, Hst.out.1, hB.setCell (p := ⟨w.heap.size, k, none⟩) (Nat.le_refl _) _⟩
      case measure => simp [intOf]; omega
    · obtain rfl : k = n := by omega
      have Hown2 := Lib.hid hown
      clear hown
      go_wp2
      go_loopw [5] (fun i w2 => ∃ j : Nat, k ≤ j ∧ j ≤ k + 9 ∧ i = .int .i64 (j : Int) ∧ w2.ownsRow w.heap.size 3 1 (.slice (some ⟨w.heap.size, 0, none⟩) (k + 9) (k + 9)) (k + 9) (hand (xs ++ marks9) j) ∧ Below w.heap.size w w2) (fun i _ => k + 9 - (intOf i).toNat)
      case atStart => exact ⟨k, by omega, by omega, rfl, Hown2.out, hB⟩
      case round =>
        rename_i w2 _
        obtain ⟨j, hj0, hj1, rfl, hown, hB⟩ := hrel
        have hsz := hB.size
        by_cases hlt3 : j < k + 9
        · have hst := hown.stored j (.int .i64 (-700 - (j : Int) + (k : Int)))
          have hset := hand_set (xs ++ marks9) j (by have := Hy.out; omega)
          rw [mark_at xs j (by have := Hn.out; omega) (by have := Hn.out; omega), ← Hn.out] at hset
          rw [hset] at hst
          have Hst := Lib.hid hst
          have hcell := hown.cellAt j (by omega)
          rw [hand_get _ _ (by have := Hy.out; omega)] at hcell
          have hfr := hown.frozenAt j
          clear hset hst hown
          go_wp2
          go_roundw
          case rel => exact ⟨j + 1, by omega, by omega, by go_num, Hst.out.1, hB.setCell (p := ⟨w.heap.size, j, none⟩) (Nat.le_refl _) _⟩
          case measure => simp [intOf]; omega
        · obtain rfl : j = k + 9 := by omega
          have hfin : hand (xs ++ marks9) (k + 9) = iv (xs ++ marks9) := by rw [← Hy.out, hand_all]
          rw [hfin] at hown
          have Hown3 := Lib.hid hown
          clear hfin hown
          go_wp2
          go_ret
          exact ⟨rfl, hB, Hown3.out⟩

theorem Rd.below2 {B : Nat} {w w' : World} {p : Option Addr} {xs : List Int} (h : Rd w p (iv xs)) (hb : Below B w w') (hlt : xs = [] ∨ ∀ x, p = some x → x.block < B) : Rd w' p (iv xs) := by
  rcases hlt with rfl | hlt
  · exact .inl rfl
  · exact h.below hb hlt
theorem Rd.cut {w : World} {p : Option Addr} {xs ys : List Int} (h : Rd w p (iv (xs ++ ys))) : Rd w p (iv xs) := by
  rcases h with h | ⟨b, off, hp, hc⟩
  · left
    have : xs ++ ys = [] := by simpa [iv] using h
    rw [(List.append_eq_nil_iff.1 this).1]; rfl
  · right
    refine ⟨b, off, hp, fun i hi => ?_⟩
    have hi2 : i < xs.length := by simpa [iv] using hi
    rw [hc i (by simp [iv]; omega)]
    simp [iv, hi2, List.getElem?_append]
set_option maxRecDepth 100000 in
theorem KeptInts_any (g : Nat) (p : Option Addr) (n cap : Nat) (xs : List Int) (hn : n = xs.length) (w : World) (hl : n ≤ 17592186044160) (hr : Rd w p (iv xs)) (hg : Rd w (some ⟨g, 0, none⟩) (iv (xs ++ marks9))) :
    Calls Try.prog 33 #[.slice (some ⟨g, 0, none⟩) n (n + 9), .slice p n cap] w fun e w' => e = .returned (.bool true) ∧ ∃ n, w' = w.drewN n := by
  have Hn := Lib.hid hn
  have hs := SameInts_any (some ⟨g, 0, none⟩) p n n (n + 9) cap xs xs hn hn w (by omega) hg.cut hr
  rw [show (xs == xs) = true from beq_self_eq_true _] at hs
  have Hs := Lib.hid hs
  have hc : ∀ j, j < n + 9 → w.cell? ⟨g, j, none⟩ = some (.int .i64 ((xs ++ marks9).getD j 0)) := by
    intro j hj
    obtain ⟨b, off, hp, hc⟩ := hg.at_int (k := j) (by simp [marks9]; omega)
    cases hp
    simpa using hc
  clear hn hs
  go_enter Try.func33, Try.ntmps33
  go_wp2_with fail
  refine Hs.out.mono ?_; rintro e w' ⟨rfl, nq, rfl⟩
  go_wp2_with fail
  go_loopw [6] (fun i w2 => ∃ j nq : Nat, w2 = w.drewN nq ∧ n ≤ j ∧ j ≤ n + 9 ∧ i = .int .i64 (j : Int)) (fun i _ => n + 9 - (intOf i).toNat)
  case atStart => exact ⟨n, nq, rfl, by omega, by omega, rfl⟩
  case round =>
    obtain ⟨j, nq, rfl, hj0, hj1, rfl⟩ := hrel
    by_cases hlt3 : j < n + 9
    · have h1 := hc j hlt3
      rw [mark_at xs j (by have := Hn.out; omega) (by have := Hn.out; omega), ← Hn.out] at h1
      clear hc
      go_wp2
      go_roundw
      case rel => exact ⟨j + 1, nq, rfl, by omega, by omega, by go_num⟩
      case measure => simp [intOf]; omega
    · obtain rfl : j = n + 9 := by omega
      go_wp2
      go_ret
      exact ⟨rfl, _, rfl⟩
end Go.Proofs.Ytjjoncfbddakkaa

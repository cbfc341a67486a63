/-
  The walks of mix.Join and of the reference's Join: both return the number of the digits, or false. No condition.
-/
import Derived.Test.YtjjoncfbddakkaaMixF
namespace Go.Proofs.Ytjjoncfbddakkaa
open Go Pl Go.RowKit Go.Shelf
set_option maxHeartbeats 1000000
def jr (xs : List Int) : Int × Bool := match joinL xs with | some h => ((h : Int), true) | none => (0, false)
theorem jf_no (k h : Nat) (xs : List Int) (hk : k < xs.length) (hx : xs.getD k 0 < 0 ∨ (if k = 10 then 16 else 64) ≤ xs.getD k 0) : joinFrom k h (xs.drop k) = none := by
  rw [List.drop_eq_getElem_cons hk, joinFrom, if_neg]
  have e : xs.getD k 0 = xs[k] := by simp [hk]
  rw [e] at hx
  omega
theorem jf_yes (k h : Nat) (xs : List Int) (hk : k < xs.length) (h0 : 0 ≤ xs.getD k 0) (h1 : xs.getD k 0 < (if k = 10 then 16 else 64)) :
    joinFrom k h (xs.drop k) = joinFrom (k + 1) (h * (if k = 10 then 16 else 64) + (xs.getD k 0).toNat) (xs.drop (k + 1)) := by
  have e : xs.getD k 0 = xs[k] := by simp [hk]
  rw [e] at h0 h1 ⊢
  rw [List.drop_eq_getElem_cons hk, joinFrom, if_pos ⟨h0, h1⟩]
theorem wraps_u64 (n : Int) (h₀ : 0 ≤ n) (h₁ : n < 2 ^ 64) : IntKind.u64.wrap n = n := by rw [wrap_u64]; omega
theorem pow_small (k : Nat) (hk : k < 10) (H : Nat) (hH : H < 2 ^ (6 * k)) : H < 2 ^ 54 := by
  have : 2 ^ (6 * k) ≤ 2 ^ 54 := Nat.pow_le_pow_right (by decide) (by omega)
  omega
theorem orJoin6 (k H : Nat) (x : Int) (hk : k < 10) (hH : H < 2 ^ (6 * k)) (h0 : 0 ≤ x) (h1 : ¬ 64 ≤ x) : bits BinOp.or IntKind.u64 (IntKind.u64.wrap ((H : Int) * 64)) x = ((H * 64 + x.toNat : Nat) : Int) := by
  have h2 := pow_small k hk H hH
  rw [wrap_u64, show ((H : Int) * 64) % 18446744073709551616 = (H : Int) * 64 by omega]
  rw [bits_join .u64 64 (by decide) wraps_u64 6 _ _ (by omega) (by omega) (by omega) h0 (by omega) (by omega)]
  omega
theorem orJoin4 (H : Nat) (x : Int) (hH : H < 2 ^ 60) (h0 : 0 ≤ x) (h1 : ¬ 16 ≤ x) : bits BinOp.or IntKind.u64 (IntKind.u64.wrap ((H : Int) * 16)) x = ((H * 16 + x.toNat : Nat) : Int) := by
  rw [wrap_u64, show ((H : Int) * 16) % 18446744073709551616 = (H : Int) * 16 by omega]
  rw [bits_join .u64 64 (by decide) wraps_u64 4 _ _ (by omega) (by omega) (by omega) h0 (by omega) (by omega)]
  omega
theorem step6 (k H : Nat) (x : Int) (hH : H < 2 ^ (6 * k)) (h0 : 0 ≤ x) (h1 : ¬ 64 ≤ x) : H * 64 + x.toNat < 2 ^ (6 * (k + 1)) := by
  rw [show 6 * (k + 1) = 6 * k + 6 by omega, Nat.pow_add]
  generalize 2 ^ (6 * k) = P at *
  omega
theorem joinFrom_nil (l h : Nat) : joinFrom l h [] = some h := by unfold joinFrom; rfl
theorem jr_short (xs : List Int) (h : xs.length ≠ 11) : jr xs = (0, false) := by rw [jr, joinL, if_neg h]
theorem jr_no (xs : List Int) (k H : Nat) (h1 : joinL xs = joinFrom k H (xs.drop k)) (h2 : joinFrom k H (xs.drop k) = none) : jr xs = (0, false) := by rw [jr, h1, h2]
theorem jr_yes (xs : List Int) (H : Nat) (h1 : joinL xs = some H) : jr xs = ((H : Int), true) := by rw [jr, h1]
theorem ret_pair {a b : Int} {c d : Bool} (h : (a, c) = (b, d)) : Ending.returned (.tuple #[.int .u64 a, .bool c]) = .returned (.tuple #[.int .u64 b, .bool d]) := by cases h; rfl
set_option maxRecDepth 100000 in
theorem Join_any (p : Option Addr) (n cap : Nat) (xs : List Int) (hn : n = xs.length) (w : World) (hr : Rd w p (iv xs)) :
    Calls Try.prog 31 #[.slice p n cap] w fun e w' => e = .returned (.tuple #[.int .u64 (jr xs).1, .bool (jr xs).2]) ∧ w = w' := by
  by_cases h11 : n = 11
  · subst h11
    obtain ⟨b, off, rfl, hc⟩ := hr.at_lt (by omega)
    have Hn := Lib.hid hn
    clear hr hn
    go_enter Try.func31, Try.ntmps31
    go_wp2
    go_loop [4, 5, 6, 7, 13] (fun h lv d nn i => ∃ (k H : Nat), k ≤ 11 ∧ i = .int .i64 (k : Int) ∧ h = .int .u64 (H : Int) ∧ Hid (k ≤ 10 → H < 2 ^ (6 * k)) ∧ joinL xs = joinFrom k H (xs.drop k)) (fun _ _ _ _ i => 20 - (intOf i).toNat)
    case atStart => exact ⟨0, 0, by decide, rfl, rfl, (fun _ => by decide : 0 ≤ 10 → (0 : Nat) < 2 ^ (6 * 0)), by rw [joinL, if_pos Hn.out.symm]; rfl⟩
    case round =>
      obtain ⟨k, H, hk, rfl, rfl, hH, hj⟩ := hrel
      have Hj := Lib.hid hj
      clear hj
      by_cases hlt : k < 11
      · have h1 := hc k (by have := Hn.out; omega)
        by_cases h10 : k = 10
        · subst h10
          by_cases hx0 : xs.getD 10 0 < 0
          · have Hno := Lib.hid (jr_no xs 10 H Hj.out (jf_no 10 H xs (by have := Hn.out; omega) (.inl hx0)))
            clear hc
            generalize xs.getD 10 0 = x at *
            go_wp2
            go_ret2
            exact ⟨ret_pair (by rw [Hno.out]), rfl⟩
          · by_cases hx1 : 16 ≤ xs.getD 10 0
            · have Hno := Lib.hid (jr_no xs 10 H Hj.out (jf_no 10 H xs (by have := Hn.out; omega) (.inr (by rw [if_pos rfl]; exact hx1))))
              clear hc
              generalize xs.getD 10 0 = x at *
              go_wp2
              go_ret2
              exact ⟨ret_pair (by rw [Hno.out]), rfl⟩
            · have hyes := jf_yes 10 H xs (by have := Hn.out; omega) (by omega) (by rw [if_pos rfl]; omega)
              rw [if_pos rfl] at hyes
              have Hyes := Lib.hid hyes
              clear hyes
              have hx0' : 0 ≤ xs.getD 10 0 := by omega
              generalize xs.getD 10 0 = x at *
              go_wp2
              go_round
              case rel =>
                exact ⟨11, H * 16 + x.toNat, by omega, by go_num, by rw [orJoin4 H x (hH.out (by omega)) hx0' hx1], (fun h => by omega : 11 ≤ 10 → _), by rw [Hj.out, Hyes.out]⟩
              case measure => simp [intOf]
        · have hne : ((k : Int) == 10) = false := by simp; omega
          have hk10 : k < 10 := by omega
          by_cases hx0 : xs.getD k 0 < 0
          · have Hno := Lib.hid (jr_no xs k H Hj.out (jf_no k H xs (by have := Hn.out; omega) (.inl hx0)))
            generalize xs.getD k 0 = x at *
            go_wp2
            go_ret2
            exact ⟨ret_pair (by rw [Hno.out]), rfl⟩
          · by_cases hx1 : 64 ≤ xs.getD k 0
            · have Hno := Lib.hid (jr_no xs k H Hj.out (jf_no k H xs (by have := Hn.out; omega) (.inr (by rw [if_neg h10]; exact hx1))))
              generalize xs.getD k 0 = x at *
              go_wp2
              go_ret2
              exact ⟨ret_pair (by rw [Hno.out]), rfl⟩
            · have hyes := jf_yes k H xs (by have := Hn.out; omega) (by omega) (by rw [if_neg h10]; omega)
              rw [if_neg h10] at hyes
              have Hyes := Lib.hid hyes
              clear hyes
              have hx0' : 0 ≤ xs.getD k 0 := by omega
              generalize xs.getD k 0 = x at *
              go_wp2
              go_round
              case rel =>
                exact ⟨k + 1, H * 64 + x.toNat, by omega, by go_num, by rw [orJoin6 k H x hk10 (hH.out (by omega)) hx0' hx1], (fun _ => step6 k H x (hH.out (by omega)) hx0' hx1 : k + 1 ≤ 10 → _), by rw [Hj.out, Hyes.out]⟩
              case measure => simp [intOf]; omega
      · obtain rfl : k = 11 := by omega
        have Hd := Lib.hid (jr_yes xs H (by rw [Hj.out, List.drop_of_length_le (by have := Hn.out; omega), joinFrom_nil]))
        go_wp2
        go_ret2
        exact ⟨ret_pair (by rw [Hd.out]), rfl⟩
  · have hne : ((n : Int) != 11) = true := by simp; omega
    have Hs := Lib.hid (jr_short xs (by omega))
    clear hn
    go_enter Try.func31, Try.ntmps31
    go_wp2
    go_ret2
    exact ⟨ret_pair (by rw [Hs.out]), rfl⟩

theorem addJoin6 (k H : Nat) (x : Int) (hk : k < 10) (hH : H < 2 ^ (6 * k)) (h0 : 0 ≤ x) (h1 : ¬ 64 ≤ x) : IntKind.u64.wrap (IntKind.u64.wrap ((H : Int) * 64) + x) = ((H * 64 + x.toNat : Nat) : Int) := by
  have h2 := pow_small k hk H hH
  rw [wrap_u64, wrap_u64]; omega
theorem addJoin4 (H : Nat) (x : Int) (hH : H < 2 ^ 60) (h0 : 0 ≤ x) (h1 : ¬ 16 ≤ x) : IntKind.u64.wrap (IntKind.u64.wrap ((H : Int) * 16) + x) = ((H * 16 + x.toNat : Nat) : Int) := by
  rw [wrap_u64, wrap_u64]; omega
set_option maxRecDepth 100000 in
theorem refJoin_any (p : Option Addr) (n cap : Nat) (xs : List Int) (hn : n = xs.length) (w : World) (hr : Rd w p (iv xs)) :
    Calls Try.prog 32 #[.slice p n cap] w fun e w' => e = .returned (.tuple #[.int .u64 (jr xs).1, .bool (jr xs).2]) ∧ w = w' := by
  by_cases h11 : n = 11
  · subst h11
    obtain ⟨b, off, rfl, hc⟩ := hr.at_lt (by omega)
    have Hn := Lib.hid hn
    clear hr hn
    go_enter Try.func32, Try.ntmps32
    go_wp2
    go_loop [4, 5] (fun h i => ∃ (k H : Nat), k ≤ 11 ∧ i = .int .i64 (k : Int) ∧ h = .int .u64 (H : Int) ∧ Hid (k ≤ 10 → H < 2 ^ (6 * k)) ∧ joinL xs = joinFrom k H (xs.drop k)) (fun _ i => 20 - (intOf i).toNat)
    case atStart => exact ⟨0, 0, by decide, rfl, rfl, (fun _ => by decide : 0 ≤ 10 → (0 : Nat) < 2 ^ (6 * 0)), by rw [joinL, if_pos Hn.out.symm]; rfl⟩
    case round =>
      obtain ⟨k, H, hk, rfl, rfl, hH, hj⟩ := hrel
      have Hj := Lib.hid hj
      clear hj
      by_cases hlt : k < 11
      · have h1 := hc k (by have := Hn.out; omega)
        by_cases h10 : k = 10
        · subst h10
          by_cases hx0 : xs.getD 10 0 < 0
          · have Hno := Lib.hid (jr_no xs 10 H Hj.out (jf_no 10 H xs (by have := Hn.out; omega) (.inl hx0)))
            clear hc
            generalize xs.getD 10 0 = x at *
            go_wp2
            go_ret2
            exact ⟨ret_pair (by rw [Hno.out]), rfl⟩
          · by_cases hx1 : 16 ≤ xs.getD 10 0
            · have Hno := Lib.hid (jr_no xs 10 H Hj.out (jf_no 10 H xs (by have := Hn.out; omega) (.inr (by rw [if_pos rfl]; exact hx1))))
              clear hc
              have hx2 : 63 < xs.getD 10 0 ∨ xs.getD 10 0 ≤ 63 := by omega
              generalize xs.getD 10 0 = x at *
              have hx3 : 15 < x := by omega
              rcases hx2 with hx2 | hx2
              · go_wp2
                go_ret2
                exact ⟨ret_pair (by rw [Hno.out]), rfl⟩
              · go_wp2
                go_ret2
                exact ⟨ret_pair (by rw [Hno.out]), rfl⟩
            · have hyes := jf_yes 10 H xs (by have := Hn.out; omega) (by omega) (by rw [if_pos rfl]; omega)
              rw [if_pos rfl] at hyes
              have Hyes := Lib.hid hyes
              clear hyes
              have hx0' : 0 ≤ xs.getD 10 0 := by omega
              generalize xs.getD 10 0 = x at *
              have hx3 : ¬ 63 < x := by omega
              have hx4 : ¬ 15 < x := by omega
              go_wp2
              go_round
              case rel =>
                exact ⟨11, H * 16 + x.toNat, by omega, by go_num, by rw [addJoin4 H x (hH.out (by omega)) hx0' hx1], (fun h => by omega : 11 ≤ 10 → _), by rw [Hj.out, Hyes.out]⟩
              case measure => simp [intOf]
        · have hne : ((k : Int) == 10) = false := by simp; omega
          have hk10 : k < 10 := by omega
          by_cases hx0 : xs.getD k 0 < 0
          · have Hno := Lib.hid (jr_no xs k H Hj.out (jf_no k H xs (by have := Hn.out; omega) (.inl hx0)))
            generalize xs.getD k 0 = x at *
            go_wp2
            go_ret2
            exact ⟨ret_pair (by rw [Hno.out]), rfl⟩
          · by_cases hx1 : 64 ≤ xs.getD k 0
            · have Hno := Lib.hid (jr_no xs k H Hj.out (jf_no k H xs (by have := Hn.out; omega) (.inr (by rw [if_neg h10]; exact hx1))))
              generalize xs.getD k 0 = x at *
              have hx3 : 63 < x := by omega
              go_wp2
              go_ret2
              exact ⟨ret_pair (by rw [Hno.out]), rfl⟩
            · have hyes := jf_yes k H xs (by have := Hn.out; omega) (by omega) (by rw [if_neg h10]; omega)
              rw [if_neg h10] at hyes
              have Hyes := Lib.hid hyes
              clear hyes
              have hx0' : 0 ≤ xs.getD k 0 := by omega
              generalize xs.getD k 0 = x at *
              have hx3 : ¬ 63 < x := by omega
              go_wp2
              go_round
              case rel =>
                exact ⟨k + 1, H * 64 + x.toNat, by omega, by go_num, by rw [addJoin6 k H x hk10 (hH.out (by omega)) hx0' hx1], (fun _ => step6 k H x (hH.out (by omega)) hx0' hx1 : k + 1 ≤ 10 → _), by rw [Hj.out, Hyes.out]⟩
              case measure => simp [intOf]; omega
      · obtain rfl : k = 11 := by omega
        have Hd := Lib.hid (jr_yes xs H (by rw [Hj.out, List.drop_of_length_le (by have := Hn.out; omega), joinFrom_nil]))
        go_wp2
        go_ret2
        exact ⟨ret_pair (by rw [Hd.out]), rfl⟩
  · have hne : ((n : Int) != 11) = true := by simp; omega
    have Hs := Lib.hid (jr_short xs (by omega))
    clear hn
    go_enter Try.func32, Try.ntmps32
    go_wp2
    go_ret2
    exact ⟨ret_pair (by rw [Hs.out]), rfl⟩
end Go.Proofs.Ytjjoncfbddakkaa

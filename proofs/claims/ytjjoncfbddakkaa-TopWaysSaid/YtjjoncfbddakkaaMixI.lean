/-
  The laws MixJoins and MixBack as walks: whatever the list and the numbers, true; nothing that lay in memory turns. Condition for MixJoins: the list takes up no more room than Go's memory bears.
-/
import Derived.Test.YtjjoncfbddakkaaMixH
namespace Go.Proofs.Ytjjoncfbddakkaa
open Go Pl Go.RowKit Go.Shelf
set_option maxHeartbeats 1000000
theorem Rd.draws {w : World} {p : Option Addr} {cs : List Value} (h : Rd w p cs) (n : Nat) : Rd (w.drewN n) p cs := h
set_option maxRecDepth 100000 in
theorem MixJoins_walk (p : Option Addr) (n cap : Nat) (xs : List Int) (hn : n = xs.length) (w : World) (hl : n ≤ 17592186044160) (hr : Rd w p (iv xs)) (hlt : xs = [] ∨ ∀ x, p = some x → x.block < w.heap.size) :
    Calls Try.prog 9 #[.slice p n cap] w fun e w' => e = .returned (.bool true) ∧ Below w.heap.size w w' := by
  have hb := Below.refl w.heap.size w
  have Hn := Lib.hid hn
  clear hn
  go_enter Try.func9, Try.ntmps9
  go_wp2_with fail
  refine (live_any w).mono ?_; rintro e w1 ⟨rfl, hb2⟩; replace hb := hb.trans (hb2.mono hb.size)
  have hr1 := hr.below2 hb2 hlt
  have hlt1 : xs = [] ∨ ∀ x, p = some x → x.block < w1.heap.size := hlt.imp id (fun h x hx => Nat.lt_of_lt_of_le (h x hx) hb2.size)
  clear hb2
  go_wp2_with fail
  refine (HandInts_any p n cap xs Hn.out w1 hl hr1 hlt1).mono ?_; rintro e w2 ⟨rfl, hb2, hown⟩; replace hb := hb.trans (hb2.mono hb.size)
  have hr2 := hr1.below2 hb2 hlt1
  obtain ⟨p2, c2, e2, hin, _, _, _⟩ := own_Rd hown
  cases e2
  clear hb2 hown
  go_wp2_with fail
  refine (Join_any _ n _ xs Hn.out w2 hin.cut).mono ?_; rintro e w' ⟨rfl, rfl⟩
  go_wp2_with fail
  refine (refJoin_any p n cap xs Hn.out w2 hr2).mono ?_; rintro e w' ⟨rfl, rfl⟩
  go_wp2_with fail
  refine (KeptInts_any _ p n cap xs Hn.out w2 hl hr2 hin).mono ?_; rintro e w' ⟨rfl, nq, rfl⟩
  go_wp2_with fail
  go_ret
  refine ⟨?_, below_draws hb nq⟩
  first | rfl | (simp; done)
theorem iv_dgs (x : BitVec 64) : dvs x = iv ((dgs x.toNat).map (fun d : Nat => (d : Int))) := by
  simp only [dvs, iv, dgs, List.map_map]
  apply List.map_congr_left
  intro i _
  simp [dgI_nat]
theorem jr_dgs (x : BitVec 64) : jr ((dgs x.toNat).map (fun d : Nat => (d : Int))) = (U x, true) := by
  rw [jr_yes _ _ (join_dgs x.toNat x.isLt)]; rfl
set_option maxRecDepth 100000 in
theorem MixBack_walk (a b : BitVec 64) (w : World) : Calls Try.prog 10 #[.int .u64 (U a), .int .u64 (U b)] w fun e w' => e = .returned (.bool true) ∧ Below w.heap.size w w' := by
  have hb := Below.refl w.heap.size w
  have Hl : Hid (11 = ((dgs a.toNat).map (fun d : Nat => (d : Int))).length) := by show 11 = _; simp [dgs]
  have hj := jr_dgs a
  have Hj := Lib.hid hj
  have b1 : ∀ w, Calls Try.prog 15 #[.int .u64 (U (mixB a))] w fun e w' => e = .returned (.int .u64 (U a)) ∧ w = w' := fun w => by have := Back_any (mixB a) w; rwa [back_mix] at this
  have b2 : ∀ w, Calls Try.prog 13 #[.int .u64 (U (backB a))] w fun e w' => e = .returned (.int .u64 (U a)) ∧ w = w' := fun w => by have := Mix_any (backB a) w; rwa [mix_back] at this
  have hab : ((U (mixB a) == U (mixB b)) == (U a == U b)) = true := by
    rw [U_beq, U_beq]; simp [mix_inj]
  have B1 := Lib.hid b1
  have B2 := Lib.hid b2
  clear hj b1 b2
  go_enter Try.func10, Try.ntmps10
  go_wp2_with fail
  refine (live_any w).mono ?_; rintro e w1 ⟨rfl, hb2⟩; replace hb := hb.trans (hb2.mono hb.size); clear hb2
  go_wp2_with fail
  refine (Digits_any a _).mono ?_; rintro e w2 ⟨v2, rfl, h2, hb2⟩; replace hb := hb.trans (hb2.mono hb.size); clear hb2
  obtain ⟨p2, cap2, rfl, hr2, hc2, hm2, hlt2⟩ := own_Rd h2
  clear h2
  rw [iv_dgs] at hr2
  go_wp2_with fail
  refine (Join_any p2 11 cap2 _ Hl.out w2 hr2).mono ?_; rintro e w' ⟨rfl, rfl⟩
  rw [Hj.out]
  go_wp2_with fail
  refine (Mix_any a _).mono ?_; rintro e w' ⟨rfl, rfl⟩
  go_wp2_with fail
  refine (B1.out _).mono ?_; rintro e w' ⟨rfl, rfl⟩
  go_wp2_with fail
  refine (Back_any a _).mono ?_; rintro e w' ⟨rfl, rfl⟩
  go_wp2_with fail
  refine (B2.out _).mono ?_; rintro e w' ⟨rfl, rfl⟩
  go_wp2_with fail
  refine (Mix_any a _).mono ?_; rintro e w' ⟨rfl, rfl⟩
  go_wp2_with fail
  refine (Mix_any b _).mono ?_; rintro e w' ⟨rfl, rfl⟩
  go_wp2_with fail
  refine (Digits_any a _).mono ?_; rintro e w3 ⟨v3, rfl, h3, hb3⟩; replace hb := hb.trans (hb3.mono hb.size)
  obtain ⟨p3, cap3, rfl, hr3, hc3, hm3, hlt3⟩ := own_Rd h3
  replace hr2 := hr2.below hb3 (fun x hx => (hlt2 x hx).2)
  rw [iv_dgs] at hr3
  clear h3 hb3
  go_wp2_with fail
  refine (SameInts_any _ _ _ _ _ _ _ _ Hl.out Hl.out _ (by omega) hr3 hr2).mono ?_; rintro e w' ⟨rfl, nq, rfl⟩
  rw [show (((dgs a.toNat).map (fun d : Nat => (d : Int))) == ((dgs a.toNat).map (fun d : Nat => (d : Int)))) = true from beq_self_eq_true _]
  go_wp2_with fail
  go_ret
  refine ⟨?_, below_draws hb nq⟩
  first | rfl | (simp; done)
end Go.Proofs.Ytjjoncfbddakkaa

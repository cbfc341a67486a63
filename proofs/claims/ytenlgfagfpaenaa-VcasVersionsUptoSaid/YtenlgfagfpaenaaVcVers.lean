/-
  VcasVersions: any cells, and any address as an object. No condition.
-/
import Derived.Test.YtenlgfagfpaenaaVcW
import Derived.IntWalk
namespace Go.Proofs.Ytenlgfagfpaenaa
open Go Go.RowKit
set_option linter.unusedSimpArgs false
set_option linter.unusedVariables false
section
variable {w0 w w' w1 w2 : World} {F G : Nat → Prop} {bm rm v k i : Nat} {A : Mem} {x : Int} {cs : List Int} {p : Option Addr} {c : Nat}
theorem SV.bel {n : Nat} (h : SV w0 bm v rm A n w) : Below w0.heap.size w0 w := let ⟨_, _, h, _⟩ := h; h.below
/-- what the rest of the law needs of both memories -/
def Both (w0 : World) (bm rm : Nat) (A : Mem) (w : World) : Prop := ∃ F G, Own w0 w F bm A ∧ RM w G rm false A
theorem Both.bl (h : Both w0 bm rm A w) (hb : Below w.heap.size w w') : Both w0 bm rm A w' := by
  obtain ⟨F, G, a, b⟩ := h
  exact ⟨F, G, a.bel hb, b.fr (Fr.of_below (S := fun _ => False) hb) (fun _ _ e => e)⟩
theorem Both.bel (h : Both w0 bm rm A w) : Below w0.heap.size w0 w := let ⟨_, _, h, _⟩ := h; h.below
theorem row_bl {B n size : Nat} {e : TypeId} {u : Value} {xs : List Value} (h : w.ownsRow B e size u n xs) (hb : Below w.heap.size w w') : w'.ownsRow B e size u n xs := own_fr h (Fr.of_below (S := fun _ => False) hb) (fun _ _ e => e)
set_option maxHeartbeats 2000000 in
set_option maxRecDepth 100000 in
theorem VcasVersions_any (hv : VA w (.slice p cs.length c) cs) (hpos : ∀ y ∈ cs, 0 ≤ y) (hl : cs.length ≤ 1048576) (hx : 0 ≤ x) (hx2 : x ≤ 18446744073709551615) :
    Calls Try.prog 3 #[.slice p cs.length c, .int .u64 x] w fun e w' => e = .returned (.bool true) ∧ Below w.heap.size w w' := by
  have HV := Lib.hid (fun (j : Nat) (y : Int) (hj : cs[j]? = some y) => VAat hv hj)
  have HPOS := Lib.hid hpos
  clear hv hpos
  go_enter Try.func3, Try.ntmps3
  go_wp2_with fail
  refine (New_plain w 256 (by decide) (by decide)).mono ?_
  rintro e w1 ⟨bm, rfl, hm, hb1⟩
  obtain ⟨F, hO, hF⟩ := Own.new w (Below.refl _ w) hm hb1
  have HO := Lib.hid hO
  clear hm hb1 hO hF
  go_wp2_with fail
  refine (RNew_any w1 256 (by decide) (by decide) false).mono ?_
  rintro e w2 ⟨rm, rfl, hr, hb2⟩
  have HR := Lib.hid hr.tight
  have HO2 := Lib.hid (HO.out.bel hb2)
  have HM := Lib.hid (fun k (hk : F k) => (HO.out.mine.2 k hk).2)
  have HZ := Lib.hid (And.intro HO.out.size hb2.size)
  clear hr hb2 HO
  go_wp2_with fail
  refine (View_any w2 bm 0).mono ?_
  rintro e w3 ⟨rfl, hw3⟩
  have hS : SV w bm w2.heap.size rm (AV cs 0) 0 w3 := by
    obtain ⟨a, b, d, e⟩ := HO2.out.view 0 hw3
    have hz := HZ.out
    have hz3 := e.size
    refine ⟨F, _, a, b, d, HO2.out.size, HR.out.fr (Fr.of_below (S := fun _ => False) e) (fun _ _ e => e), ?_⟩
    rintro k ⟨h1, h2⟩
    have h1 : w1.heap.size ≤ k := h1
    exact ⟨by omega, by omega, fun hk => by have := HM.out k hk; omega, by omega⟩
  have HS := Lib.hid hS
  clear hw3 hS HO2 HR HM HZ
  generalize w2.heap.size = v at *
  go_wp2_with fail
  go_loopw [10] (fun i10 wr => ∃ i : Nat, i10 = .int .i64 i ∧ i ≤ cs.length ∧ i ≤ 256 ∧ Hid (SV w bm v rm (AV cs i) i wr)) (fun i10 _ => 256 - (intOf i10).toNat)
  case atStart => exact ⟨0, rfl, Nat.zero_le _, Nat.zero_le _, HS⟩
  case round =>
    clear HS
    obtain ⟨i, rfl, hi1, hi2, HS⟩ := hrel
    by_cases hlt : i < cs.length ∧ i < 256
    · obtain ⟨hlt1, hlt2⟩ := hlt
      obtain ⟨y, hy⟩ : ∃ y, cs[i]? = some y := ⟨_, List.getElem?_eq_getElem hlt1⟩
      obtain ⟨b, o, rfl, hbl, hbc⟩ := HV.out i y hy
      have c1 : wr.cell? ⟨b, o + i, none⟩ = some (.int .u64 y) := (HS.out.bel.cell (p := ⟨b, o + i, none⟩) hbl).trans hbc
      have HBE := Lib.hid (fun wx (hb : Below w.heap.size w wx) => (hb.cell (p := ⟨b, o + i, none⟩) hbl).trans hbc)
      have hw0 : IntKind.u64.wrap (i : Int) = (i : Int) := by rw [IntKind.wrap_u64]; omega
      have hnx : AV cs (i + 1) = (AV cs i).store 0 i y := by
        show (AV cs i).store 0 i (cs.getD i 0) = _
        rw [List.getD_eq_getElem?_getD, hy]
        rfl
      have HNX := Lib.hid hnx
      have hfit := AV_fit cs HPOS.out i (by omega)
      have HC := Lib.hid (HS.out.storeP hfit (by omega) (i : Int) y (by omega))
      have HFIT := Lib.hid hfit
      clear hbc hnx hfit hy HS
      generalize hA2 : AV cs (i + 1) = A2 at *
      have HA2 := Lib.hid hA2
      clear hA2
      generalize AV cs i = A1 at *
      go_wp2_with fail
      refine HC.out.mono ?_
      rintro e w4 ⟨rfl, hh⟩
      have c2 : w4.cell? ⟨b, o + i, none⟩ = some (.int .u64 y) := by
        obtain ⟨_, _, hx, _⟩ := hh
        exact HBE.out w4 hx.below
      rw [← HNX.out] at hh
      have HC2 := Lib.hid (hh.storeR HFIT.out (i : Int) y (by omega) HNX.out)
      clear hh HC
      go_wp2_with fail
      refine HC2.out.mono ?_
      rintro e w5 ⟨rfl, hh⟩
      have HS5 := Lib.hid hh
      clear hh HC2
      go_wp2_with fail
      go_roundw
      case rel => exact ⟨i + 1, by go_num, by omega, by omega, by rw [HA2.out]; exact HS5⟩
      case measure => simp [intOf]; omega
    · have hfit := AV_fit cs HPOS.out i (by omega)
      obtain ⟨hA, -, -, hP⟩ := AV_facts cs HPOS.out i
      have hB : Both w bm rm (AV cs i) wr := by
        obtain ⟨F, G, a, _, _, _, e, _⟩ := HS.out
        exact ⟨F, G, a, e⟩
      have HB := Lib.hid hB
      have HVER : Hid (∀ wx z, Both w bm rm (AV cs i) wx → 0 ≤ z → (Calls Try.prog 15 #[.pointer (some ⟨bm, 0, none⟩), .int .u64 z] wx fun e w' => ∃ k v, e = .returned v ∧ Vend (AV cs i) z k ∧ w'.ownsRow wx.heap.size 69 2 v k (verC (AV cs i) z k) ∧ Below wx.heap.size wx w') ∧ Calls Try.prog 18 #[.pointer (some ⟨rm, 0, none⟩), .int .u64 z] wx fun e w' => ∃ k v, e = .returned v ∧ Vend (AV cs i) z k ∧ w'.ownsRow wx.heap.size 69 2 v k (verC (AV cs i) z k) ∧ Below wx.heap.size wx w') := by
        rintro wx z ⟨F, G, a, b⟩ hz
        exact ⟨Versions_any a hfit hA hP hz, RVersions_any b hfit hA hP hz⟩
      clear hfit hA hP hB
      have HEX : Hid (i < cs.length → i = 256) := fun h => by
        rcases Nat.lt_or_ge i 256 with h2 | h2
        · exact absurd ⟨h, h2⟩ hlt
        · omega
      clear hlt HS
      generalize AV cs i = A at *
      by_cases hi : i < cs.length
      · obtain rfl := HEX.out hi
        go_wp2_with fail
        refine ((HVER.out _ x HB.out hx).1).mono ?_
        rintro e w4 ⟨k1, v1, rfl, hk1, ho1, hb4⟩
        obtain ⟨q1, c1, rfl⟩ := bk_form5 ho1
        have HB4 := Lib.hid (HB.out.bl hb4)
        have HK1 := Lib.hid hk1
        have HO1 := Lib.hid ho1
        clear hk1 ho1 hb4 HB
        go_wp2_with fail
        refine ((HVER.out _ (x % 256) HB4.out (by omega)).1).mono ?_
        rintro e w5 ⟨k2, v2, rfl, hk2, ho2, hb5⟩
        obtain ⟨q2, c2, rfl⟩ := bk_form5 ho2
        have HB5 := Lib.hid (HB4.out.bl hb5)
        have HK2 := Lib.hid hk2
        have HO2 := Lib.hid ho2
        have HO15 := Lib.hid (row_bl HO1.out hb5)
        clear hk2 ho2 hb5 HB4 HO1
        go_wp2_with fail
        refine (live9_any _).mono ?_
        rintro e w6 ⟨rfl, hb6⟩
        have HB6 := Lib.hid (HB5.out.bl hb6)
        have HO16 := Lib.hid (row_bl HO15.out hb6)
        have HO26 := Lib.hid (row_bl HO2.out hb6)
        clear hb6 HB5 HO15 HO2
        go_wp2_with fail
        refine ((HVER.out _ x HB6.out hx).2).mono ?_
        rintro e w7 ⟨k3, v3, rfl, hk3, ho3, hb7⟩
        obtain rfl := hk3.eq HK1.out
        obtain ⟨q3, c3, rfl⟩ := bk_form5 ho3
        have HB7 := Lib.hid (HB6.out.bl hb7)
        have HO27 := Lib.hid (row_bl HO26.out hb7)
        have HSM := Lib.hid (SameV_yes (row_bl HO16.out hb7) ho3 (by have := HK1.out.le; omega))
        clear hk3 ho3 hb7 HB6 HO16 HO26
        go_wp2_with fail
        refine HSM.out.mono ?_
        rintro e w8 ⟨rfl, d8, hw8⟩
        have hb8 : Below w7.heap.size w7 w8 := by
          rw [hw8]
          exact ((Fr.refl (fun _ => False) w7).drawn d8).below (fun _ _ e => e)
        have HB8 := Lib.hid (HB7.out.bl hb8)
        have HO28 := Lib.hid (row_bl HO27.out hb8)
        clear hw8 hb8 HB7 HO27 HSM
        go_wp2_with fail
        refine ((HVER.out _ (x % 256) HB8.out (by omega)).2).mono ?_
        rintro e w9 ⟨k4, v4, rfl, hk4, ho4, hb9⟩
        obtain rfl := hk4.eq HK2.out
        obtain ⟨q4, c4, rfl⟩ := bk_form5 ho4
        have HB9 := Lib.hid (HB8.out.bl hb9)
        have HSM := Lib.hid (SameV_yes (row_bl HO28.out hb9) ho4 (by have := HK2.out.le; omega))
        clear hk4 ho4 hb9 HB8 HO28
        go_wp2_with fail
        refine HSM.out.mono ?_
        rintro e wa ⟨rfl, da, hwa⟩
        have hba : Below w9.heap.size w9 wa := by
          rw [hwa]
          exact ((Fr.refl (fun _ => False) w9).drawn da).below (fun _ _ e => e)
        have HBA := Lib.hid (HB9.out.bl hba).bel
        clear hwa hba HB9 HSM
        go_wp2_with fail
        refine (Versions_nil _ _).mono ?_
        rintro e wb ⟨rfl, rfl⟩
        go_wp2
        go_ret
        exact ⟨rfl, HBA.out⟩
      · obtain rfl : i = cs.length := by omega
        go_wp2_with fail
        refine ((HVER.out _ x HB.out hx).1).mono ?_
        rintro e w4 ⟨k1, v1, rfl, hk1, ho1, hb4⟩
        obtain ⟨q1, c1, rfl⟩ := bk_form5 ho1
        have HB4 := Lib.hid (HB.out.bl hb4)
        have HK1 := Lib.hid hk1
        have HO1 := Lib.hid ho1
        clear hk1 ho1 hb4 HB
        go_wp2_with fail
        refine ((HVER.out _ (x % 256) HB4.out (by omega)).1).mono ?_
        rintro e w5 ⟨k2, v2, rfl, hk2, ho2, hb5⟩
        obtain ⟨q2, c2, rfl⟩ := bk_form5 ho2
        have HB5 := Lib.hid (HB4.out.bl hb5)
        have HK2 := Lib.hid hk2
        have HO2 := Lib.hid ho2
        have HO15 := Lib.hid (row_bl HO1.out hb5)
        clear hk2 ho2 hb5 HB4 HO1
        go_wp2_with fail
        refine (live9_any _).mono ?_
        rintro e w6 ⟨rfl, hb6⟩
        have HB6 := Lib.hid (HB5.out.bl hb6)
        have HO16 := Lib.hid (row_bl HO15.out hb6)
        have HO26 := Lib.hid (row_bl HO2.out hb6)
        clear hb6 HB5 HO15 HO2
        go_wp2_with fail
        refine ((HVER.out _ x HB6.out hx).2).mono ?_
        rintro e w7 ⟨k3, v3, rfl, hk3, ho3, hb7⟩
        obtain rfl := hk3.eq HK1.out
        obtain ⟨q3, c3, rfl⟩ := bk_form5 ho3
        have HB7 := Lib.hid (HB6.out.bl hb7)
        have HO27 := Lib.hid (row_bl HO26.out hb7)
        have HSM := Lib.hid (SameV_yes (row_bl HO16.out hb7) ho3 (by have := HK1.out.le; omega))
        clear hk3 ho3 hb7 HB6 HO16 HO26
        go_wp2_with fail
        refine HSM.out.mono ?_
        rintro e w8 ⟨rfl, d8, hw8⟩
        have hb8 : Below w7.heap.size w7 w8 := by
          rw [hw8]
          exact ((Fr.refl (fun _ => False) w7).drawn d8).below (fun _ _ e => e)
        have HB8 := Lib.hid (HB7.out.bl hb8)
        have HO28 := Lib.hid (row_bl HO27.out hb8)
        clear hw8 hb8 HB7 HO27 HSM
        go_wp2_with fail
        refine ((HVER.out _ (x % 256) HB8.out (by omega)).2).mono ?_
        rintro e w9 ⟨k4, v4, rfl, hk4, ho4, hb9⟩
        obtain rfl := hk4.eq HK2.out
        obtain ⟨q4, c4, rfl⟩ := bk_form5 ho4
        have HB9 := Lib.hid (HB8.out.bl hb9)
        have HSM := Lib.hid (SameV_yes (row_bl HO28.out hb9) ho4 (by have := HK2.out.le; omega))
        clear hk4 ho4 hb9 HB8 HO28
        go_wp2_with fail
        refine HSM.out.mono ?_
        rintro e wa ⟨rfl, da, hwa⟩
        have hba : Below w9.heap.size w9 wa := by
          rw [hwa]
          exact ((Fr.refl (fun _ => False) w9).drawn da).below (fun _ _ e => e)
        have HBA := Lib.hid (HB9.out.bl hba).bel
        clear hwa hba HB9 HSM
        go_wp2_with fail
        refine (Versions_nil _ _).mono ?_
        rintro e wb ⟨rfl, rfl⟩
        go_wp2
        go_ret
        exact ⟨rfl, HBA.out⟩
end
end Go.Proofs.Ytenlgfagfpaenaa

/-
  The book's Alone: no row shows in another. No condition.
-/
import Derived.Test.YtfbdgodebeggbaaBookNil
import Derived.Deep.MidRow
import Derived.Deep.Cut
import Derived.Test.YtfbdgodebeggbaaBookU
namespace Go.Proofs.Ytfbdgodebeggbaa
open Go Go.RowKit
set_option linter.unusedSimpArgs false
set_option linter.unusedVariables false
section
variable {w w' wx : World} {B bk : Nat} {cs : Array Value}
theorem fr_setCells (b : Nat) : ∀ (vs : List Value) (o : Nat) (w : World), Fr (fun k => k = b) w (w.setCells b o vs)
  | [], _, w => Fr.refl _ w
  | v :: r, o, w => by
    rw [World.setCells]
    exact ((Fr.refl (fun k => k = b) w).put (p := ⟨b, o, none⟩) (.inl rfl) v).trans (fr_setCells b r (o + 1) _)
set_option maxHeartbeats 4000000 in
set_option maxRecDepth 100000 in
theorem BookAloneU_any {lvU : Value} {LU : List Value} {CU : Nat → List Value} {labU : Nat → Nat} (hb : Blk w bk 81 #[.slice none 0 0, .slice none 0 0, .slice none 0 0, lvU, .slice none 0 0, .slice none 0 0, .slice none 0 0, .slice none 0 0, .slice none 0 0, .slice none 0 0, .slice none 0 0, .slice none 0 0, .slice none 0 0, .slice none 0 0, .slice none 0 0, .slice none 0 0, .slice none 0 0, .slice none 0 0, .slice none 0 0, .slice none 0 0]) (hlU : w.ownsRow B 57 1 lvU LU.length LU) (hpU : Pcs w 22 B labU LU CU) (hnU : LU.length ≤ 1000000) (hlenU : ∀ j, (CU j).length ≤ 1000000000) (hB : B ≤ w.heap.size) :
    Calls Try.prog 34 #[.pointer (some ⟨bk, 0, none⟩)] w fun e w' => e = .returned (.bool true) ∧ Fr (fun k => k = bk ∨ inL LU k) w w' := by
  have hbk : ¬ inL LU bk := by
    rintro ⟨v, hv, e⟩
    obtain ⟨j, hj, rfl⟩ := List.getElem_of_mem hv
    exact own_ne (hpU.own j _ (List.getElem?_eq_getElem hj)) hb (by decide) e
  have HA := Lib.hid (aloneU hb rfl hlU hpU hB hnU hlenU)
  have HB := Lib.hid hb
  clear hb hlU hpU hlenU
  go_enter Try.func34, Try.ntmps34
  go_wp2_with fail
  refine (aloneBytes_nil (HB.out.cell 0)).mono ?_
  rintro e w2 ⟨rfl, rfl⟩
  go_wp2_with fail
  refine (aloneTexts_nil (HB.out.cell 1)).mono ?_
  rintro e w2 ⟨rfl, rfl⟩
  go_wp2_with fail
  refine (aloneInts_nil (HB.out.cell 2)).mono ?_
  rintro e w2 ⟨rfl, rfl⟩
  go_wp2_with fail
  refine HA.out.mono ?_
  rintro e w1 ⟨rfl, hf⟩
  have HB1 := Lib.hid (HB.out.fr hf hbk)
  have HF := Lib.hid hf
  clear hf HA HB
  as_aux_lemma =>
    go_wp2_with fail
    refine (alonePairs_nil (HB1.out.cell 4)).mono ?_
    rintro e w2 ⟨rfl, rfl⟩
    go_wp2_with fail
    refine (aloneEvents_nil (HB1.out.cell 5)).mono ?_
    rintro e w2 ⟨rfl, rfl⟩
    go_wp2_with fail
    refine (aloneSpans_nil (HB1.out.cell 6)).mono ?_
    rintro e w2 ⟨rfl, rfl⟩
    go_wp2_with fail
    refine (aloneSlots_nil (HB1.out.cell 7)).mono ?_
    rintro e w2 ⟨rfl, rfl⟩
    as_aux_lemma =>
      go_wp2_with fail
      refine (aloneVersions_nil (HB1.out.cell 8)).mono ?_
      rintro e w2 ⟨rfl, rfl⟩
      go_wp2_with fail
      refine (aloneBools_nil (HB1.out.cell 9)).mono ?_
      rintro e w2 ⟨rfl, rfl⟩
      go_wp2_with fail
      refine (aloneAccesses_nil (HB1.out.cell 10)).mono ?_
      rintro e w2 ⟨rfl, rfl⟩
      go_wp2_with fail
      refine (aloneOps_nil (HB1.out.cell 11)).mono ?_
      rintro e w2 ⟨rfl, rfl⟩
      as_aux_lemma =>
        go_wp2_with fail
        refine (aloneAnswers_nil (HB1.out.cell 12)).mono ?_
        rintro e w2 ⟨rfl, rfl⟩
        go_wp2_with fail
        refine (aloneDids_nil (HB1.out.cell 13)).mono ?_
        rintro e w2 ⟨rfl, rfl⟩
        go_wp2_with fail
        refine (aloneUint64Lists_nil (HB1.out.cell 14)).mono ?_
        rintro e w2 ⟨rfl, rfl⟩
        go_wp2_with fail
        refine (aloneIntLists_nil (HB1.out.cell 15)).mono ?_
        rintro e w2 ⟨rfl, rfl⟩
        as_aux_lemma =>
          go_wp2_with fail
          refine (aloneTextLists_nil (HB1.out.cell 16)).mono ?_
          rintro e w2 ⟨rfl, rfl⟩
          go_wp2_with fail
          refine (aloneBoolLists_nil (HB1.out.cell 17)).mono ?_
          rintro e w2 ⟨rfl, rfl⟩
          go_wp2_with fail
          refine (aloneOpLists_nil (HB1.out.cell 18)).mono ?_
          rintro e w2 ⟨rfl, rfl⟩
          go_wp2_with fail
          refine (aloneAnswerLists_nil (HB1.out.cell 19)).mono ?_
          rintro e w2 ⟨rfl, rfl⟩
          have HT : Hid (w1.there bk 0 20) := fun j hj => ⟨by
              rw [Nat.zero_add, HB1.out.cell j]
              rw [Array.getElem?_eq_getElem (by simpa using hj)]; rfl, by rw [Nat.zero_add]; exact HB1.out.cold j⟩
          have HE : Hid (∀ vs, Fr (fun k => k = bk ∨ inL LU k) w (w1.setCells bk 0 vs)) := fun vs => (HF.out.mono (fun _ _ e => .inr e)).trans ((fr_setCells bk vs 0 w1).mono (fun _ _ e => .inl e))
          clear HB1
          go_upto_region 2 with fail
          refine wp_region_lit ?_
          refine wpList_plain rfl fun K hK => ?_
          go_simp
          refine hK _ _ ?_
          clear hK K
          refine wpList_plain rfl fun K hK => ?_
          go_simp
          refine hK _ _ ?_
          clear hK K
          refine wpList_plain rfl fun K hK => ?_
          go_simp
          refine hK _ _ ?_
          clear hK K
          refine wpList_store_mid rfl _ _ _ rfl bk 0 #[.slice none 0 0, .slice none 0 0, .slice none 0 0, .slice none 0 0, .slice none 0 0, .slice none 0 0, .slice none 0 0, .slice none 0 0, .slice none 0 0, .slice none 0 0, .slice none 0 0, .slice none 0 0, .slice none 0 0, .slice none 0 0, .slice none 0 0, .slice none 0 0, .slice none 0 0, .slice none 0 0, .slice none 0 0, .slice none 0 0] (by rfl) (by rfl) HT.out (by kernel_rfl) (by simp [Value.oneCell']) ?_
          go_wp2
          go_ret
          exact ⟨rfl, HE.out _⟩
end
end Go.Proofs.Ytfbdgodebeggbaa

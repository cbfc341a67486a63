/-
  The book's Alone: no row shows in another. No condition.
-/
import Derived.Test.YtkaplifhaafpdaaGreatMBookNil
import Derived.Deep.MidRow
import Derived.Deep.Cut
import Derived.Test.YtkaplifhaafpdaaGreatMBookI
import Derived.Test.YtkaplifhaafpdaaGreatMBookE
namespace Go.Proofs.YtkaplifhaafpdaaGreat
open Go Go.RowKit
set_option linter.unusedSimpArgs false
set_option linter.unusedVariables false
section
variable {w w' wx : World} {B bk : Nat} {cs : Array Value}
theorem fr_setCells (b : Nat) : ∀ (vs : List Value) (o : Nat) (w : World), Fr (fun k => k = b) w (w.setCells b o vs)
  | [], _, w => Fr.refl _ w
  | v :: r, o, w => by
    rw [World.setCells]
    exact ((Fr.refl (fun k => k = b) w).put (p := ⟨b, o, none⟩) (.inl rfl) v).trans (fr_setCells b r (o + 1) _)
set_option maxHeartbeats 4000000 in
set_option maxRecDepth 100000 in
theorem BookAloneIE_any {lvI lvE : Value} {LI LE : List Value} {CI CE : Nat → List Value} {NE labI labE : Nat → Nat} (hb : Blk w bk 51 #[.slice none 0 0, .slice none 0 0, lvI, .slice none 0 0, .slice none 0 0, lvE, .slice none 0 0, .slice none 0 0, .slice none 0 0, .slice none 0 0, .slice none 0 0, .slice none 0 0, .slice none 0 0, .slice none 0 0, .slice none 0 0, .slice none 0 0, .slice none 0 0, .slice none 0 0, .slice none 0 0, .slice none 0 0]) (hlI : w.ownsRow B 23 1 lvI LI.length LI) (hpI : Pcs w 3 B labI LI CI) (hnI : LI.length ≤ 10000000) (hlenI : ∀ j, (CI j).length ≤ 1000000000) (hlE : w.ownsRow B 59 1 lvE LE.length LE) (hpE : Pcz w 97 4 B labE LE NE CE) (hnE : LE.length ≤ 10000000) (hlenE : ∀ j, NE j ≤ 1000000000) (hB : B ≤ w.heap.size) :
    Calls Tryz.prog 13 #[.pointer (some ⟨bk, 0, none⟩)] w fun e w' => e = .returned (.bool true) ∧ Fr (fun k => k = bk ∨ inL LI k ∨ inL LE k) w w' := by
  have hbk : ¬ inL LI bk := by
    rintro ⟨v, hv, e⟩
    obtain ⟨j, hj, rfl⟩ := List.getElem_of_mem hv
    exact own_ne (hpI.own j _ (List.getElem?_eq_getElem hj)) hb (by decide) e
  have hbkE : ¬ inL LE bk := by
    rintro ⟨v, hv, e⟩
    obtain ⟨j, hj, rfl⟩ := List.getElem_of_mem hv
    exact own_ne (hpE.own j _ (List.getElem?_eq_getElem hj)) hb (by decide) e
  have hti : ∀ k, inL LI k → ∃ cs, Blk w k 3 cs := by
    rintro k ⟨v, hv, e⟩
    obtain ⟨j, hj, rfl⟩ := List.getElem_of_mem hv
    exact bk_blk (hpI.own j _ (List.getElem?_eq_getElem hj)) e
  have HEV : Hid (∀ w1, Fr (inL LI) w w1 → Calls Tryz.prog 39 #[.pointer (some ⟨bk, 0, none⟩)] w1 fun e w' => e = .returned (.bool true) ∧ Fr (inL LE) w1 w') := by
    intro w1 hf
    refine aloneE (hb.fr hf hbk) rfl (own_fr hlE hf fun g e hi => ?_) (hpE.fr hf fun k hk hi => ?_) (Nat.le_trans hB hf.size) hnE hlenE
    · obtain ⟨cs1, h1⟩ := hti g hi
      exact own_ne hlE h1 (by decide) e
    · obtain ⟨cs1, h1⟩ := hti k hi
      obtain ⟨v, hv, e⟩ := hk
      obtain ⟨j, hj, rfl⟩ := List.getElem_of_mem hv
      exact own_ne (hpE.own j _ (List.getElem?_eq_getElem hj)) h1 (by decide) e
  have HA := Lib.hid (aloneI hb rfl hlI hpI hB hnI hlenI)
  have HB := Lib.hid hb
  clear hb hlI hpI hlenI hlE hpE hlenE hti
  go_enter Tryz.func13, Tryz.ntmps13
  go_wp2_with fail
  refine (aloneBytes_nil (HB.out.cell 0)).mono ?_
  rintro e w2 ⟨rfl, rfl⟩
  go_wp2_with fail
  refine (aloneTexts_nil (HB.out.cell 1)).mono ?_
  rintro e w2 ⟨rfl, rfl⟩
  go_wp2_with fail
  refine HA.out.mono ?_
  rintro e w1 ⟨rfl, hf⟩
  have HB1 := Lib.hid (HB.out.fr hf hbk)
  have HF := Lib.hid hf
  clear hf HA HB
  go_wp2_with fail
  refine (aloneUint64s_nil (HB1.out.cell 3)).mono ?_
  rintro e w2 ⟨rfl, rfl⟩
  as_aux_lemma =>
    go_wp2_with fail
    refine (alonePairs_nil (HB1.out.cell 4)).mono ?_
    rintro e w2 ⟨rfl, rfl⟩
    go_wp2_with fail
    refine (HEV.out w1 HF.out).mono ?_
    rintro e w3 ⟨rfl, hf3⟩
    have HB3 := Lib.hid (HB1.out.fr hf3 hbkE)
    have HF3 : Hid (Fr (fun k => inL LI k ∨ inL LE k) w w3) := (HF.out.mono (fun _ _ e => .inl e)).trans (hf3.mono (fun _ _ e => .inr e))
    clear HB1 HF hf3
    go_wp2_with fail
    refine (aloneSpans_nil (HB3.out.cell 6)).mono ?_
    rintro e w2 ⟨rfl, rfl⟩
    go_wp2_with fail
    refine (aloneSlots_nil (HB3.out.cell 7)).mono ?_
    rintro e w2 ⟨rfl, rfl⟩
    as_aux_lemma =>
      go_wp2_with fail
      refine (aloneVersions_nil (HB3.out.cell 8)).mono ?_
      rintro e w2 ⟨rfl, rfl⟩
      go_wp2_with fail
      refine (aloneBools_nil (HB3.out.cell 9)).mono ?_
      rintro e w2 ⟨rfl, rfl⟩
      go_wp2_with fail
      refine (aloneAccesses_nil (HB3.out.cell 10)).mono ?_
      rintro e w2 ⟨rfl, rfl⟩
      go_wp2_with fail
      refine (aloneOps_nil (HB3.out.cell 11)).mono ?_
      rintro e w2 ⟨rfl, rfl⟩
      as_aux_lemma =>
        go_wp2_with fail
        refine (aloneAnswers_nil (HB3.out.cell 12)).mono ?_
        rintro e w2 ⟨rfl, rfl⟩
        go_wp2_with fail
        refine (aloneDids_nil (HB3.out.cell 13)).mono ?_
        rintro e w2 ⟨rfl, rfl⟩
        go_wp2_with fail
        refine (aloneUint64Lists_nil (HB3.out.cell 14)).mono ?_
        rintro e w2 ⟨rfl, rfl⟩
        go_wp2_with fail
        refine (aloneIntLists_nil (HB3.out.cell 15)).mono ?_
        rintro e w2 ⟨rfl, rfl⟩
        as_aux_lemma =>
          go_wp2_with fail
          refine (aloneTextLists_nil (HB3.out.cell 16)).mono ?_
          rintro e w2 ⟨rfl, rfl⟩
          go_wp2_with fail
          refine (aloneBoolLists_nil (HB3.out.cell 17)).mono ?_
          rintro e w2 ⟨rfl, rfl⟩
          go_wp2_with fail
          refine (aloneOpLists_nil (HB3.out.cell 18)).mono ?_
          rintro e w2 ⟨rfl, rfl⟩
          go_wp2_with fail
          refine (aloneAnswerLists_nil (HB3.out.cell 19)).mono ?_
          rintro e w2 ⟨rfl, rfl⟩
          have HT : Hid (w3.there bk 0 20) := fun j hj => ⟨by
              rw [Nat.zero_add, HB3.out.cell j]
              rw [Array.getElem?_eq_getElem (by simpa using hj)]; rfl, by rw [Nat.zero_add]; exact HB3.out.cold j⟩
          have HE : Hid (∀ vs, Fr (fun k => k = bk ∨ inL LI k ∨ inL LE k) w (w3.setCells bk 0 vs)) := fun vs => (HF3.out.mono (fun _ _ e => .inr e)).trans ((fr_setCells bk vs 0 w3).mono (fun _ _ e => .inl e))
          clear HB3
          go_upto_region 2 with fail
          refine wp_region_lit ?_
          refine wpList_plain rfl fun K hK => ?_
          go_simp
          refine hK _ _ ?_
          clear hK K
          refine wpList_plain rfl fun K hK => ?_
          go_simp
          refine hK _ _ ?_
          clear hK K
          refine wpList_plain rfl fun K hK => ?_
          go_simp
          refine hK _ _ ?_
          clear hK K
          refine wpList_store_mid rfl _ _ _ rfl bk 0 #[.slice none 0 0, .slice none 0 0, .slice none 0 0, .slice none 0 0, .slice none 0 0, .slice none 0 0, .slice none 0 0, .slice none 0 0, .slice none 0 0, .slice none 0 0, .slice none 0 0, .slice none 0 0, .slice none 0 0, .slice none 0 0, .slice none 0 0, .slice none 0 0, .slice none 0 0, .slice none 0 0, .slice none 0 0, .slice none 0 0] (by rfl) (by rfl) HT.out (by kernel_rfl) (by simp [Value.oneCell']) ?_
          go_wp2
          go_ret
          exact ⟨rfl, HE.out _⟩
end
end Go.Proofs.YtkaplifhaafpdaaGreat

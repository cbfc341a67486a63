/-
  MixOwn: digits that are told are the caller's. No condition.
-/
import Derived.Test.YtjjoncfbddakkaaBookAloneI
import Derived.Test.YtjjoncfbddakkaaMixF
namespace Go.Proofs.Ytjjoncfbddakkaa
open Go Go.RowKit
set_option linter.unusedSimpArgs false
set_option linter.unusedVariables false
/-- the digits of one and the other, in turn -/
def turns (a b : BitVec 64) : Nat → List Value := fun j => if j % 2 = 0 then dvs a else dvs b
/-- what the book keeps after so many -/
structure KB (w0 w : World) (bk : Nat) (a b : BitVec 64) (n : Nat) (lv : Value) (L : List Value) (lab : Nat → Nat) : Prop where
  len : L.length = n
  blk : Blk w bk 59 #[.slice none 0 0, .slice none 0 0, lv, .slice none 0 0, .slice none 0 0, .slice none 0 0, .slice none 0 0, .slice none 0 0, .slice none 0 0, .slice none 0 0, .slice none 0 0, .slice none 0 0, .slice none 0 0, .slice none 0 0, .slice none 0 0, .slice none 0 0, .slice none 0 0, .slice none 0 0, .slice none 0 0, .slice none 0 0]
  row : w.ownsRow w0.heap.size 34 1 lv L.length L
  pcs : Pcs w 3 w0.heap.size lab L (turns a b)
  bel : Below w0.heap.size w0 w
  pos : w0.heap.size ≤ bk
section
variable {w0 w w' : World} {bk n : Nat} {a b x : BitVec 64} {lv v : Value} {L : List Value} {lab : Nat → Nat}
theorem KB.take (h : KB w0 w bk a b n lv L lab) (hx : turns a b n = dvs x) (hn : n ≤ 100) :
    (Calls Try.prog 25 #[.int .u64 (U x)] w fun e w1 => ∃ p c, e = .returned (.slice p 11 c) ∧
      Calls Try.prog 28 #[.pointer (some ⟨bk, 0, none⟩), .slice p 11 c] w1 fun e w' => e = .returned (.tuple #[]) ∧ ∃ lv' L' lab', KB w0 w' bk a b (n + 1) lv' L' lab') := by
  refine (Digits_any x w).mono ?_
  rintro e w1 ⟨v, rfl, hv, hb⟩
  obtain ⟨p, c, rfl⟩ := bk_form hv
  refine ⟨p, c, rfl, ?_⟩
  have hC : turns a b L.length = dvs x := by rw [h.len]; exact hx
  have hf : Fr (fun _ => False) w w1 := Fr.of_below hb
  obtain ⟨lab', hp⟩ := h.pcs.snoc hb h.bel.size (by rw [hC]; exact hv)
  have hbk := h.blk.fr hf (fun e => e)
  have hrow := own_fr h.row hf (fun _ _ e => e)
  refine (takeI (lv := lv) hbk rfl hrow (Nat.le_trans h.bel.size hb.size) p 11 c (by have := h.len; omega)).mono ?_
  rintro e w2 ⟨rfl, lv', b2, r2, f2, g2⟩
  refine ⟨rfl, lv', L ++ [.slice p 11 c], lab', by simp [h.len], b2, by simpa using r2, hp.take hbk hrow (by decide) (by decide) f2, ?_, h.pos⟩
  refine (h.bel.trans (hb.mono h.bel.size)).trans (f2.to_below (Nat.le_trans h.bel.size hb.size) ?_)
  rintro k hk (rfl | e)
  · have := h.pos; omega
  · have := (hrow.lt k e).1; omega
set_option maxHeartbeats 2000000 in
set_option maxRecDepth 100000 in
theorem MixOwn_any (a b : BitVec 64) (w : World) : Calls Try.prog 8 #[.int .u64 (U a), .int .u64 (U b)] w fun e w' => e = .returned (.bool true) ∧ Below w.heap.size w w' := by
  go_enter Try.func8, Try.ntmps8
  go_wp2_with fail
  refine (live_any w).mono ?_
  rintro e w1 ⟨rfl, hb1⟩
  go_wp2_with fail
  have hs := hb1.size
  have K0 : KB w (w1.alloc (.cells #[.slice none 0 0, .slice none 0 0, .slice none 0 0, .slice none 0 0, .slice none 0 0, .slice none 0 0, .slice none 0 0, .slice none 0 0, .slice none 0 0, .slice none 0 0, .slice none 0 0, .slice none 0 0, .slice none 0 0, .slice none 0 0, .slice none 0 0, .slice none 0 0, .slice none 0 0, .slice none 0 0, .slice none 0 0, .slice none 0 0] 59)) w1.heap.size a b 0 (.slice none 0 0) [] (fun _ => 0) :=
    ⟨rfl, Blk.made w1 _ _, World.ownsRow_nil _ _ _ _, ⟨fun j v hj => by simp at hj, fun j v g hj => by simp at hj⟩, hb1.alloc hs _, hs⟩
  clear hb1
  generalize w1.alloc _ = w2 at *
  generalize w1.heap.size = bk at *
  go_loopw [6] (fun s6 wr => ∃ k lv L lab, s6 = .int .i64 (k : Nat) ∧ k ≤ 3 ∧ KB w wr bk a b (2 * k) lv L lab) (fun s6 _ => 3 - (intOf s6).toNat)
  case atStart => exact ⟨0, _, _, _, rfl, by decide, K0⟩
  case round =>
    clear K0
    obtain ⟨k, lv, L, lab, rfl, hk, hK⟩ := hrel
    by_cases hlt : k < 3
    · have HT := Lib.hid (hK.take (x := a) (by simp [turns]) (by omega))
      clear hK
      go_wp2_with fail
      refine HT.out.mono ?_
      rintro e w3 ⟨p, c, rfl, h3⟩
      have H3 := Lib.hid h3
      clear h3 HT
      go_wp2_with fail
      refine H3.out.mono ?_
      rintro e w4 ⟨rfl, lv4, L4, lab4, h4⟩
      have HT2 := Lib.hid (h4.take (x := b) (by simp [turns]) (by omega))
      clear h4 H3
      go_wp2_with fail
      refine HT2.out.mono ?_
      rintro e w5 ⟨p5, c5, rfl, h5⟩
      have H5 := Lib.hid h5
      clear h5 HT2
      go_wp2_with fail
      refine H5.out.mono ?_
      rintro e w6 ⟨rfl, lv6, L6, lab6, h6⟩
      clear H5
      go_wp2_with fail
      go_roundw
      case rel => exact ⟨k + 1, lv6, L6, lab6, by go_num, by omega, by rw [show 2 * (k + 1) = 2 * k + 1 + 1 from by omega]; exact h6⟩
      case measure => simp [intOf]; omega
    · obtain rfl : k = 3 := by omega
      have HA := Lib.hid (BookAloneI_any (CI := turns a b) hK.blk hK.row hK.pcs (by have := hK.len; omega) (by intro j; unfold turns; split <;> simp [dvs_len]) hK.bel.size)
      have hS : ∀ k, k < w.heap.size → ¬ (k = bk ∨ inL L k) := by
        rintro k hk (rfl | ⟨v, hv, e⟩)
        · have := hK.pos; omega
        · obtain ⟨j, hj, rfl⟩ := List.getElem_of_mem hv
          have := ((hK.pcs.own j _ (List.getElem?_eq_getElem hj)).lt k e).1
          omega
      have HB : Hid (∀ w', Fr (fun k => k = bk ∨ inL L k) wr w' → Below w.heap.size w w') := fun w' hf => hK.bel.trans (hf.to_below hK.bel.size hS)
      clear hK hS
      go_wp2_with fail
      refine HA.out.mono ?_
      rintro e w3 ⟨rfl, hf3⟩
      have hb := HB.out _ hf3
      clear HA HB hf3
      go_wp2_with fail
      refine (Digits_any a _).mono ?_; rintro e w4 ⟨v2, rfl, h2, hb2⟩; replace hb := hb.trans (hb2.mono hb.size); clear hb2
      obtain ⟨p2, cap2, rfl, hr2, hc2, hm2, hlt2⟩ := own_Rd h2
      clear h2
      go_wp2_with fail
      refine (refDigits_any a _).mono ?_; rintro e w5 ⟨v3, rfl, h3, hb3⟩; replace hb := hb.trans (hb3.mono hb.size)
      obtain ⟨p3, cap3, rfl, hr3, hc3, hm3, hlt3⟩ := own_Rd h3
      replace hr2 := hr2.below hb3 (fun x hx => (hlt2 x hx).2)
      clear h3 hb3
      have hl : 11 = ((List.range 11).map fun i : Nat => dgI a (i : Int)).length := by simp
      rw [dvs_iv] at hr2 hr3
      have Hl := Lib.hid hl
      clear hl
      go_wp2_with fail
      refine (SameInts_any _ _ _ _ _ _ _ _ Hl.out Hl.out _ (by omega) hr2 hr3).mono ?_; rintro e w' ⟨rfl, nq, rfl⟩
      rw [show (((List.range 11).map fun i : Nat => dgI a (i : Int)) == ((List.range 11).map fun i : Nat => dgI a (i : Int))) = true from beq_self_eq_true _]
      go_wp2_with fail
      go_ret
      exact ⟨rfl, below_draws hb nq⟩
end
end Go.Proofs.Ytjjoncfbddakkaa

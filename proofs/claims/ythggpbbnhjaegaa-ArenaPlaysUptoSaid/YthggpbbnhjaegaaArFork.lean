/-
  A plain memory's fork: another one of the same, with an empty trace. No condition.
-/
import Derived.Test.YthggpbbnhjaegaaBookW
import Derived.Test.YthggpbbnhjaegaaArClone
import Derived.Test.YthggpbbnhjaegaaArOps
import Derived.Deep.RegionHeld3
namespace Go.Proofs.Ythggpbbnhjaegaa
open Go Go.RowKit
set_option linter.unusedSimpArgs false
set_option linter.unusedVariables false
/-- the same cells, nothing told -/
def Mem.forked (A : Mem) : Mem := { A with trace := [] }
section
variable {w w' w1 : World} {F G S : Nat → Prop} {bm q r v g B : Nat} {A : Mem} {th made : Int} {vs : List Int} {av tv u : Value} {rows : List (Acc × Value)}
/-- a plain row of cells lies at q -/
def PQ (w : World) (B q : Nat) (A : Mem) : Prop := ∃ r cap sp, A.cells.length ≤ cap ∧ Blk w q 60 #[.slice (some ⟨r, 0, none⟩) A.cells.length cap, .int .i64 A.next] ∧ Blk w r 33 (us A.cells ++ sp).toArray ∧ B ≤ q ∧ B ≤ r
theorem PQ.below (h : PQ w B q A) (hb : Below w.heap.size w w') : PQ w' B q A := let ⟨r, cap, sp, h1, h2, h3, h4, h5⟩ := h; ⟨r, cap, sp, h1, h2.below hb, h3.below hb, h4, h5⟩
theorem own_split {v' : Value} {n : Nat} {xs : List Value} (h : w.ownsRow B 33 1 v' n xs) (hn : 0 < n) : ∃ g cap sp, v' = .slice (some ⟨g, 0, none⟩) n cap ∧ n ≤ cap ∧ B ≤ g ∧ Blk w g 33 (xs ++ sp).toArray := by
  rcases h.2 with ⟨_, h0⟩ | ⟨g, cap, cur, h1, hb, hh, hc, _, hs, ht⟩
  · omega
  · refine ⟨g, cap, cur.toList.drop n, h1, hc, hb, ?_⟩
    have : xs ++ cur.toList.drop n = cur.toList := by rw [← ht, Nat.mul_one, List.take_append_drop]
    rw [this]; exact hh
theorem bel_drew (hb : Below w.drew.heap.size w.drew w') : Below w.heap.size w w' := ⟨hb.os, hb.tape, hb.output, hb.size, hb.block⟩
theorem pfork_x (h : PMx w F bm q r tv rows A) (hn0 : 0 < A.cells.length) (hn : A.cells.length ≤ 4194304) :
    Calls Try.prog 84 #[.pointer (some ⟨q, 0, none⟩)] w fun e w' => ∃ q', e = .returned (.iface 58 (.pointer (some ⟨q', 0, none⟩))) ∧ PQ w' w.heap.size q' A ∧ Below w.heap.size w w' := by
  obtain ⟨cp, hcp, hbQ⟩ := h.bQ'
  obtain ⟨sp, hbR⟩ := h.bR'
  have hvr : VR w.drew (.slice (some ⟨r, 0, none⟩) A.cells.length cp) A.cells := by
    refine .inr ⟨r, cp, rfl, hbR.lt, fun j u hu => ?_⟩
    have h1 : Blk w.drew r 33 (us A.cells ++ sp).toArray := hbR
    rw [h1.cell j]
    have := (List.getElem?_eq_some_iff.1 hu).1
    simpa [List.getElem?_append_left this] using hu
  have HC := Lib.hid (CloneU_own hvr (by omega))
  have hS : ∀ w', Below w.drew.heap.size w.drew w' → w'.cell? ⟨q, 0, none⟩ = some (.slice (some ⟨r, 0, none⟩) A.cells.length cp) ∧ w'.cell? ⟨q, 1, none⟩ = some (.int .i64 A.next) := by
    intro w' hb
    have := Blk.below (w := w.drew) hbQ hb
    exact ⟨this.cell 0, this.cell 1⟩
  have HS := Lib.hid hS
  have c0 := (hS _ (Below.refl _ _)).1
  have c1 := (hS _ (Below.refl _ _)).2
  have HE : Hid (∀ v' w1, w1.ownsRow w.drew.heap.size 33 1 v' A.cells.length (us A.cells) → Below w.drew.heap.size w.drew w1 → ∃ vp vc, v' = .slice vp A.cells.length vc ∧ PQ (w1.alloc (.cells #[v', .int .i64 A.next] 60)) w.heap.size w1.heap.size A ∧ Below w.heap.size w (w1.alloc (.cells #[v', .int .i64 A.next] 60))) := by
    intro v' w1 hv hb
    obtain ⟨g, cap, sp', rfl, hc, hg, hB⟩ := own_split hv hn0
    have hb' := bel_drew hb
    exact ⟨_, _, rfl, ⟨g, cap, sp', hc, Blk.made w1 _ _, hB.alloc _, hb'.size, hg⟩, hb'.alloc hb'.size _⟩
  clear hvr hS h hbQ hbR
  generalize A.cells.length = n at *
  generalize (A.next : Int) = x at *
  go_enter Try.func84, Try.ntmps84
  go_wp2_with fail
  go_region_held3 (fun w' => w'.cell? ⟨q, 0, none⟩ = some (.slice (some ⟨r, 0, none⟩) n cp) ∧ w'.cell? ⟨q, 1, none⟩ = some (.int .i64 x))
    (first | exact ⟨c0, c1⟩ | exact HS.out _ hb | exact HS.out _ (hb.alloc hb.size _))
    (first | ((with_reducible refine HC.out.mono ?_); rintro e w1 ⟨v', rfl, hv', hb⟩; obtain ⟨vp, vc, rfl, HP, HB⟩ := HE.out _ _ hv' hb))
  all_goals
    go_wp2
    go_ret
    exact ⟨_, rfl, HP, HB⟩
theorem Fork_x (h : PMx w F bm q r tv rows A) (hn0 : 0 < A.cells.length) (hn : A.cells.length ≤ 4194304) :
    Calls Try.prog 8 #[.pointer (some ⟨bm, 0, none⟩)] w fun e w' => ∃ bm', e = .returned (.pointer (some ⟨bm', 0, none⟩)) ∧ PM w' (fun b => w.heap.size ≤ b) bm' A.forked ∧ Below w.heap.size w w' := by
  have HF := Lib.hid (pfork_x (w := w.drew) (h.fr ((Fr.refl (fun _ => False) w).drawn 1) (fun _ _ e => e)) hn0 hn)
  have hS : ∀ w', Below w.drew.heap.size w.drew w' → w'.cell? ⟨bm, 0, none⟩ = some (.iface 58 (.pointer (some ⟨q, 0, none⟩))) ∧ w'.cell? ⟨bm, 1, none⟩ = some (.bool false) := by
    intro w' hb
    have := Blk.below (w := w.drew) h.bM hb
    exact ⟨this.cell 0, this.cell 1⟩
  have HS := Lib.hid hS
  have c0 := (hS _ (Below.refl _ _)).1
  have c1 := (hS _ (Below.refl _ _)).2
  have HE : Hid (∀ q' w1, PQ w1 w.drew.heap.size q' A → Below w.drew.heap.size w.drew w1 → PM (w1.alloc (.cells #[.iface 58 (.pointer (some ⟨q', 0, none⟩)), .bool false, .slice none 0 0] 57)) (fun b => w.heap.size ≤ b) w1.heap.size A.forked ∧ Below w.heap.size w (w1.alloc (.cells #[.iface 58 (.pointer (some ⟨q', 0, none⟩)), .bool false, .slice none 0 0] 57))) := by
    intro q' w1 hq hb
    have hb' := bel_drew hb
    obtain ⟨r', cap, sp, h1, h2, h3, h4, h5⟩ := hq
    refine ⟨⟨q', r', .slice none 0 0, [], Blk.made w1 _ _, ⟨cap, h1, h2.alloc _⟩, ⟨sp, h3.alloc _⟩, World.ownsRow_nil _ _ _ _, rfl, (by intro x hx; cases hx), hb'.size, h4, h5, (by intro g e; cases e)⟩, hb'.alloc hb'.size _⟩
  clear hS h
  go_enter Try.func8, Try.ntmps8
  go_wp2_with fail
  go_region_held3 (fun w' => w'.cell? ⟨bm, 0, none⟩ = some (.iface 58 (.pointer (some ⟨q, 0, none⟩))) ∧ w'.cell? ⟨bm, 1, none⟩ = some (.bool false))
    (first | exact ⟨c0, c1⟩ | exact HS.out _ hb | exact HS.out _ (hb.alloc hb.size _))
    (first | ((with_reducible refine HF.out.mono ?_); rintro e w1 ⟨q', rfl, hq, hb⟩))
  all_goals
    go_wp2
    go_ret
    exact ⟨_, rfl, HE.out _ _ hq hb⟩
end
end Go.Proofs.Ythggpbbnhjaegaa

/-
  The walks of mix's iterator over a key's digits and of Common, which ranges over it. Nothing that lay in memory turns. No condition.
-/
import Derived.RangeFuncNested
import Derived.RangeFuncBound
import Derived.RangeFuncCalls
import Derived.RangeFuncLeaves
import Derived.RangeFuncBox
import Derived.Shelf.Abstract
import Derived.Shelf.RegionOpen
import Derived.WalkKit
import Derived.OwnWalkIn
import Derived.TacticsInMore
import Derived.LoopNIn
import Derived.LoopIn
import Derived.Maps.AppendAt
import Derived.Test.YtjjoncfbddakkaaMixB
namespace Go.Proofs.Ytjjoncfbddakkaa
open Go Pl Go.RowKit Go.Shelf
attribute [local go_sem] Oper.semAt_some

/-- the digits, with their levels -/
def lds (x : BitVec 64) : List (Int × Int) := (List.range 11).map fun i : Nat => ((i : Int), dgI x (i : Int))
theorem lds_len (x : BitVec 64) : (lds x).length = 11 := by simp [lds]
abbrev encs2 (p : Int × Int) : Array Value := #[.int .i64 p.1, .int .i64 p.2]
theorem lds_take (x : BitVec 64) (k : Nat) (hk : k < 11) : (lds x).take k ++ [((k : Int), dgI x (k : Int))] = (lds x).take (k + 1) := by
  rw [List.take_succ_eq_append_getElem (by rw [lds_len]; exact hk)]
  simp [lds]
/-- the cell of the captured number stays -/
def KpC (Bn : Nat) (W W' : World) : Prop := W'.cell? ⟨Bn, 0, none⟩ = W.cell? ⟨Bn, 0, none⟩
theorem KpC_t {Bn : Nat} {A B C : World} (h : KpC Bn A B) (k : KpC Bn B C) : KpC Bn A C := Eq.trans k h
theorem KpC_b {Bn : Nat} {w : World} (hn : Bn < w.heap.size) (W : World) (l : Nat) (o o' : Obj) (hl : w.heap.size ≤ l) (h : W.heap[l]? = some o) (h1 : o.isCells = false) (h2 : o.isWalk = false) : KpC Bn W (W.putObj l o') :=
  (belowK_b (n₀ := w.heap.size) (Nat.le_refl _) W l o o' hl h h1 h2).cell (p := ⟨Bn, 0, none⟩) hn
set_option maxRecDepth 100000 in
set_option maxHeartbeats 1000000 in
theorem all1_in (n : Nat) (hn : 1 ≤ n) (l Bn : Nat) (x : BitVec 64) (J Jx : List (Int × Int) → World → Prop)
    (hY : ∀ pre p W, J pre W → pre.length < 11 → YieldAt Fence.wide (n - 1) Try.prog l #[.int .i64 p.1, .int .i64 p.2] W fun e W' =>
      (e = .returned (.bool true) ∧ J (pre ++ [p]) W' ∧ KpC Bn W W') ∨ (e = .returned (.bool false) ∧ Jx (pre ++ [p]) W'))
    (W : World) (hBn : W.cell? ⟨Bn, 0, none⟩ = some (.int .u64 (U x))) (h0 : J [] W) :
    CallsIn Fence.wide n Try.prog 62 #[.func (.yield l) #[] #[], .pointer (some ⟨Bn, 0, none⟩)] W fun e W' => (∃ v, e = .returned v) ∧
      ((∃ ys, ys = lds x ∧ J ys W') ∨ (∃ pre, pre <+: lds x ∧ Jx pre W')) := by
  refine callsIn_of_wp Try.func62 rfl trivial ?_ rfl
  simp only [Try.ntmps62, List.size_toArray, List.length_cons, List.length_nil, Nat.reduceAdd, Nat.reduceSub, Array.replicate_succ, Array.replicate_zero, List.push_toArray, List.append_toArray, List.nil_append, List.cons_append]
  gi_wp2
  gi_loopw [4] (fun i wr => ∃ (k : Nat), k ≤ 11 ∧ i = .int .i64 (k : Int) ∧ J ((lds x).take k) wr ∧ wr.cell? ⟨Bn, 0, none⟩ = some (.int .u64 (U x)))
    (fun i wr => 11 - (intOf i).toNat)
  case atStart =>
    exact ⟨0, by decide, rfl, h0, hBn⟩
  case round =>
    obtain ⟨k, hk, rfl, hJs, hc⟩ := hrel
    by_cases hk2 : k < 11
    · have hlen : ((lds x).take k).length < 11 := by rw [List.length_take, lds_len]; omega
      obtain ⟨fn, tmps, assign, body, hy, hR⟩ := hY ((lds x).take k) ((k : Int), dgI x (k : Int)) wr hJs hlen
      dsimp only at hy
      rw [lds_take x k hk2] at hR
      gi_wp2_with (refine ⟨trivial, ?_⟩; gi_at_call 22; refine (callsIn_wide.2 (Digit_any x (k : Int) _)).mono ?_; rintro e w' ⟨rfl, rfl⟩)
      refine hR.mono ?_
      rintro e W3 (⟨rfl, hJ3, hk3⟩ | ⟨rfl, hJx3⟩)
      · have hc3 : W3.cell? ⟨Bn, 0, none⟩ = some (.int .u64 (U x)) := Eq.trans hk3 hc
        gi_wp2
        go_roundw
        case rel => exact ⟨k + 1, by omega, by go_num, hJ3, hc3⟩
        case measure => simp [intOf]; omega
      · gi_wp2
        refine bodyPost_ret (results_none rfl _ _ _) rfl ?_
        exact ⟨⟨_, rfl⟩, .inr ⟨_, List.take_prefix _ _, hJx3⟩⟩
    · obtain rfl : k = 11 := by omega
      gi_wp2
      go_end0
      exact ⟨⟨_, rfl⟩, .inl ⟨_, by rw [List.take_of_length_le (by rw [lds_len]; exact Nat.le_refl _)], hJs⟩⟩

theorem all_in (x : BitVec 64) (w : World) :
    Calls Try.prog 41 #[.int .u64 (U x)] w fun e w' => e = .returned (.func (.func 62) #[] #[.pointer (some ⟨w.heap.size, 0, none⟩)]) ∧ w' = w.alloc (.cells #[.int .u64 (U x)] 22) := by
  go_enter Try.func41, Try.ntmps41
  go_wp2
  go_ret
  exact ⟨rfl, rfl⟩
theorem all_stops (n : Nat) (hn : 1 ≤ n) (Bn : Nat) (x : BitVec 64) (w : World) (hBn : Bn < w.heap.size)
    (hc : w.cell? ⟨Bn, 0, none⟩ = some (.int .u64 (U x))) :
    SeqStopsK Fence.wide n Try.prog 62 #[.pointer (some ⟨Bn, 0, none⟩)] encs2 (KpC Bn) (fun ys => ys = lds x) (fun pre => pre <+: lds x) 11 w := fun l J Jx W hW _ _ hY h0 =>
  all1_in n hn l Bn x J Jx hY W ((hW.cell (p := ⟨Bn, 0, none⟩) hBn).trans hc) h0

theorem cell_new_l (W : World) (v : Value) (t : TypeId) : (W.alloc (.cells #[v] t)).cell? ⟨W.heap.size, 0, none⟩ = some v ∧ (W.alloc (.cells #[v] t)).frozen? ⟨W.heap.size, 0, none⟩ = false := by
  simp
theorem cell_alloc_l {W : World} {a : Addr} {v : Value} (o : Obj) (h : W.cell? a = some v) : (W.alloc o).cell? a = some v := cell_kept h (World.grownBy_alloc W o none) (fun r e => by cases e)
theorem frozen_alloc_l {W : World} {a : Addr} {v : Value} (o : Obj) (h : W.cell? a = some v) (hf : W.frozen? a = false) : (W.alloc o).frozen? a = false := (frozen_kept h (World.grownBy_alloc W o none) (fun r e => by cases e)).trans hf
/-- how the first digit that parts is found in what has come -/
theorem cm_pre (a b : BitVec 64) (k : Nat) (hk : k ≤ 11) (h : ∀ p ∈ (lds a).take k, p.2 = dgI b p.1) : ∀ i, i < k → dg a.toNat i = dg b.toNat i := by
  intro i hi
  have hm : ((i : Int), dgI a (i : Int)) ∈ (lds a).take k := by
    rw [List.mem_take_iff_getElem]
    exact ⟨i, by rw [lds_len]; omega, by simp [lds]⟩
  have := h _ hm
  rw [dgI_nat, dgI_nat] at this
  omega
set_option maxRecDepth 100000 in
set_option maxHeartbeats 2000000 in
theorem Common_any (a b : BitVec 64) (w : World) :
    Calls Try.prog 21 #[.int .u64 (U a), .int .u64 (U b)] w fun e w' => e = .returned (.int .i64 (cm a.toNat b.toNat : Int)) ∧ Below w.heap.size w w' := by
  refine (callsIn_wide (n := 6)).1 ?_
  refine callsIn_of_wp_marks Try.func21 rfl trivial ?_ rfl
  simp only [Try.ntmps21, List.size_toArray, List.length_cons, List.length_nil, Nat.reduceAdd, Nat.reduceSub, Array.replicate_succ, Array.replicate_zero, List.push_toArray, List.append_toArray, List.nil_append, List.cons_append]
  gi_wp2_with (refine ⟨trivial, ?_⟩; gi_at_call 41; refine (callsIn_wide.2 (all_in a _)).mono ?_; rintro e w' ⟨rfl, rfl⟩)
  have c0 := cell_new_l w (.int .u64 (U b)) 22
  have c1 := cell_new_l (w.alloc (.cells #[.int .u64 (U b)] 22)) (.int .i64 0) 3
  have c2 := cell_new_l ((w.alloc (.cells #[.int .u64 (U b)] 22)).alloc (.cells #[.int .i64 0] 3)) (.int .u64 (U a)) 22
  simp only [World.size_alloc] at c1 c2
  have hB0 : Below w.heap.size w (((w.alloc (.cells #[.int .u64 (U b)] 22)).alloc (.cells #[.int .i64 0] 3)).alloc (.cells #[.int .u64 (U a)] 22)) := (((Below.refl _ w).alloc (Nat.le_refl _) _).alloc (by simp) _).alloc (by simp; omega) _
  refine wpIn_rangeFunc_ownF rfl (by decide) (gf := 62) (lb := #[.pointer (some ⟨w.heap.size + 1 + 1, 0, none⟩)]) rfl trivial (enters_of Try.func62 (by kernel_rfl) rfl)
    (all_stops 5 (by decide) (w.heap.size + 1 + 1) a _ (by simp) c2.1) KpC_t (KpC_b (by simp)) (Below.refl _ _) (fun _ => rfl)
    (fun pre W => ((∀ p ∈ pre, p.2 = dgI b p.1) ∧ W.cell? ⟨w.heap.size, 0, none⟩ = some (.int .u64 (U b)) ∧ W.cell? ⟨w.heap.size + 1, 0, none⟩ = some (.int .i64 0) ∧ W.frozen? ⟨w.heap.size + 1, 0, none⟩ = false) ∧ Below w.heap.size w W)
    (fun c pre W => (c = .ret ∧ ∃ pre' p, pre = pre' ++ [p] ∧ (∀ q ∈ pre', q.2 = dgI b q.1) ∧ p.2 ≠ dgI b p.1 ∧ W.cell? ⟨w.heap.size + 1, 0, none⟩ = some (.int .i64 p.1)) ∧ Below w.heap.size w W)
    (OwnFrom.and (Own.from (fun s A B row hs hg hr => ⟨hs.1, cell_kept hs.2.1 hg hr, cell_kept hs.2.2.1 hg hr, (frozen_kept hs.2.2.1 hg hr).trans hs.2.2.2⟩) _) (ownFrom_below (Nat.le_refl _) (by simp; omega)))
    (fun c => OwnFrom.and (Own.from (fun s A B row hs hg hr => by obtain ⟨h1, pre', p, h2, h3, h4, h5⟩ := hs; exact ⟨h1, pre', p, h2, h3, h4, cell_kept h5 hg hr⟩) _) (ownFrom_below (Nat.le_refl _) (by simp; omega)))
    ⟨⟨by simp, cell_alloc_l _ (cell_alloc_l _ c0.1), cell_alloc_l _ c1.1, frozen_alloc_l _ c1.1 c1.2⟩, hB0⟩
    (fun x => { tmps := #[.int .u64 (U a), .int .u64 (U b), undef, .pointer (some ⟨w.heap.size, 0, none⟩), .pointer (some ⟨w.heap.size + 1, 0, none⟩), .int .i64 x.1, .int .i64 x.2, .int .u64 (U a), .func (.func 62) #[] #[.pointer (some ⟨w.heap.size + 1 + 1, 0, none⟩)], .int .i64 x.1, .int .i64 x.2, undef, undef, undef, undef, undef, undef], defers := [] }) ?assign ?body ?done ?stop
  case assign =>
    intro l x W K hK
    gi_wp2
    exact hK
  case body =>
    rintro l pre x W ⟨⟨hp, hcw, hcr, hfr⟩, hB⟩ _
    by_cases hx : x.2 = dgI b x.1
    · have hne : (x.2 != dgI b x.1) = false := by simpa using hx
      have Hx := Lib.hid hx
      clear hx
      gi_wp2_with (refine ⟨trivial, ?_⟩; gi_at_call 22; refine (CallsIn.inRound l (callsIn_wide.2 (Digit_any b x.1 _))).mono ?_; rintro e w' ⟨rfl, rfl⟩)
      exact ⟨KeepsOthers.refl _, rfl, ⟨fun y hy => (List.mem_append.1 hy).elim (hp y) (fun e => by simp at e; subst e; exact Hx.out), hcw, hcr, hfr⟩, hB⟩
    · have hne : (x.2 != dgI b x.1) = true := by simpa using hx
      have Hx := Lib.hid hx
      clear hx
      gi_wp2_with (refine ⟨trivial, ?_⟩; gi_at_call 22; refine (CallsIn.inRound l (callsIn_wide.2 (Digit_any b x.1 _))).mono ?_; rintro e w' ⟨rfl, rfl⟩)
      exact ⟨KeepsOthers.setCell _ _ _, ⟨rfl, pre, x, rfl, hp, Hx.out, World.cell?_setCell_same' _ _ _ (by rw [hcr]; rfl)⟩, hB.setCell (p := ⟨w.heap.size + 1, 0, none⟩) (by simp) _⟩
  case done =>
    rintro D ys W hD rfl ⟨⟨hne, _, hcr, hfr⟩, hB⟩ hK
    have hcm : cm a.toNat b.toNat = 11 := cm_eq (Nat.le_refl _) (cm_pre a b 11 (Nat.le_refl _) (fun p hp => hne p (List.mem_of_mem_take hp))) (fun h => absurd h (Nat.lt_irrefl _))
    have Hcm := Lib.hid hcm
    clear hcm hne
    gi_wp2
    have hK' := (KeepsOthers.setCell W ⟨w.heap.size + 1, 0, none⟩ (.int .i64 11)).same D _ hK rfl
    refine ⟨by simp, .inl ⟨_, _, rfl, run_takeDeferred hK', ?_⟩⟩
    have hc5 := cell_kept (World.cell?_setCell_same' W ⟨w.heap.size + 1, 0, none⟩ (.int .i64 11) (by rw [hcr]; rfl)) (grownBy_putObj' _ D (.deferred none)) (fun r e => by cases e; exact ⟨_, hK', rfl⟩)
    refine ⟨.int .i64 11, ?_, by rw [Hcm.out]; rfl, (hB.setCell (p := ⟨w.heap.size + 1, 0, none⟩) (by simp) _).trans (belowK_b (w := w) (Nat.le_refl _) _ D _ _ (by simp at hD; omega) hK' rfl rfl)⟩
    simp [results, Try.f21, go_sem, hc5]
  case stop =>
    rintro D c pre W hD hpre ⟨⟨rfl, pre', p, rfl, hall, hlast, hcr⟩, hB⟩ hK
    have hlen : (pre' ++ [p]).length ≤ 11 := by have := hpre.length_le; rwa [lds_len] at this
    have htake : pre' ++ [p] = (lds a).take (pre'.length + 1) := by
      have := List.prefix_iff_eq_take.1 hpre
      simpa using this
    have hk : pre'.length < 11 := by simp at hlen; omega
    have hsn := lds_take a pre'.length hk
    rw [← htake] at hsn
    have hinj := List.append_inj' hsn rfl
    have hp1 : ((pre'.length : Int), dgI a (pre'.length : Int)) = p := by have := hinj.2; simpa using this
    have hcm : p.1 = (cm a.toNat b.toNat : Int) := by
      have h1 : cm a.toNat b.toNat = pre'.length := cm_eq (by omega) (cm_pre a b _ (by omega) (fun q hq => hall q (hinj.1 ▸ hq))) (fun _ h => hlast (by rw [← hp1]; dsimp only; rw [dgI_nat, dgI_nat, h]))
      rw [← hp1, h1]
    rw [hcm] at hcr
    clear hcm hp1 hinj hsn htake
    gi_wp2
    refine ⟨by simp, .inl ⟨_, _, rfl, run_takeDeferred hK, ?_⟩⟩
    have hc5 := cell_kept hcr (grownBy_putObj' _ D (.deferred none)) (fun r e => by cases e; exact ⟨_, hK, rfl⟩)
    refine ⟨_, ?_, rfl, hB.trans (belowK_b (w := w) (Nat.le_refl _) W D _ _ (by simp at hD; omega) hK rfl rfl)⟩
    simp [results, Try.f21, go_sem, hc5]
end Go.Proofs.Ytjjoncfbddakkaa

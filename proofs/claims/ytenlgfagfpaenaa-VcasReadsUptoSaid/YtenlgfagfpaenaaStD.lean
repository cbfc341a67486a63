/-
  A runner: accesses are written down. No condition.
-/
import Derived.Test.YtenlgfagfpaenaaStC
namespace Go.Proofs.Ytenlgfagfpaenaa
open Go Go.RowKit
set_option linter.unusedSimpArgs false
set_option linter.unusedVariables false
/-- how many steps are written down -/
def atLen (w : World) (rp : Nat) : Nat := match w.cell? ⟨rp, 68, none⟩ with | some (.slice _ n _) => n | _ => 0
theorem infoI : (Try.prog.info? 3).map (fun i => (i.zero, i.size, i.bytes)) = some (some (.int .i64 0), 1, 8) := by kernel_rfl
section
variable {w0 w w' w1 : World} {R S G : Nat → Prop} {rp bm : Nat} {vws : List Nat} {T : List Thr} {steps : Nat} {evs : List Ev} {ats : List Int} {cs : Array Value} {tv ev av u v' : Value}
theorem RX.atLen (h : RX w R rp bm vws T steps evs ats cs tv ev av) : atLen w rp = ats.length := by
  obtain ⟨p, c, rfl⟩ := bk_form h.avo
  unfold Go.Proofs.Ytenlgfagfpaenaa.atLen
  rw [(h.blk.cell 68).trans h.rc.c68]
theorem RStep.next {A : List Int} (h : RStep w0 w w1 R rp bm vws T steps evs A) (h0 : w0.heap.size ≤ w.heap.size) : ∃ ap ac, w1.cell? ⟨rp, 68, none⟩ = some (.slice ap A.length ac) ∧ atLen w1 rp = A.length ∧ rp < w1.heap.size ∧ w.heap.size ≤ w1.heap.size ∧
    (∀ o, (w1.alloc o).ownsRow 0 3 1 (.slice ap A.length ac) A.length (is64 A)) ∧
    ∀ o x g c w2, w2.ownsRow 0 3 1 (.slice (some ⟨g, 0, none⟩) (A.length + 1) c) (A.length + 1) (is64 A ++ [.int .i64 x]) → (w1.alloc o).grownBy w2 (Value.slice ap A.length ac).ownBlock → ((Value.slice ap A.length ac).ownBlock = some g ∨ g = w1.heap.size + 1) →
      w2.cell? ⟨rp, 68, none⟩ = some (.slice ap A.length ac) ∧ w2.frozen? ⟨rp, 68, none⟩ = false ∧ Hid (RStep w0 w (w2.setCell ⟨rp, 68, none⟩ (.slice (some ⟨g, 0, none⟩) (A.length + 1) c)) R rp bm vws T steps evs (A ++ [x]) ∧ atLen (w2.setCell ⟨rp, 68, none⟩ (.slice (some ⟨g, 0, none⟩) (A.length + 1) c)) rp = A.length + 1) := by
  obtain ⟨R1, ⟨⟨cs, tv, ev, av, hx⟩, hp⟩, k1, f1⟩ := h
  obtain ⟨ap, ac, rfl⟩ := bk_form hx.avo
  have hs1 := f1.size
  refine ⟨ap, ac, (hx.blk.cell 68).trans hx.rc.c68, hx.atLen, hx.blk.lt, hs1, fun o => own_fr hx.avo ((Fr.refl (fun _ => False) w1).alloc o) (fun _ _ e => e), ?_⟩
  intro o x g c w2 hown' hgrow hat
  obtain ⟨hx2, f2, c2, z2⟩ := hx.push68 o hown' hgrow hat
  refine ⟨c2, z2, ?_, ?_⟩
  · obtain ⟨R2, o2, k2, f3⟩ := hx2.toStep (w0 := w0) hp (Nat.le_trans h0 hs1) f2
    exact ⟨R2, o2, fun b hb hn => k2 b (Nat.lt_of_lt_of_le hb hs1) (k1 b hb hn), ⟨f3.os.trans f1.os, f3.tape.trans f1.tape, f3.output.trans f1.output, Nat.le_trans f1.size f3.size, fun k hk hn => (f3.block k (Nat.lt_of_lt_of_le hk f1.size) (k1 k hk hn)).trans (f1.block k hk hn)⟩⟩
  · unfold Go.Proofs.Ytenlgfagfpaenaa.atLen
    rw [World.cell?_setCell_same _ _ _ c2]
theorem pad_next (ats : List Int) (k : Nat) (x : Int) : ats ++ List.replicate (k + 1) x = ats ++ List.replicate k x ++ [x] := by rw [List.replicate_succ', List.append_assoc]
set_option maxHeartbeats 2000000 in
set_option maxRecDepth 100000 in
theorem snote_any (h : RO w0 w R rp bm vws T steps evs ats) (h0 : w0.heap.size ≤ w.heap.size) (step : Int) (ahead now : Nat) (h1 : ats.length ≤ 1000000000) (h2 : ahead ≤ 1000000000) (h3 : now ≤ 1000000000) :
    Calls Try.prog 80 #[.pointer (some ⟨rp, 0, none⟩), .int .i64 step, .int .i64 (ahead : Int), .int .i64 (now : Int)] w fun e w' => e = .returned (.tuple #[]) ∧ RStep w0 w w' R rp bm vws T steps evs (noted ats step ahead now) := by
  obtain ⟨i0, hi, hz0, hz1, hz2⟩ := info_parts infoI
  have H := Lib.hid h
  clear h
  go_enter Try.func80, Try.ntmps80
  go_wp2_with fail
  go_loopw [] (fun wr => ∃ (k : Nat), k ≤ ahead - ats.length ∧ RStep w0 w wr R rp bm vws T steps evs (ats ++ List.replicate k (-1))) (fun wr => ahead - atLen wr rp)
  case atStart => exact ⟨0, Nat.zero_le _, by simpa using H.out.refl⟩
  case round =>
    obtain ⟨k, hk, hS⟩ := hrel
    have hlen : (ats ++ List.replicate k (-1 : Int)).length = ats.length + k := by simp
    obtain ⟨ap, ac, c1, hal, hrl, hs1, hown, hE⟩ := hS.next h0
    rw [hlen] at c1 hal hown hE
    by_cases hlt : ats.length + k < ahead
    · have HE := Lib.hid (hE (.cells #[.int .i64 (-1)] 3) (-1))
      have hown := hown (.cells #[.int .i64 (-1)] 3)
      have HAL := Lib.hid hal
      clear hS hlen hal hE
      go_wp2_with (at_builtin; refine wpList_append_lies _ rfl _ _ 54 rfl 0 3 i0 _ 1 8 Try.underlying54 hi hz0 hz1 hz2 rfl (by decide) _ (ats.length + k) _ rfl hown ⟨wr.heap.size, 0, none⟩ 1 1 [.int .i64 (-1)] rfl rfl (cell_one_new _ _ _) (by simp [Value.oneCell']) (by decide) (by unfold maxLen; omega) (by omega) (Nat.zero_le _) (wr.heap.size + 1) (by simp) ?_; intro g c w2 hown' hgrow hat _; obtain ⟨q1, q2, HH⟩ := HE.out g c w2 hown' hgrow hat; clear hown' hgrow hat)
      go_roundw
      case rel => exact ⟨k + 1, by omega, by rw [pad_next]; exact HH.out.1⟩
      case measure => rw [HH.out.2, HAL.out]; omega
    · have hkk : k = ahead - ats.length := by omega
      rw [hkk] at hS
      have HC2 := Lib.hid hS
      obtain ⟨wo, rfl⟩ : ∃ wo : World, wo = wr := ⟨_, rfl⟩
      clear hlen hal hE hown hkk hS
      go_wp2_with fail
      have hln : (ats ++ List.replicate (ahead - ats.length) (-1 : Int)).length = ats.length + (ahead - ats.length) := by simp
      have HLN := Lib.hid hln
      clear hln
      go_loopw [] (fun wr => ∃ (k : Nat), k ≤ now - (ats.length + (ahead - ats.length)) ∧ RStep w0 w wr R rp bm vws T steps evs ((ats ++ List.replicate (ahead - ats.length) (-1)) ++ List.replicate k step)) (fun wr => now - atLen wr rp)
      case atStart => exact ⟨0, Nat.zero_le _, by simpa using HC2.out⟩
      case round =>
        obtain ⟨j, hj, hS⟩ := hrel
        have hlen : ((ats ++ List.replicate (ahead - ats.length) (-1 : Int)) ++ List.replicate j step).length = ats.length + (ahead - ats.length) + j := by rw [List.length_append, HLN.out, List.length_replicate]
        obtain ⟨bp, bc, c1, hal, hrl, hs1, hown, hE⟩ := hS.next h0
        rw [hlen] at c1 hal hown hE
        have hm : ∃ m, m = ats.length + (ahead - ats.length) := ⟨_, rfl⟩
        obtain ⟨m, hm⟩ := hm
        have hmb : m ≤ 2000000000 := by omega
        rw [← hm] at c1 hal hown hE hj hlen
        have HM := Lib.hid hm
        clear hm
        by_cases hlt2 : m + j < now
        · have HE := Lib.hid (hE (.cells #[.int .i64 step] 3) step)
          have hown := hown (.cells #[.int .i64 step] 3)
          have HAL := Lib.hid hal
          clear hS hlen hal hE
          go_wp2_with (at_builtin; refine wpList_append_lies _ rfl _ _ 54 rfl 0 3 i0 _ 1 8 Try.underlying54 hi hz0 hz1 hz2 rfl (by decide) _ (m + j) _ rfl hown ⟨wr.heap.size, 0, none⟩ 1 1 [.int .i64 step] rfl rfl (cell_one_new _ _ _) (by simp [Value.oneCell']) (by decide) (by unfold maxLen; omega) (by omega) (Nat.zero_le _) (wr.heap.size + 1) (by simp) ?_; intro g c w2 hown' hgrow hat _; obtain ⟨q1, q2, HH⟩ := HE.out g c w2 hown' hgrow hat; clear hown' hgrow hat)
          go_roundw
          case rel => exact ⟨j + 1, by rw [← HM.out]; omega, by rw [pad_next]; exact HH.out.1⟩
          case measure => rw [HH.out.2, HAL.out]; omega
        · have hjj : j = now - m := by omega
          rw [hjj, HM.out] at hS
          have HF := Lib.hid hS
          clear hlen hal hE hown hjj hS
          go_wp2_with fail
          go_end0
          exact ⟨rfl, HF.out⟩
end
end Go.Proofs.Ytenlgfagfpaenaa

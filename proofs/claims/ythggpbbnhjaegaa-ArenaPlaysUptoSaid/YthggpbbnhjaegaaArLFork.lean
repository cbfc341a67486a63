/-
  A live memory's fork. No condition.
-/
import Derived.Test.YthggpbbnhjaegaaArLNew
import Derived.Test.YthggpbbnhjaegaaRNil
namespace Go.Proofs.Ythggpbbnhjaegaa
open Go Go.RowKit
set_option linter.unusedSimpArgs false
set_option linter.unusedVariables false
def fk (l : List Int) (k : Nat) : List Int := l.take k ++ List.replicate (l.length - k) 0
section
variable {w w' w1 : World} {F G S : Nat → Prop} {bm q r v g : Nat} {A A' : Mem}
theorem fk_len (l : List Int) (k : Nat) (hk : k ≤ l.length) : (fk l k).length = l.length := by simp [fk]; omega
theorem fk_set (l : List Int) (k : Nat) (hk : k < l.length) : (us (fk l k)).toArray.setIfInBounds k (.int .u64 (l.getD k 0)) = (us (fk l (k + 1))).toArray := by
  have e : (fk l k).set k (l.getD k 0) = fk l (k + 1) := by
    have h1 : (l.take k).length = k := by rw [List.length_take]; omega
    unfold fk
    rw [List.set_append_right _ _ (by omega), h1, Nat.sub_self]
    obtain ⟨m, hm⟩ : ∃ m, l.length - k = m + 1 := ⟨l.length - k - 1, by omega⟩
    rw [hm, List.replicate_succ, List.set_cons_zero, show l.length - (k + 1) = m by omega]
    have h2 : l.take (k + 1) = l.take k ++ [l[k]] := by rw [List.take_add_one, List.getElem?_eq_getElem hk]; rfl
    rw [h2, List.append_assoc]
    simp [List.getD_eq_getElem?_getD, List.getElem?_eq_getElem hk]
  rw [← e]
  simp [us, List.map_set]
set_option maxHeartbeats 4000000 in
set_option maxRecDepth 100000 in
theorem s_fork (h : SMx w F bm q r A) (hn0 : 0 < A.cells.length) (hn : A.cells.length ≤ 4194304) :
    Calls Try.prog 64 #[.pointer (some ⟨q, 0, none⟩)] w fun e w' => ∃ q' r', e = .returned (.iface 43 (.pointer (some ⟨q', 0, none⟩))) ∧ Hid (Blk w' q' 51 #[.slice (some ⟨r', 0, none⟩) A.cells.length A.cells.length, .int .i64 A.next] ∧ Blk w' r' 109 (us A.cells).toArray ∧ w.heap.size ≤ q' ∧ w.heap.size ≤ r' ∧ Below w.heap.size w w') := by
  have hmk := run_words A.cells.length hn
  obtain ⟨wA, hwA⟩ : ∃ wA, wA = (w.alloc (.cells (us (List.replicate A.cells.length 0)).toArray 109)).alloc (.cells #[.slice (some ⟨w.heap.size, 0, none⟩) A.cells.length A.cells.length, .int .i64 0] 51) := ⟨_, rfl⟩
  have b0 : Below w.heap.size w (w.alloc (.cells (us (List.replicate A.cells.length 0)).toArray 109)) := (Below.refl _ _).alloc (Nat.le_refl _) _
  have bA : Below w.heap.size w wA := by rw [hwA]; exact b0.alloc b0.size _
  have bRA : Blk wA w.heap.size 109 (us (fk A.cells 0)).toArray := by rw [hwA]; exact ((Blk.made w _ _).alloc _).eq (by simp [fk])
  have bQA : Blk wA (w.heap.size + 1) 51 #[.slice (some ⟨w.heap.size, 0, none⟩) A.cells.length A.cells.length, .int .i64 0] := by
    rw [hwA]
    have := Blk.made (w.alloc (.cells (us (List.replicate A.cells.length 0)).toArray 109)) 51 #[.slice (some ⟨w.heap.size, 0, none⟩) A.cells.length A.cells.length, .int .i64 0]
    simpa using this
  have c0 : w.cell? ⟨q, 0, none⟩ = some (.slice (some ⟨r, 0, none⟩) A.cells.length A.cells.length) := h.bQ.cell 0
  have HL := Lib.hid (I_Load (w := wA.drew) (a := ⟨q, 1, none⟩) (x := A.next) (show wA.cell? ⟨q, 1, none⟩ = some (.int .i64 A.next) from tcell (w := w) (h.bQ.cell 1) bA))
  have HST := Lib.hid (I_Store (w := wA.drew) (a := ⟨w.heap.size + 1, 1, none⟩) (y := A.next) (u := .int .i64 0) (bQA.cell 1) (bQA.cold 1))
  have HB1 : Hid (Blk (wA.drew.setCell ⟨w.heap.size + 1, 1, none⟩ (.int .i64 A.next)) w.heap.size 109 (us (fk A.cells 0)).toArray ∧ Blk (wA.drew.setCell ⟨w.heap.size + 1, 1, none⟩ (.int .i64 A.next)) (w.heap.size + 1) 51 #[.slice (some ⟨w.heap.size, 0, none⟩) A.cells.length A.cells.length, .int .i64 A.next] ∧ Below w.heap.size w (wA.drew.setCell ⟨w.heap.size + 1, 1, none⟩ (.int .i64 A.next))) :=
    ⟨(bRA.drawn 1).far (p := ⟨w.heap.size + 1, 1, none⟩) (by simp) _, ((bQA.drawn 1).put 1 (.int .i64 A.next)).eq rfl, bA.drew.setCell (p := ⟨w.heap.size + 1, 1, none⟩) (by simp) _⟩
  have HQ : Hid (∀ wx, Below w.heap.size w wx → wx.cell? ⟨q, 0, none⟩ = some (.slice (some ⟨r, 0, none⟩) A.cells.length A.cells.length)) := fun wx hb => tcell c0 hb
  have HRC : Hid (∀ wx, Below w.heap.size w wx → ∀ k : Nat, k < A.cells.length → wx.cell? ⟨r, k, none⟩ = some (.int .u64 (A.cells.getD k 0))) := fun wx hb k hk => tcell (h.rowcell hk) hb
  have HWA := Lib.hid hwA
  clear h hwA b0 bA bRA bQA
  go_enter Try.func64, Try.ntmps64
  go_upto_region 2 with fail
  rw [← HWA.out]
  clear c0 hmk
  go_cut [20] (fun _ wx => Hid (Blk wx w.heap.size 109 (us (fk A.cells 0)).toArray ∧ Blk wx (w.heap.size + 1) 51 #[.slice (some ⟨w.heap.size, 0, none⟩) A.cells.length A.cells.length, .int .i64 A.next] ∧ Below w.heap.size w wx))
  case first =>
    go_region_held3 (fun _ => True) (exact trivial)
      ((first
        | ((with_reducible refine HST.out.mono ?_); rintro e w5 ⟨rfl, rfl⟩)
        | ((with_reducible refine HL.out.mono ?_); rintro e w4 ⟨rfl, rfl⟩)))
    all_goals
      go_wp2_with fail
      go_meet
      exact HB1
  case rest =>
    have HB := hcut
    clear hcut HB1 HL HST HWA
    have cq := HQ.out wc HB.out.2.2
    go_wp2_with fail
    go_loopw [26, 4] (fun s26 _ wx => ∃ k : Nat, s26 = .int .i64 k ∧ k ≤ A.cells.length ∧ Hid (Blk wx w.heap.size 109 (us (fk A.cells k)).toArray ∧ Blk wx (w.heap.size + 1) 51 #[.slice (some ⟨w.heap.size, 0, none⟩) A.cells.length A.cells.length, .int .i64 A.next] ∧ Below w.heap.size w wx)) (fun s26 _ _ => A.cells.length - (intOf s26).toNat)
    case atStart => exact ⟨0, rfl, Nat.zero_le _, HB⟩
    case round =>
      clear HB cq
      obtain ⟨k, rfl, hk, HB⟩ := hrel
      by_cases hlt : k < A.cells.length
      · have hlt' : decide ((k : Int) < (A.cells.length : Int)) = true := by simp; omega
        have k0 : (0 : Int) ≤ (k : Int) := by omega
        have k1 : (k : Int) < (A.cells.length : Int) := by omega
        have hold : ∃ o, wr.drew.cell? ⟨w.heap.size, k, none⟩ = some o := by
          have hl := fk_len A.cells k hk
          have h1 := HB.out.1.cell k
          refine ⟨(us (fk A.cells k))[k]'(by simp [us]; omega), ?_⟩
          show wr.cell? _ = _
          rw [h1]
          simp [us, show k < (fk A.cells k).length by omega]
        obtain ⟨o, ho⟩ := hold
        have HLD := Lib.hid (U_Load (w := wr.drew) (a := ⟨r, k, none⟩) (HRC.out wr.drew HB.out.2.2.drew k hlt))
        have HST := Lib.hid (U_Store (w := wr.drew) (a := ⟨w.heap.size, k, none⟩) (y := A.cells.getD k 0) ho (HB.out.1.cold k))
        have fS : Fr (fun b => b = w.heap.size) wr (wr.drew.setCell ⟨w.heap.size, k, none⟩ (.int .u64 (A.cells.getD k 0))) := ((Fr.refl (fun b => b = w.heap.size) wr).drawn 1).put (S := fun b => b = w.heap.size) (p := ⟨w.heap.size, k, none⟩) (.inl rfl) _
        have HB2 : Hid (Blk (wr.drew.setCell ⟨w.heap.size, k, none⟩ (.int .u64 (A.cells.getD k 0))) w.heap.size 109 (us (fk A.cells (k + 1))).toArray ∧ Blk (wr.drew.setCell ⟨w.heap.size, k, none⟩ (.int .u64 (A.cells.getD k 0))) (w.heap.size + 1) 51 #[.slice (some ⟨w.heap.size, 0, none⟩) A.cells.length A.cells.length, .int .i64 A.next] ∧ Below w.heap.size w (wr.drew.setCell ⟨w.heap.size, k, none⟩ (.int .u64 (A.cells.getD k 0)))) :=
          ⟨((HB.out.1.drawn 1).put k _).eq (fk_set A.cells k hlt), (HB.out.2.1.drawn 1).far (p := ⟨w.heap.size, k, none⟩) (by simp) _, HB.out.2.2.drew.setCell (p := ⟨w.heap.size, k, none⟩) (Nat.le_refl _) _⟩
        have hbq := HB.out.2.1
        have HS : Hid (∀ wx, Below w.heap.size w wx → Blk wx (w.heap.size + 1) 51 #[.slice (some ⟨w.heap.size, 0, none⟩) A.cells.length A.cells.length, .int .i64 A.next] → (wx.cell? ⟨w.heap.size + 1, 0, none⟩ = some (.slice (some ⟨w.heap.size, 0, none⟩) A.cells.length A.cells.length) ∧ wx.cell? ⟨q, 0, none⟩ = some (.slice (some ⟨r, 0, none⟩) A.cells.length A.cells.length))) := fun wx hb h2 => ⟨h2.cell 0, HQ.out wx hb⟩
        have s1 := HS.out wr.drew HB.out.2.2.drew hbq
        have s0 := HS.out wr HB.out.2.2 hbq
        have s2 := HS.out _ HB2.out.2.2 HB2.out.2.1
        clear ho fS hbq
        generalize A.cells.getD k 0 = y at *
        go_upto_region 6 with fail
        go_region_held3 (fun wx => wx.cell? ⟨w.heap.size + 1, 0, none⟩ = some (.slice (some ⟨w.heap.size, 0, none⟩) A.cells.length A.cells.length) ∧ wx.cell? ⟨q, 0, none⟩ = some (.slice (some ⟨r, 0, none⟩) A.cells.length A.cells.length))
          (first | exact s1 | exact s0 | exact s2)
          ((first
            | ((with_reducible refine HST.out.mono ?_); rintro e w5 ⟨rfl, rfl⟩)
            | ((with_reducible refine HLD.out.mono ?_); rintro e w4 ⟨rfl, rfl⟩)))
        all_goals
          go_wp2_with fail
          go_roundw
          case rel => exact ⟨k + 1, by go_num, by omega, HB2⟩
          case measure => simp [intOf]; omega
      · obtain rfl : k = A.cells.length := by omega
        have hlt' : decide ((A.cells.length : Int) < (A.cells.length : Int)) = false := by simp
        have HE : Hid (Blk wr (w.heap.size + 1) 51 #[.slice (some ⟨w.heap.size, 0, none⟩) A.cells.length A.cells.length, .int .i64 A.next] ∧ Blk wr w.heap.size 109 (us A.cells).toArray ∧ w.heap.size ≤ w.heap.size + 1 ∧ w.heap.size ≤ w.heap.size ∧ Below w.heap.size w wr) :=
          ⟨HB.out.2.1, HB.out.1.eq (by simp [fk]), by omega, by omega, HB.out.2.2⟩
        go_wp2_with fail
        go_ret
        exact ⟨_, _, rfl, HE⟩
theorem LFork_x (h : SMx w F bm q r A) (hn0 : 0 < A.cells.length) (hn : A.cells.length ≤ 4194304) :
    Calls Try.prog 8 #[.pointer (some ⟨bm, 0, none⟩)] w fun e w' => ∃ bm', e = .returned (.pointer (some ⟨bm', 0, none⟩)) ∧ (∃ q' r', SMx w' (fun b => w.heap.size ≤ b) bm' q' r' A) ∧ Below w.heap.size w w' := by
  have HF := Lib.hid (s_fork (w := w.drew) (h.fr ((Fr.refl (fun _ => False) w).drawn 1) (fun _ _ e => e)) hn0 hn)
  have hS : ∀ w', Below w.drew.heap.size w.drew w' → w'.cell? ⟨bm, 0, none⟩ = some (.iface 43 (.pointer (some ⟨q, 0, none⟩))) ∧ w'.cell? ⟨bm, 1, none⟩ = some (.bool true) := by
    intro w' hb
    have := Blk.below (w := w.drew) h.bM hb
    exact ⟨this.cell 0, this.cell 1⟩
  have HS := Lib.hid hS
  have c0 := (hS _ (Below.refl _ _)).1
  have c1 := (hS _ (Below.refl _ _)).2
  have HE : Hid (∀ q' r' w1, Blk w1 q' 51 #[.slice (some ⟨r', 0, none⟩) A.cells.length A.cells.length, .int .i64 A.next] → Blk w1 r' 109 (us A.cells).toArray → w.drew.heap.size ≤ q' → w.drew.heap.size ≤ r' → Below w.drew.heap.size w.drew w1 → (∃ q2 r2, SMx (w1.alloc (.cells #[.iface 43 (.pointer (some ⟨q', 0, none⟩)), .bool true, .slice none 0 0] 57)) (fun b => w.heap.size ≤ b) w1.heap.size q2 r2 A) ∧ Below w.heap.size w (w1.alloc (.cells #[.iface 43 (.pointer (some ⟨q', 0, none⟩)), .bool true, .slice none 0 0] 57))) := by
    intro q' r' w1 h1 h2 h3 h4 hb
    have hb' : Below w.heap.size w w1 := ⟨hb.os, hb.tape, hb.output, hb.size, hb.block⟩
    exact ⟨⟨q', r', Blk.made w1 _ _, h1.alloc _, h2.alloc _, hb'.size, h3, h4⟩, hb'.alloc hb'.size _⟩
  clear hS h
  go_enter Try.func8, Try.ntmps8
  go_wp2_with fail
  go_region_held3 (fun w' => w'.cell? ⟨bm, 0, none⟩ = some (.iface 43 (.pointer (some ⟨q, 0, none⟩))) ∧ w'.cell? ⟨bm, 1, none⟩ = some (.bool true))
    (first | exact ⟨c0, c1⟩ | exact HS.out _ hb | exact HS.out _ (hb.alloc hb.size _))
    (first | ((with_reducible refine HF.out.mono ?_); rintro e w1 ⟨q', r', rfl, HX⟩; have hb := HX.out.2.2.2.2))
  all_goals
    obtain ⟨h1, h2, h3, h4, hb'⟩ := HX.out
    have hz := HE.out _ _ _ h1 h2 h3 h4 hb'
    clear h1 h2 h3 h4 hb'
    go_wp2_with fail
    go_ret
    exact ⟨_, rfl, hz⟩
end
end Go.Proofs.Ythggpbbnhjaegaa

/-
  A live memory's Alloc; a live memory that is made, and what it tells. No condition.
-/
import Derived.Test.YthggpbbnhjaegaaArLView
namespace Go.Proofs.Ythggpbbnhjaegaa
open Go Go.RowKit
set_option linter.unusedSimpArgs false
set_option linter.unusedVariables false
theorem splice_step2 {α : Type} (L : List α) (o : Nat) (xs : List α) {k : Nat} {y : α} (hy : xs[k]? = some y) (ho : o + xs.length ≤ L.length) : splice L o (xs.take (k + 1)) = (splice L o (xs.take k)).set (o + k) y := by
  have hk : k < xs.length := (List.getElem?_eq_some_iff.1 hy).1
  have hl : (xs.take k).length = k := by rw [List.length_take]; omega
  have hl1 : (xs.take (k + 1)).length = k + 1 := by rw [List.length_take]; omega
  have ht : (L.take o).length = o := by rw [List.length_take]; omega
  have hd : L.drop (o + k) = L[o + k]'(by omega) :: L.drop (o + (k + 1)) := List.drop_eq_getElem_cons (by omega)
  unfold splice
  rw [hl, hl1, hd, List.set_append_right _ _ (by omega), ht, show o + k - o = k by omega, List.set_append_right _ _ (by omega), hl, Nat.sub_self, List.set_cons_zero, List.take_add_one, hy]
  simp
theorem us_set2l (L : List Int) (i : Nat) (v : Int) : (us L).toArray.setIfInBounds i (.int .u64 v) = (us (L.set i v)).toArray := by simp [us, List.map_set]
section
variable {w w' w1 : World} {F G S : Nat → Prop} {bm q r v g : Nat} {A A' : Mem} {th made : Int} {vs : List Int} {av : Value}
theorem I_Load {a : Addr} {x : Int} (hc : w.cell? a = some (.int .i64 x)) : Calls Try.prog 70 #[.pointer (some a)] w fun e w' => e = .returned (.int .i64 x) ∧ w = w' := by
  have ha := at_loadi hc
  go_enter Try.func70, Try.ntmps70
  go_wp2
  go_ret
  exact ⟨rfl, rfl⟩
theorem I_Cas {a : Addr} {x y : Int} (hc : w.cell? a = some (.int .i64 x)) (hz : w.frozen? a = false) : Calls Try.prog 71 #[.pointer (some a), .int .i64 x, .int .i64 y] w fun e w' => e = .returned (.bool true) ∧ w' = w.setCell a (.int .i64 y) := by
  have ha := at_casi_hit (y := y) hc hz
  go_enter Try.func71, Try.ntmps71
  go_wp2
  go_ret
  exact ⟨rfl, rfl⟩
theorem s_alloc_no (h : SMx w F bm q r A) (p : Option Addr) (n c : Nat) (hnn : n ≤ 1000000000) (hn : ¬ A.next + n ≤ A.cells.length) (hA : A.next ≤ A.cells.length) (hl : A.cells.length ≤ 4194304) :
    Calls Try.prog 62 #[.pointer (some ⟨q, 0, none⟩), .slice p n c] w fun e w' => e = .returned (.int .u64 0) ∧ w = w' := by
  have c0 : w.cell? ⟨q, 0, none⟩ = some (.slice (some ⟨r, 0, none⟩) A.cells.length A.cells.length) := h.bQ.cell 0
  have c1 : w.cell? ⟨q, 1, none⟩ = some (.int .i64 A.next) := h.bQ.cell 1
  have HL := Lib.hid (I_Load c1)
  have t1 : decide ((A.cells.length : Int) < (A.next : Int) + (n : Int)) = true := by simp; omega
  have ow : wrap64 ((A.next : Int) + (n : Int)) = (A.next : Int) + (n : Int) := by unfold wrap64; omega
  clear h
  generalize A.cells.length = m at *
  generalize A.next = x at *
  go_enter Try.func62, Try.ntmps62
  go_wp2_with fail
  go_loopw [] (fun wr => wr = w) (fun _ => 0)
  case atStart => exact rfl
  case round =>
    obtain rfl := hrel
    go_wp2_with fail
    refine HL.out.mono ?_
    rintro e w' ⟨rfl, rfl⟩
    go_wp2
    go_ret
    exact ⟨rfl, rfl⟩
set_option maxHeartbeats 2000000 in
set_option maxRecDepth 100000 in
theorem s_alloc_yes (h : SMx w F bm q r A) (hv : VA w av vs) (h0 : vs ≠ []) (hoff : Off av F) (hf : A.next + vs.length ≤ A.cells.length) (hl : A.cells.length ≤ 4194304) :
    Calls Try.prog 62 #[.pointer (some ⟨q, 0, none⟩), av] w fun e w' => e = .returned (.int .u64 A.next) ∧ SMx w' F bm q r (A.laid vs) ∧ Fr (fun b => b = q ∨ b = r) w w' := by
  have c0 : w.cell? ⟨q, 0, none⟩ = some (.slice (some ⟨r, 0, none⟩) A.cells.length A.cells.length) := h.bQ.cell 0
  have c1 : w.cell? ⟨q, 1, none⟩ = some (.int .i64 A.next) := h.bQ.cell 1
  have f1 := h.bQ.cold 1
  obtain ⟨p, c, rfl, hv⟩ := hv
  obtain ⟨ad, rfl, hbl, hc⟩ := hv.resolve_left h0
  have hpos : 0 < vs.length := List.length_pos_iff.2 h0
  obtain ⟨ab, ao, spot⟩ := ad
  obtain ⟨y0, hy0⟩ : ∃ y, vs[0]? = some y := ⟨_, List.getElem?_eq_getElem hpos⟩
  have hspot : spot = none := by
    have hc0 := hc 0 (.int .u64 y0) (by simp [us, hy0])
    simpa [Addr.add] using World.cell?_spot hc0
  subst hspot
  have habF : ¬ F ab := hoff _ _ _ rfl
  have hqr : q ≠ r := Blk.ne h.bQ h.bR (by decide)
  have haq : ab ≠ q := fun e => habF (e ▸ h.fQ)
  have har : ab ≠ r := fun e => habF (e ▸ h.fR)
  have HL := Lib.hid (I_Load c1)
  have HC := Lib.hid (I_Cas (y := (A.next : Int) + vs.length) c1 f1)
  have t1 : decide ((A.cells.length : Int) < (A.next : Int) + (vs.length : Int)) = false := by simp; omega
  have ow : wrap64 ((A.next : Int) + (vs.length : Int)) = (A.next : Int) + (vs.length : Int) := by unfold wrap64; omega
  have HUC : Hid (∀ (w' : World), Fr (fun b => b = q ∨ b = r) w w' → ∀ j v, vs[j]? = some v → w'.cell? ⟨ab, ao + j, none⟩ = some (.int .u64 v)) := by
    intro w' hfr j v hj
    have h1 := hc j (.int .u64 v) (by simp [us, hj])
    have e : (⟨ab, ao, none⟩ : Addr).add j = ⟨ab, ao + j, none⟩ := by unfold Addr.add; split <;> simp_all
    rw [e] at h1
    have h2 := hfr.block ab hbl (by rintro (e | e); exact haq e; exact har e)
    unfold World.cell? at h1 ⊢
    rw [h2]; exact h1
  have HH := Lib.hid h
  have hFq : Hid (Fr (fun b => b = q ∨ b = r) w (w.setCell ⟨q, 1, none⟩ (.int .i64 ((A.next : Int) + vs.length)))) := (Fr.refl (fun b => b = q ∨ b = r) w).put (p := ⟨q, 1, none⟩) (.inl (.inl rfl)) _
  have HQ2 : Hid (∀ w', Fr (fun b => b = r) (w.setCell ⟨q, 1, none⟩ (.int .i64 ((A.next : Int) + vs.length))) w' → Blk w' q 51 #[.slice (some ⟨r, 0, none⟩) A.cells.length A.cells.length, .int .i64 ((A.next : Int) + vs.length)]) := fun w' hfr =>
    Blk.fr ((h.bQ.put 1 (.int .i64 ((A.next : Int) + vs.length))).eq rfl) hfr hqr
  have HR2 : Hid (Blk (w.setCell ⟨q, 1, none⟩ (.int .i64 ((A.next : Int) + vs.length))) r 109 (us A.cells).toArray) := h.bR.far (p := ⟨q, 1, none⟩) (fun e => hqr e.symm) _
  have hM2 : Hid (∀ w', Fr (fun b => b = r) (w.setCell ⟨q, 1, none⟩ (.int .i64 ((A.next : Int) + vs.length))) w' → Blk w' bm 57 #[.iface 43 (.pointer (some ⟨q, 0, none⟩)), .bool true, .slice none 0 0]) := fun w' hfr =>
    Blk.fr (h.bM.far (p := ⟨q, 1, none⟩) (Blk.ne h.bM h.bQ (by decide)) _) hfr (Blk.ne h.bM h.bR (by decide))
  have hlaid : (A.laid vs).cells = splice A.cells A.next vs ∧ ((A.laid vs).next : Int) = (A.next : Int) + vs.length := by simp [Mem.laid]
  have HD := Lib.hid hlaid
  have hll : (A.laid vs).cells.length = A.cells.length := by rw [hlaid.1]; exact length_splice _ _ _ hf
  have HDL := Lib.hid hll
  clear hc hv h hlaid hll
  go_enter Try.func62, Try.ntmps62
  go_wp2_with fail
  go_loopw [] (fun wr => wr = w) (fun _ => 0)
  case atStart => exact rfl
  case round =>
    obtain rfl := hrel
    go_wp2_with fail
    refine HL.out.mono ?_
    rintro e w' ⟨rfl, rfl⟩
    go_wp2_with fail
    refine HC.out.mono ?_
    rintro e w2 ⟨rfl, hw2⟩
    have q0 : w2.cell? ⟨q, 0, none⟩ = some (.slice (some ⟨r, 0, none⟩) A.cells.length A.cells.length) := by rw [hw2]; exact (HQ2.out _ (Fr.refl _ _)).cell 0
    have HF2 := Lib.hid (hw2 ▸ hFq.out)
    have HQ3 : Hid (∀ w', Fr (fun b => b = r) w2 w' → Blk w' q 51 #[.slice (some ⟨r, 0, none⟩) A.cells.length A.cells.length, .int .i64 ((A.next : Int) + vs.length)]) := by rw [hw2]; exact HQ2.out
    have HM3 : Hid (∀ w', Fr (fun b => b = r) w2 w' → Blk w' bm 57 #[.iface 43 (.pointer (some ⟨q, 0, none⟩)), .bool true, .slice none 0 0]) := by rw [hw2]; exact hM2.out
    have hR3 : Blk w2 r 109 (us A.cells).toArray := by rw [hw2]; exact HR2.out
    clear hw2
    go_wp2_with fail
    go_loopw [32] (fun i wx => ∃ k : Nat, i = .int .i64 k ∧ k ≤ vs.length ∧ Blk wx r 109 (us (splice A.cells A.next (vs.take k))).toArray ∧ Fr (fun b => b = r) w2 wx) (fun i _ => vs.length - (intOf i).toNat)
    case atStart => exact ⟨0, rfl, Nat.zero_le _, hR3.eq (by simp [splice]), Fr.refl _ _⟩
    case round =>
      obtain ⟨k, rfl, hk, hB, hF⟩ := hrel
      have hF' : Fr (fun b => b = q ∨ b = r) _ _ := HF2.out.trans (hF.mono (fun _ _ e => .inr e))
      by_cases hlt : k < vs.length
      · obtain ⟨y, hy⟩ : ∃ y, vs[k]? = some y := ⟨_, List.getElem?_eq_getElem hlt⟩
        have d1 := HUC.out _ hF' k y hy
        have hsl : (splice A.cells A.next (vs.take k)).length = A.cells.length := length_splice _ _ _ (by rw [List.length_take]; omega)
        have d2 : ∃ old, wr.cell? ⟨r, A.next + k, none⟩ = some (.int .u64 old) := by
          refine ⟨(splice A.cells A.next (vs.take k)).getD (A.next + k) 0, ?_⟩
          rw [hB.cell]
          have hlt2 : A.next + k < (splice A.cells A.next (vs.take k)).length := by omega
          simp [us, List.getD_eq_getElem?_getD, hlt2]
        obtain ⟨old, d2⟩ := d2
        have d3 := hB.cold (A.next + k)
        have HST := Lib.hid (U_Store (y := y) d2 d3)
        have HS := Lib.hid (splice_step2 A.cells A.next vs hy hf)
        have HU := Lib.hid (us_set2l (splice A.cells A.next (vs.take k)) (A.next + k) y)
        have HB := Lib.hid hB
        have k0 : wr.cell? ⟨q, 0, none⟩ = some (.slice (some ⟨r, 0, none⟩) A.cells.length A.cells.length) := (HQ3.out _ hF).cell 0
        have ow4 : wrap64 ((A.next : Int) + (k : Int)) = (A.next : Int) + (k : Int) := by unfold wrap64; omega
        clear hB hsl
        go_wp2_with fail
        refine HST.out.mono ?_
        rintro e w5 ⟨rfl, rfl⟩
        go_wp2_with fail
        go_roundw
        case rel => exact ⟨k + 1, by go_num, by omega, by rw [HS.out]; exact (HB.out.put (A.next + k) (.int .u64 y)).eq HU.out, hF.put (p := ⟨r, A.next + k, none⟩) (.inl rfl) _⟩
        case measure => simp [intOf]; omega
      · obtain rfl : k = vs.length := by omega
        rw [List.take_length] at hB
        have HE := Lib.hid (show SMx _ F bm q r (A.laid vs) from ⟨HM3.out _ hF, by rw [HDL.out, HD.out.2]; exact HQ3.out _ hF, by rw [HD.out.1]; exact hB, HH.out.fM, HH.out.fQ, HH.out.fR⟩)
        have HF' := Lib.hid hF'
        clear hB hF hF'
        go_wp2_with fail
        go_ret
        exact ⟨rfl, HE.out, HF'.out⟩
theorem L_tail {w2 w3 : World} (h1 : SMx w1 F bm q r A) (hv : VW w v bm th made) (hf1 : Fr F w w1) (hFv : ¬ F v) (hb : Below w1.heap.size w1 w2) :
    SMx w2 F bm q r A ∧ VW w2 v bm th made ∧ (VW w3 v bm th (made + 1) → Fr (fun b => b = v) w2 w3 → A'.cells = A.cells → A'.next = A.next → LDid w w3 F bm q r v th made A') := by
  have hfb : Fr (fun _ => False) w1 w2 := Fr.of_below hb
  refine ⟨h1.fr hfb (fun _ _ e => e), (VW.fr hv hf1 hFv).fr hfb (fun e => e), fun k1 k2 k3 k4 => ?_⟩
  exact LDid.of h1 hf1 hFv k1 ((hfb.mono (fun _ _ e => e.elim)).trans k2) k3 k4
set_option maxRecDepth 100000 in
theorem L_Alloc (h : SMx w F bm q r A) (hv : VW w v bm th made) (hFv : ¬ F v) (ha : VA w av vs) (ho : vs ≠ [] → Off av F) (hvl : vs.length ≤ 1000000000) (hA : A.next ≤ A.cells.length) (hn : A.cells.length ≤ 4194304) (hm0 : 0 ≤ made) (hm1 : made ≤ 1000000000) :
    Calls Try.prog 15 #[.pointer (some ⟨v, 0, none⟩), av] w fun e w' => e = .returned (.int .u64 (A.spot vs)) ∧ LDid w w' F bm q r v th made (A.alloc th vs) := by
  have c1 : w.cell? ⟨v, 0, none⟩ = some _ := Blk.cell hv 0
  have d1 : w.cell? ⟨bm, 0, none⟩ = some _ := h.bM.cell 0
  have hrl := h.bR.lt
  have HV := Lib.hid hv
  obtain ⟨p, c, rfl⟩ := ha.cl
  by_cases h0 : vs = []
  · have hfit : A.fits vs = false := by simp [Mem.fits, h0]
    have hres : (A.alloc th vs).cells = A.cells ∧ (A.alloc th vs).next = A.next := by simp [Mem.alloc, Mem.note, hfit]
    have HR := Lib.hid hres
    simp only [Mem.spot, hfit, Bool.false_eq_true, if_false]
    subst h0
    have HC := Lib.hid (CloneV_any ha hvl hrl)
    have HH := Lib.hid h
    simp only [List.length_nil] at *
    clear ha h hfit hres
    go_enter Try.func15, Try.ntmps15
    go_wp2_with fail
    refine HC.out.mono ?_
    rintro e w2 ⟨u, rfl, hu, hb⟩
    obtain ⟨p', c', rfl⟩ := hu.some_slice
    obtain ⟨k1, k2, -⟩ := L_tail (A' := A) (w3 := w2) HH.out HV.out (Fr.refl F w) hFv hb
    have HN := Lib.hid (note_live k1 k2 ⟨0, 5, 0, 0, 0, [], 0, false⟩ _ hu.one hm0 hm1)
    go_wp2_with fail
    refine HN.out.mono ?_
    rintro e w3 ⟨rfl, n1, n2⟩
    go_wp2
    go_ret
    exact ⟨rfl, (L_tail (A' := A.alloc th []) (w3 := w3) HH.out HV.out (Fr.refl F w) hFv hb).2.2 n1 n2 HR.out.1 HR.out.2⟩
  · have hpos : 0 < vs.length := List.length_pos_iff.2 h0
    have t0 : decide ((0 : Int) < (vs.length : Int)) = true := by simpa using hpos
    have hvF : ∀ k, k = q ∨ k = r → F k := by rintro k (rfl | rfl); exact h.fQ; exact h.fR
    by_cases hf : A.next + vs.length ≤ A.cells.length
    · have hfit : A.fits vs = true := by simp [Mem.fits, h0, hf]
      have hres : (A.alloc th vs).cells = (A.laid vs).cells ∧ (A.alloc th vs).next = (A.laid vs).next := by simp [Mem.alloc, Mem.note, hfit]
      have HR := Lib.hid hres
      simp only [Mem.spot, hfit, if_true]
      have HP := Lib.hid (s_alloc_yes h ha h0 (ho h0) hf hn)
      have HA := Lib.hid ha
      have HO := Lib.hid (ho h0)
      clear hfit hres ha h ho hv
      go_enter Try.func15, Try.ntmps15
      go_wp2_with fail
      refine HP.out.mono ?_
      rintro e w1 ⟨rfl, h1, hf1⟩
      have hf1' : Fr F w w1 := hf1.mono (fun k _ hk => hvF k hk)
      have HC := Lib.hid (CloneV_any (HA.out.fr hf1' HO.out) hvl (h1.bR.lt))
      have H1 := Lib.hid h1
      have H2 := Lib.hid hf1'
      clear h1 hf1 hf1'
      go_wp2_with fail
      refine HC.out.mono ?_
      rintro e w2 ⟨u, rfl, hu, hb⟩
      obtain ⟨p', c', rfl⟩ := hu.some_slice
      obtain ⟨k1, k2, -⟩ := L_tail (A' := A) (w3 := w2) H1.out HV.out H2.out hFv hb
      have HN := Lib.hid (note_live k1 k2 ⟨0, 5, A.next, 0, 0, vs, 0, false⟩ _ hu.one hm0 hm1)
      go_wp2_with fail
      refine HN.out.mono ?_
      rintro e w3 ⟨rfl, n1, n2⟩
      go_wp2
      go_ret
      exact ⟨rfl, (L_tail (A' := A.alloc th vs) (w3 := w3) H1.out HV.out H2.out hFv hb).2.2 n1 n2 HR.out.1 HR.out.2⟩
    · have hfit : A.fits vs = false := by simp only [Mem.fits, hf, and_false, decide_false]
      have hres : (A.alloc th vs).cells = A.cells ∧ (A.alloc th vs).next = A.next := by simp [Mem.alloc, Mem.note, hfit]
      have HR := Lib.hid hres
      simp only [Mem.spot, hfit, Bool.false_eq_true, if_false]
      have HP := Lib.hid (s_alloc_no h p vs.length c hvl hf hA hn)
      have HC := Lib.hid (CloneV_any ha hvl hrl)
      have HH := Lib.hid h
      clear hfit hres ha h ho hv
      go_enter Try.func15, Try.ntmps15
      go_wp2_with fail
      refine HP.out.mono ?_
      rintro e w1 ⟨rfl, rfl⟩
      go_wp2_with fail
      refine HC.out.mono ?_
      rintro e w2 ⟨u, rfl, hu, hb⟩
      obtain ⟨p', c', rfl⟩ := hu.some_slice
      obtain ⟨k1, k2, -⟩ := L_tail (A' := A) (w3 := w2) HH.out HV.out (Fr.refl F w) hFv hb
      have HN := Lib.hid (note_live k1 k2 ⟨0, 5, 0, 0, 0, vs, 0, false⟩ _ hu.one hm0 hm1)
      go_wp2_with fail
      refine HN.out.mono ?_
      rintro e w3 ⟨rfl, n1, n2⟩
      go_wp2
      go_ret
      exact ⟨rfl, (L_tail (A' := A.alloc th vs) (w3 := w3) HH.out HV.out (Fr.refl F w) hFv hb).2.2 n1 n2 HR.out.1 HR.out.2⟩
theorem infoT : (Try.prog.info? 109).map (fun i => (i.zero.map (·.cells), i.size, i.bytes)) = some (some #[.int .u64 0], 1, 8) := by kernel_rfl
end
end Go.Proofs.Ythggpbbnhjaegaa

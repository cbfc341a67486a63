/-
  The document's memory that is live: nothing is written down. No condition.
-/
import Derived.Test.YthggpbbnhjaegaaRMore
namespace Go.Proofs.Ythggpbbnhjaegaa
open Go Go.RowKit
set_option linter.unusedSimpArgs false
set_option linter.unusedVariables false
def Mem.mute (A B : Mem) : Mem := { A with trace := B.trace }
section
variable {w w' : World} {F G S : Nat → Prop} {rm r : Nat} {tv v av : Value} {rows : List (Acc × Value)} {A : Mem} {vs : List Int} {lv : Bool}
theorem rnote_live (h : RMx w F rm r tv rows true A) (x : Acc) (u : Value) (hu : Vals w F r u x.vals) (hn : rows.length ≤ 1000000000) :
    Calls Try.prog 42 #[.pointer (some ⟨rm, 0, none⟩), .agg (accC (x, u)).toArray] w fun e w' => e = .returned (.tuple #[]) ∧ RDid w w' F rm true A := by
  have h1 := hu.one
  have d1 : w.cell? ⟨rm, 3, none⟩ = some (.bool true) := h.bM.cell 3
  have hlm := Blk.lt h.bM
  have HR : Hid (∀ w', Below w.heap.size w w' → RDid w w' F rm true A) := fun w' hb => ⟨⟨r, tv, rows, (h.fr (Fr.of_below (S := fun _ => False) hb) (fun _ _ e => e)).wide (fun k e => .inl e)⟩, Fr.of_below hb⟩
  have hbm : Blk (w.alloc (Obj.cells (accC (x, u)).toArray 89)) rm 62 _ := h.bM.alloc _
  have d2 : (w.alloc (Obj.cells (accC (x, u)).toArray 89)).cell? ⟨rm, 3, none⟩ = some (.bool true) := hbm.cell 3
  clear h hu hbm
  unfold accC at d2
  go_enter Try.func42, Try.ntmps42
  unfold accC
  go_wp2_with fail
  go_end0
  exact ⟨rfl, HR.out _ (by first | exact (Below.refl _ _).alloc (Nat.le_refl _) _ | exact Below.refl _ _)⟩
theorem RLoadL_x (h : RMx w F rm r tv rows true A) (th x : Int) (h0 : 0 ≤ x) (hn : A.cells.length ≤ 4194304) (ht : A.trace.length ≤ 1000000000) :
    Calls Try.prog 23 #[.pointer (some ⟨rm, 0, none⟩), .int .i64 th, .int .u64 x] w fun e w' => e = .returned (.int .u64 (A.peek x)) ∧ RDid w w' F rm true ((A.load th x).mute A) := by
  have hp := Lib.hid (RPeek_any h x h0 hn)
  have hno := Lib.hid (rnote_live h ⟨th, 1, x, 0, 0, [], A.peek x, false⟩ _ (vals_none w F r) (by have := h.len; omega))
  simp only [Mem.load, Mem.note] at *
  clear hn ht
  generalize A.peek x = y at *
  go_enter Try.func23, Try.ntmps23
  go_wp2_with fail
  refine hp.out.mono ?_
  rintro e w' ⟨rfl, rfl⟩
  go_wp2_with fail
  refine hno.out.mono ?_
  rintro e w' ⟨rfl, hN⟩
  go_wp2
  go_ret
  exact ⟨rfl, hN⟩
theorem RStoreL_x (h : RMx w F rm r tv rows true A) (th x u : Int) (h0 : 0 ≤ x) (hn : A.cells.length ≤ 4194304) (ht : A.trace.length ≤ 1000000000) :
    Calls Try.prog 25 #[.pointer (some ⟨rm, 0, none⟩), .int .i64 th, .int .u64 x, .int .u64 u] w fun e w' => e = .returned (.tuple #[]) ∧ RDid w w' F rm true ((A.store th x u).mute A) := by
  simp only [Mem.store]
  cases hx : A.has x
  · have hno := Lib.hid (rnote_live h ⟨th, 2, x, u, 0, [], 0, false⟩ _ (vals_none w F r) (by have := h.len; omega))
    rw [put_past A hx]
    have Hs := Lib.hid (Rset_no h hx hn u)
    simp only [Mem.note] at *
    clear hx hn ht
    go_enter Try.func25, Try.ntmps25
    go_wp2_with fail
    refine Hs.out.mono ?_
    rintro e w' ⟨rfl, rfl⟩
    go_wp2_with fail
    refine hno.out.mono ?_
    rintro e w' ⟨rfl, hN⟩
    go_wp2_with fail
    go_end0
    exact ⟨rfl, hN⟩
  · obtain ⟨i, rfl, hi⟩ := has_nat h0 hx
    have Hs := Lib.hid (Rset_yes h hi hn u)
    obtain ⟨h2, f2⟩ := h.put i u
    have hno := Lib.hid (rnote_live h2 ⟨th, 2, i, u, 0, [], 0, false⟩ _ (vals_none _ F r) (by have := h.len; omega))
    simp only [Mem.note] at *
    clear hx hn ht
    go_enter Try.func25, Try.ntmps25
    go_wp2_with fail
    refine Hs.out.mono ?_
    rintro e w' ⟨rfl, rfl⟩
    go_wp2_with fail
    refine hno.out.mono ?_
    rintro e w' ⟨rfl, hN⟩
    go_wp2_with fail
    go_end0
    exact ⟨rfl, RDid.pre hN f2⟩
theorem RCasL_x (h : RMx w F rm r tv rows true A) (th x o u : Int) (h0 : 0 ≤ x) (hn : A.cells.length ≤ 4194304) (ht : A.trace.length ≤ 1000000000) :
    Calls Try.prog 26 #[.pointer (some ⟨rm, 0, none⟩), .int .i64 th, .int .u64 x, .int .u64 o, .int .u64 u] w fun e w' => e = .returned (.bool (A.hit x o)) ∧ RDid w w' F rm true ((A.cas th x o u).mute A) := by
  obtain ⟨cp, c1⟩ : ∃ cp, w.cell? ⟨rm, 0, none⟩ = some (.slice (some ⟨r, 0, none⟩) A.cells.length cp) := ⟨_, h.bM.cell 0⟩
  simp only [Mem.cas]
  cases hx : A.has x
  · have hno := Lib.hid (rnote_live h ⟨th, 3, x, o, u, [], 0, false⟩ _ (vals_none w F r) (by have := h.len; omega))
    have hit : A.hit x o = false := by simp [Mem.hit, hx]
    rw [hit]
    have t1 : (A.cells.length : Int) ≤ x := by simpa [Mem.has] using hx
    simp only [Mem.note] at *
    clear hx ht hit
    generalize A.cells.length = n at *
    have t3 : decide (x < (n : Int)) = false := by simpa using t1
    go_enter Try.func26, Try.ntmps26
    go_wp2_with fail
    refine hno.out.mono ?_
    rintro e w' ⟨rfl, hN⟩
    go_wp2
    go_ret
    exact ⟨rfl, hN⟩
  · obtain ⟨i, rfl, hi⟩ := has_nat h0 hx
    have hp : A.peek i = A.cells.getD i 0 := by simp [Mem.peek]
    have c2 := h.rowcell hi
    by_cases ho : A.cells.getD i 0 = o
    · have hit : A.hit i o = true := by rw [Mem.hit, hx, hp, ho]; simp
      rw [hit]
      rw [ho] at c2
      have Hs := Lib.hid (Rset_yes h hi hn u)
      obtain ⟨h2, f2⟩ := h.put i u
      have hno := Lib.hid (rnote_live h2 ⟨th, 3, i, o, u, [], 0, true⟩ _ (vals_none _ F r) (by have := h.len; omega))
      simp only [Mem.note] at *
      clear hx ht ho hit hp h2
      generalize A.cells.length = n at *
      go_enter Try.func26, Try.ntmps26
      go_wp2_with fail
      refine Hs.out.mono ?_
      rintro e w' ⟨rfl, rfl⟩
      go_wp2_with fail
      refine hno.out.mono ?_
      rintro e w' ⟨rfl, hN⟩
      go_wp2
      go_ret
      exact ⟨rfl, RDid.pre hN f2⟩
    · have hit : A.hit i o = false := by rw [Mem.hit, hp]; simp only [ho, decide_false, Bool.and_false]
      rw [hit]
      have hno := Lib.hid (rnote_live h ⟨th, 3, i, o, u, [], 0, false⟩ _ (vals_none _ F r) (by have := h.len; omega))
      generalize A.cells.getD i 0 = y at *
      have t2 : (y == o) = false := by simpa using ho
      have t4 : (y != o) = true := by simpa using ho
      simp only [Mem.note] at *
      clear hx ht ho hit hp
      generalize A.cells.length = n at *
      go_enter Try.func26, Try.ntmps26
      go_wp2_with fail
      refine hno.out.mono ?_
      rintro e w' ⟨rfl, hN⟩
      go_wp2
      go_ret
      exact ⟨rfl, hN⟩
theorem RAddL_x (h : RMx w F rm r tv rows true A) (th x n : Int) (h0 : 0 ≤ x) (hn : A.cells.length ≤ 4194304) (ht : A.trace.length ≤ 1000000000) :
    Calls Try.prog 27 #[.pointer (some ⟨rm, 0, none⟩), .int .i64 th, .int .u64 x, .int .u64 n] w fun e w' => e = .returned (.int .u64 (A.peek x)) ∧ RDid w w' F rm true ((A.add th x n).mute A) := by
  have hp := Lib.hid (RPeek_any h x h0 hn)
  simp only [Mem.add]
  cases hx : A.has x
  · have hno := Lib.hid (rnote_live h ⟨th, 4, x, n, 0, [], A.peek x, false⟩ _ (vals_none w F r) (by have := h.len; omega))
    rw [put_past A hx]
    have Hs := Lib.hid (fun u => Rset_no h hx hn u)
    simp only [Mem.note] at *
    clear hx hn ht
    generalize A.peek x = y at *
    go_enter Try.func27, Try.ntmps27
    go_wp2_with fail
    refine hp.out.mono ?_
    rintro e w' ⟨rfl, rfl⟩
    go_wp2_with fail
    refine (Hs.out _).mono ?_
    rintro e w' ⟨rfl, rfl⟩
    go_wp2_with fail
    refine hno.out.mono ?_
    rintro e w' ⟨rfl, hN⟩
    go_wp2
    go_ret
    exact ⟨rfl, hN⟩
  · obtain ⟨i, rfl, hi⟩ := has_nat h0 hx
    have Hs := Lib.hid (Rset_yes h hi hn (IntKind.u64.wrap (A.peek i + n)))
    obtain ⟨h2, f2⟩ := h.put i (IntKind.u64.wrap (A.peek i + n))
    have hno := Lib.hid (rnote_live h2 ⟨th, 4, i, n, 0, [], A.peek i, false⟩ _ (vals_none _ F r) (by have := h.len; omega))
    simp only [Mem.note] at *
    clear hx hn ht h2
    generalize A.peek i = y at *
    go_enter Try.func27, Try.ntmps27
    go_wp2_with fail
    refine hp.out.mono ?_
    rintro e w' ⟨rfl, rfl⟩
    go_wp2_with fail
    refine Hs.out.mono ?_
    rintro e w' ⟨rfl, rfl⟩
    go_wp2_with fail
    refine hno.out.mono ?_
    rintro e w' ⟨rfl, hN⟩
    go_wp2
    go_ret
    exact ⟨rfl, RDid.pre hN f2⟩
theorem ralloc_vals_l {w1 w2 : World} (h : RMx w1 F rm r tv rows true A) (hf : Fr F w w1) {u : Value} (ho : w2.ownsRow w1.heap.size 33 1 u vs.length (us vs)) (hg : w1.grownBy w2 none) (th a : Int) (hl : A.trace.length ≤ 1000000000) :
    Calls Try.prog 42 #[.pointer (some ⟨rm, 0, none⟩), .agg (accC (⟨th, 5, a, 0, 0, vs, 0, false⟩, u)).toArray] w2 fun e w' => e = .returned (.tuple #[]) ∧ RDid w w' F rm true A := by
  have hb : Below w1.heap.size w1 w2 := (Below.refl _ w1).grown hg (Nat.le_refl _) (by intro k hk; cases hk)
  have hlt := Blk.lt h.bR
  have hv := (vals_own ho (r := r) hlt)
  have h2 : RMx w2 (Ext F w1) rm r tv rows true A := (h.fr (Fr.of_below (S := fun _ => False) hb) (fun _ _ e => e)).wide (fun k e => .inl e)
  refine (rnote_live h2 ⟨th, 5, a, 0, 0, vs, 0, false⟩ u (hv.wide (fun k e => .inr e)) (by have := h.len; omega)).mono ?_
  rintro e w' ⟨rfl, hm, hf2⟩
  have hs1 := hf.size
  have hs2 := hb.size
  refine ⟨rfl, hm.wide ?_, ⟨hf2.os.trans (hb.os.trans hf.os), hf2.tape.trans (hb.tape.trans hf.tape), hf2.output.trans (hb.output.trans hf.output), Nat.le_trans hs1 (Nat.le_trans hs2 hf2.size), fun k hk hn => ?_⟩⟩
  · rintro k ((e | e) | e)
    · exact .inl e
    · exact .inr (by omega)
    · exact .inr (by omega)
  · refine (hf2.block k (by omega) ?_).trans ((hf.trans (Fr.of_below hb)).block k hk hn)
    rintro (e | e)
    · exact hn e
    · omega
set_option maxRecDepth 100000 in
theorem RAllocL_none (h : RMx w F rm r tv rows true A) {p : Option Addr} {c : Nat} (hp : p = none → c = 0) (th : Int) (hn : A.cells.length ≤ 4194304) (ht : A.trace.length ≤ 1000000000) :
    Calls Try.prog 29 #[.pointer (some ⟨rm, 0, none⟩), .int .i64 th, .slice p 0 c] w fun e w' => e = .returned (.int .u64 (A.spot [])) ∧ RDid w w' F rm true ((A.alloc th []).mute A) := by
  have hs : A.spot [] = 0 := by simp [Mem.spot, Mem.fits]
  have ha : A.alloc th [] = A.note ⟨th, 5, 0, 0, 0, [], 0, false⟩ := by simp [Mem.alloc, Mem.spot, Mem.fits]
  rw [hs, ha]
  have HN := Lib.hid (fun u w2 ho hg => ralloc_vals_l (vs := []) (w2 := w2) (u := u) h (Fr.refl F w) ho hg th 0 ht)
  clear h hs ha
  go_enter Try.func29, Try.ntmps29
  go_wp2_with (at_builtin; refine app_nil _ rfl _ _ rfl rfl p 0 c rfl [] rfl (fun e => ⟨rfl, hp e⟩) (fun ad _ j u hu => by simp at hu) (fun u hu => by cases hu) (by omega) ?_; intro up uc w2 ho hg)
  have HN2 := Lib.hid (HN.out _ w2 ho hg)
  clear HN ho hg
  go_wp2_with fail
  refine HN2.out.mono ?_
  rintro e w' ⟨rfl, hN⟩
  go_wp2
  go_ret
  exact ⟨rfl, hN⟩
set_option maxHeartbeats 1000000 in
set_option maxRecDepth 100000 in
theorem RAllocL_no (h : RMx w F rm r tv rows true A) {p : Option Addr} {c : Nat} (hv : VA w (.slice p vs.length c) vs) (hp : p = none → c = 0) (th : Int) (h0 : vs ≠ []) (hf : ¬ A.next + vs.length ≤ A.cells.length) (hl : vs.length ≤ 1000000000) (hA : A.next ≤ A.cells.length) (hn : A.cells.length ≤ 4194304) (ht : A.trace.length ≤ 1000000000) :
    Calls Try.prog 29 #[.pointer (some ⟨rm, 0, none⟩), .int .i64 th, .slice p vs.length c] w fun e w' => e = .returned (.int .u64 (A.spot vs)) ∧ RDid w w' F rm true ((A.alloc th vs).mute A) := by
  have hfit : A.fits vs = false := by simp [Mem.fits]; intro _; omega
  have hs : A.spot vs = 0 := by simp [Mem.spot, hfit]
  have ha : A.alloc th vs = A.note ⟨th, 5, 0, 0, 0, vs, 0, false⟩ := by simp [Mem.alloc, hs, hfit]
  rw [hs, ha]
  have HL := Lib.hid (RLeft_any h hA hn)
  have HN : Hid (∀ k u w2, w2.ownsRow (w.drewN k).heap.size 33 1 u vs.length (us vs) → (w.drewN k).grownBy w2 none → Calls Try.prog 42 #[.pointer (some ⟨rm, 0, none⟩), .agg (accC (⟨th, 5, 0, 0, 0, vs, 0, false⟩, u)).toArray] w2 fun e w' => e = .returned (.tuple #[]) ∧ RDid w w' F rm true A) :=
    fun k u w2 ho hg => ralloc_vals_l (h.fr ((Fr.refl (fun _ => False) w).drawn k) (fun _ _ e => e)) ((Fr.refl F w).drawn k) ho hg th 0 ht
  obtain ⟨-, hc, hpn⟩ := hv.nilp
  have HC : Hid (∀ k : Nat, ∀ ad, p = some ad → ∀ j u, (us vs)[j]? = some u → (w.drewN k).cell? (ad.add j) = some u) := fun k => hc
  have HPN := Lib.hid hpn
  have hpos : 0 < vs.length := List.length_pos_iff.2 h0
  have t0 : decide ((0 : Int) < (vs.length : Int)) = true := by simp; omega
  have t1 : decide ((vs.length : Int) ≤ (A.cells.length : Int) - (A.next : Int)) = false := by simp; omega
  have huv : (us vs).length = vs.length := by simp [us]
  have HUV := Lib.hid huv
  clear h hs ha hfit hv hc hpn hf huv
  go_enter Try.func29, Try.ntmps29
  go_wp2_with fail
  refine HL.out.mono ?_
  rintro e w1 ⟨rfl, k, rfl⟩
  go_wp2_with (at_builtin; refine app_nil _ rfl _ _ rfl rfl p vs.length c rfl (us vs) HUV.out (fun e => ⟨by rw [HPN.out e]; rfl, hp e⟩) (HC.out k) us_one hl ?_; intro up uc w2 ho hg)
  have HN2 := Lib.hid (HN.out k _ w2 ho hg)
  clear HN ho hg
  go_wp2_with fail
  refine HN2.out.mono ?_
  rintro e w' ⟨rfl, hN⟩
  go_wp2
  go_ret
  exact ⟨rfl, hN⟩
set_option maxHeartbeats 2000000 in
set_option maxRecDepth 100000 in
theorem RAllocL_yes (h : RMx w F rm r tv rows true A) {p : Option Addr} {c : Nat} (hv : VA w (.slice p vs.length c) vs) (hoff : Off (.slice p vs.length c) F) (th : Int) (h0 : vs ≠ []) (hf : A.next + vs.length ≤ A.cells.length) (hn : A.cells.length ≤ 4194304) (ht : A.trace.length ≤ 1000000000) :
    Calls Try.prog 29 #[.pointer (some ⟨rm, 0, none⟩), .int .i64 th, .slice p vs.length c] w fun e w' => e = .returned (.int .u64 (A.spot vs)) ∧ RDid w w' F rm true ((A.alloc th vs).mute A) := by
  have hfit : A.fits vs = true := by simp [Mem.fits]; exact ⟨h0, hf⟩
  have hs : A.spot vs = A.next := by simp [Mem.spot, hfit]
  have ha : A.alloc th vs = (A.laid vs).note ⟨th, 5, A.next, 0, 0, vs, 0, false⟩ := by simp [Mem.alloc, hs, hfit]
  rw [hs, ha]
  have HL := Lib.hid (RLeft_any h (by omega) hn)
  have hpos : 0 < vs.length := List.length_pos_iff.2 h0
  obtain ⟨ad, rfl, hbl⟩ : ∃ ad, p = some ad ∧ ad.block < w.heap.size := by
    obtain ⟨p', c', e, h⟩ := hv
    injection e with e1 _ _
    subst e1
    obtain ⟨ad, e, hb, _⟩ := h.resolve_left h0
    exact ⟨ad, e, hb⟩
  obtain ⟨-, hc, -⟩ := hv.nilp
  have hc := hc ad rfl
  obtain ⟨b, o, spt⟩ := ad
  obtain rfl : spt = none := by
    obtain ⟨y0, hy0⟩ : ∃ y, vs[0]? = some y := ⟨_, List.getElem?_eq_getElem hpos⟩
    have := World.cell?_spot (hc 0 (.int .u64 y0) (by simp [us, hy0]))
    simpa [Addr.add] using this
  have hadd : ∀ j, (⟨b, o, none⟩ : Addr).add j = ⟨b, o + j, none⟩ := fun j => by unfold Addr.add; split <;> simp_all
  have hadF : ¬ F b := hoff _ _ _ rfl
  have t0 : decide ((0 : Int) < (vs.length : Int)) = true := by simp; omega
  have t1 : decide ((vs.length : Int) ≤ (A.cells.length : Int) - (A.next : Int)) = true := by simp; omega
  have hl : vs.length ≤ 1000000000 := by omega
  have huv : (us vs).length = vs.length := by simp [us]
  have HUV := Lib.hid huv
  have ow3 : wrap64 ((A.next : Int) + (vs.length : Int)) = (A.next : Int) + (vs.length : Int) := by unfold wrap64; omega
  have hH := Lib.hid h
  obtain ⟨cap, hcap, hbM⟩ := h.bM'
  obtain ⟨sp, hbR⟩ := h.bR'
  have HBM := Lib.hid (And.intro hcap (And.intro hbM hbR))
  clear hbM hbR hcap
  have hbl : b < w.heap.size := hbl
  have hrr : b ≠ r := fun e => hadF (e ▸ h.fR)
  have hrmr : rm ≠ r := Blk.ne h.bM h.bR (by decide)
  -- what is so while the values are laid
  have HW : Hid (∀ wr, Fr (fun b => b = rm ∨ b = r) w wr → ∀ j y, vs[j]? = some y → wr.cell? ⟨b, o + j, none⟩ = some (.int .u64 y)) := by
    intro wr hfr j y hy
    have h1 := hc j (.int .u64 y) (by simp [us, hy])
    have h2 := hfr.block b hbl (by rintro (e | e); exact hadF (e ▸ h.fM); exact hrr e)
    rw [hadd] at h1
    unfold World.cell? at h1 ⊢
    rw [h2]; exact h1
  have c1 : ∀ k, (w.drewN k).cell? ⟨rm, 1, none⟩ = some (.int .i64 A.next) := fun k => h.bM.cell 1
  have f1 : ∀ k, (w.drewN k).frozen? ⟨rm, 1, none⟩ = false := fun k => h.bM.cold 1
  clear h hv hoff hs ha hfit hc huv
  go_enter Try.func29, Try.ntmps29
  go_wp2_with fail
  refine HL.out.mono ?_
  rintro e w1 ⟨rfl, k, rfl⟩
  have c1 := c1 k
  have f1 := f1 k
  have HB1 : Hid (Blk (w.drewN k) rm 62 #[.slice (some ⟨r, 0, none⟩) A.cells.length cap, .int .i64 A.next, tv, .bool true] ∧ Blk (w.drewN k) r 33 (us A.cells ++ sp).toArray) := ⟨HBM.out.2.1, HBM.out.2.2⟩
  have HF1 : Hid (Fr (fun _ => False) w (w.drewN k)) := (Fr.refl _ w).drawn k
  generalize w.drewN k = w1 at *
  have HAP : Hid (∀ wr, RMx wr F rm r tv rows true (A.laid vs) → Fr F w wr → ∀ u w2, w2.ownsRow wr.heap.size 33 1 u vs.length (us vs) → wr.grownBy w2 none → Calls Try.prog 42 #[.pointer (some ⟨rm, 0, none⟩), .agg (accC (⟨th, 5, A.next, 0, 0, vs, 0, false⟩, u)).toArray] w2 fun e w' => e = .returned (.tuple #[]) ∧ RDid w w' F rm true (A.laid vs)) :=
    fun wr h1 h2 u w2 ho hg => ralloc_vals_l h1 h2 ho hg th A.next ht
  have HLAY : Hid (∀ wr, Blk wr rm 62 #[.slice (some ⟨r, 0, none⟩) A.cells.length cap, .int .i64 ((A.next : Int) + vs.length), tv, .bool true] → Blk wr r 33 (us (splice A.cells A.next vs) ++ sp).toArray → Fr (fun b => b = rm ∨ b = r) w wr → RMx wr F rm r tv rows true (A.laid vs) ∧ Fr F w wr ∧ ∀ j u, (us vs)[j]? = some u → wr.cell? ((⟨b, o, none⟩ : Addr).add j) = some u) := by
    intro wr h1 h2 h3
    refine ⟨hH.out.lay hf HBM.out.1 h1 h2 h3, h3.mono ?_, ?_⟩
    · rintro k _ (rfl | rfl)
      · exact hH.out.fM
      · exact hH.out.fR
    · intro j u hu
      have hj := (List.getElem?_eq_some_iff.1 hu).1
      simp [us] at hj
      rw [hadd, HW.out wr h3 j _ (List.getElem?_eq_getElem hj)]
      rw [← hu]; simp [us, hj]
  have H0 : Hid (Blk (w1.setCell ⟨rm, 1, none⟩ (.int .i64 ((A.next : Int) + vs.length))) rm 62 #[.slice (some ⟨r, 0, none⟩) A.cells.length cap, .int .i64 ((A.next : Int) + vs.length), tv, .bool true] ∧ Blk (w1.setCell ⟨rm, 1, none⟩ (.int .i64 ((A.next : Int) + vs.length))) r 33 (us A.cells ++ sp).toArray ∧ Fr (fun b => b = rm ∨ b = r) w (w1.setCell ⟨rm, 1, none⟩ (.int .i64 ((A.next : Int) + vs.length)))) := by
    refine ⟨(HB1.out.1.put 1 (.int .i64 ((A.next : Int) + vs.length))).eq rfl, HB1.out.2.far (p := ⟨rm, 1, none⟩) (fun e => hrmr e.symm) _, ?_⟩
    exact (HF1.out.mono (fun _ _ e => e.elim)).put (p := ⟨rm, 1, none⟩) (.inl (.inl rfl)) _
  go_wp2_with fail
  clear c1 f1 HB1 HF1
  generalize w1.setCell ⟨rm, 1, none⟩ (.int .i64 ((A.next : Int) + vs.length)) = wz at *
  go_loopw [8] (fun i wr => ∃ k : Nat, i = .int .i64 k ∧ k ≤ vs.length ∧ Blk wr r 33 (us (splice A.cells A.next (vs.take k)) ++ sp).toArray ∧ Blk wr rm 62 #[.slice (some ⟨r, 0, none⟩) A.cells.length cap, .int .i64 ((A.next : Int) + vs.length), tv, .bool true] ∧ Fr (fun b => b = rm ∨ b = r) w wr) (fun i _ => vs.length - (intOf i).toNat)
  case atStart => exact ⟨0, rfl, Nat.zero_le _, H0.out.2.1.eq (by simp [splice]), H0.out.1, H0.out.2.2⟩
  case round =>
    obtain ⟨k, rfl, hk, hB, hM, hF⟩ := hrel
    clear H0
    have d0 : wr.cell? ⟨rm, 0, none⟩ = some _ := hM.cell 0
    by_cases hlt : k < vs.length
    · obtain ⟨y, hy⟩ : ∃ y, vs[k]? = some y := ⟨_, List.getElem?_eq_getElem hlt⟩
      have d1 := HW.out wr hF k y hy
      have hsl : (splice A.cells A.next (vs.take k)).length = A.cells.length := length_splice _ _ _ (by rw [List.length_take]; omega)
      have d2 : wr.cell? ⟨r, A.next + k, none⟩ = some (.int .u64 ((splice A.cells A.next (vs.take k)).getD (A.next + k) 0)) := by
        rw [hB.cell]
        have hlt2 : A.next + k < (splice A.cells A.next (vs.take k)).length := by omega
        simp [us, List.getD_eq_getElem?_getD, hlt2, List.getElem?_append_left]
      have d3 := hB.cold (A.next + k)
      have HS := Lib.hid (r_splice_step A.cells A.next vs hy hf)
      have HU := Lib.hid (r_us_set2 (splice A.cells A.next (vs.take k)) sp (A.next + k) y (by omega))
      have HB := Lib.hid hB
      have HMM := Lib.hid hM
      have HFF := Lib.hid hF
      generalize (splice A.cells A.next (vs.take k)).getD (A.next + k) 0 = old at *
      have ow4 : wrap64 ((A.next : Int) + (k : Int)) = (A.next : Int) + (k : Int) := by unfold wrap64; omega
      clear hB hsl hM hF
      have d0 : wr.cell? ⟨rm, 0, none⟩ = some (.slice (some ⟨r, 0, none⟩) A.cells.length cap) := d0
      go_wp2_with fail
      have hb1 : (0 : Int) ≤ (A.next : Int) + (k : Int) := by omega
      have hb2 : (A.next : Int) + (k : Int) < (A.cells.length : Int) := by omega
      have hb3 : (k : Int) < (vs.length : Int) := by omega
      have hb4 : IntKind.i64.wrap ((A.next : Int) + (k : Int)) = (A.next : Int) + (k : Int) := IntWalk.i64_in _ (by omega)
      have hb5 : ((A.next : Int) + (k : Int)).toNat = A.next + k := by omega
      have e0 : (wr.setCell ⟨r, A.next + k, none⟩ (.int .u64 y)).drew.cell? ⟨rm, 0, none⟩ = some (.slice (some ⟨r, 0, none⟩) A.cells.length cap) := (World.cell?_setCell_other _ _ _ _ (fun e => hrmr (by injection e with e1 _; first | exact e1 | exact e1.symm))).trans d0
      have e1 : (wr.setCell ⟨r, A.next + k, none⟩ (.int .u64 y)).drew.cell? ⟨b, o + k, none⟩ = some (.int .u64 y) := (World.cell?_setCell_other _ _ _ _ (fun e => hrr (by injection e with e1 _; first | exact e1 | exact e1.symm))).trans d1
      go_region_held3 (fun w' => w'.cell? ⟨rm, 0, none⟩ = some (.slice (some ⟨r, 0, none⟩) A.cells.length cap) ∧ w'.cell? ⟨b, o + k, none⟩ = some (.int .u64 y)) (first | exact ⟨d0, d1⟩ | exact ⟨e0, e1⟩) (fail)
      all_goals
        go_wp2_with fail
        go_roundw
        case rel => exact ⟨k + 1, by go_num, by omega, by rw [HS.out]; exact ((HB.out.put (A.next + k) (.int .u64 y)).eq HU.out).drawn 1, (HMM.out.far (p := ⟨r, A.next + k, none⟩) hrmr (.int .u64 y)).drawn 1, (HFF.out.put (p := ⟨r, A.next + k, none⟩) (.inl (.inr rfl)) _).drawn 1⟩
        case measure => simp [intOf]; omega
    · obtain rfl : k = vs.length := by omega
      rw [List.take_length] at hB
      obtain ⟨h1, h2, h3⟩ := HLAY.out wr hM hB hF
      have HC := Lib.hid h3
      have HN := Lib.hid (HAP.out wr h1 h2)
      clear HLAY HAP h1 h2 h3 hB hM hF
      go_wp2_with (at_builtin; refine app_nil _ rfl _ _ rfl rfl (some ⟨b, o, none⟩) vs.length c rfl (us vs) HUV.out (fun e => by cases e) (fun ad e => by injection e with e; subst e; exact HC.out) us_one hl ?_; intro up uc w2 ho hg)
      have HN2 := Lib.hid (HN.out _ w2 ho hg)
      clear HN ho hg
      go_wp2_with fail
      refine HN2.out.mono ?_
      rintro e w' ⟨rfl, hN⟩
      go_wp2
      go_ret
      exact ⟨rfl, hN⟩
theorem RAllocL_x (h : RMx w F rm r tv rows true A) (hv : VA w av vs) (hoff : vs ≠ [] → Off av F) (hnil : ∀ n c, av = .slice none n c → c = 0) (th : Int) (hl : vs.length ≤ 1000000000) (hA : A.next ≤ A.cells.length) (hn : A.cells.length ≤ 4194304) (ht : A.trace.length ≤ 1000000000) :
    Calls Try.prog 29 #[.pointer (some ⟨rm, 0, none⟩), .int .i64 th, av] w fun e w' => e = .returned (.int .u64 (A.spot vs)) ∧ RDid w w' F rm true ((A.alloc th vs).mute A) := by
  have hv2 := hv
  obtain ⟨p, c, rfl, _⟩ := hv
  have hp : p = none → c = 0 := fun e => hnil _ _ (by rw [e])
  by_cases h0 : vs = []
  · subst h0
    exact RAllocL_none h hp th hn ht
  · by_cases hf : A.next + vs.length ≤ A.cells.length
    · exact RAllocL_yes h hv2 (hoff h0) th h0 hf hn ht
    · exact RAllocL_no h hv2 hp th h0 hf hl hA hn ht
end
end Go.Proofs.Ythggpbbnhjaegaa

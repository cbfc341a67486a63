/-
  A live memory's calls through a view. No condition.
-/
import Derived.Test.YthggpbbnhjaegaaArShared
import Derived.IntWalk
namespace Go.Proofs.Ythggpbbnhjaegaa
open Go Go.RowKit
set_option linter.unusedSimpArgs false
set_option linter.unusedVariables false
/-- what a call leaves -/
def LDid (w w' : World) (F : Nat → Prop) (bm q r v : Nat) (th made : Int) (A : Mem) : Prop := SMx w' F bm q r A ∧ VW w' v bm th (made + 1) ∧ Fr (fun b => F b ∨ b = v) w w'
section
variable {w w' w1 : World} {F G S : Nat → Prop} {bm q r v g : Nat} {A A' : Mem} {th made : Int} {vs : List Int} {av : Value}
theorem LDid.of (h : SMx w1 F bm q r A) (hf1 : Fr F w w1) (hFv : ¬ F v) (hv : VW w' v bm th (made + 1)) (hf : Fr (fun b => b = v) w1 w') (hc : A'.cells = A.cells) (hn : A'.next = A.next) : LDid w w' F bm q r v th made A' := by
  refine ⟨(h.fr hf (fun k hk e => hFv (e ▸ hk))).same hc hn, hv, (hf1.mono (fun _ _ e => .inl e)).trans (hf.mono (fun _ _ e => .inr e))⟩
theorem L_Load (h : SMx w F bm q r A) (hv : VW w v bm th made) (hFv : ¬ F v) (x : Int) (h0 : 0 ≤ x) (hn : A.cells.length ≤ 4194304) (hm0 : 0 ≤ made) (hm1 : made ≤ 1000000000) :
    Calls Try.prog 16 #[.pointer (some ⟨v, 0, none⟩), .int .u64 x] w fun e w' => e = .returned (.int .u64 (A.peek x)) ∧ LDid w w' F bm q r v th made (A.load th x) := by
  have c1 : w.cell? ⟨v, 0, none⟩ = some _ := Blk.cell hv 0
  have hp := Lib.hid (s_peek h x h0 hn)
  have hno := Lib.hid (note_live h hv ⟨0, 1, x, 0, 0, [], A.peek x, false⟩ (.slice none 0 0) rfl hm0 hm1)
  have HE := Lib.hid (fun w' (h1 : VW w' v bm th (made + 1)) h2 => LDid.of (A' := A.load th x) h (Fr.refl F w) hFv h1 h2 rfl rfl)
  clear hn h
  generalize A.peek x = y at *
  go_enter Try.func16, Try.ntmps16
  go_wp2_with fail
  refine hp.out.mono ?_
  rintro e w' ⟨rfl, rfl⟩
  go_wp2_with fail
  refine hno.out.mono ?_
  rintro e w' ⟨rfl, k1, k2⟩
  go_wp2
  go_ret
  exact ⟨rfl, HE.out _ k1 k2⟩
theorem L_Store (h : SMx w F bm q r A) (hv : VW w v bm th made) (hFv : ¬ F v) (x u : Int) (h0 : 0 ≤ x) (hn : A.cells.length ≤ 4194304) (hm0 : 0 ≤ made) (hm1 : made ≤ 1000000000) :
    Calls Try.prog 24 #[.pointer (some ⟨v, 0, none⟩), .int .u64 x, .int .u64 u] w fun e w' => e = .returned (.tuple #[]) ∧ LDid w w' F bm q r v th made (A.store th x u) := by
  have c1 : w.cell? ⟨v, 0, none⟩ = some _ := Blk.cell hv 0
  have d1 : w.cell? ⟨bm, 0, none⟩ = some _ := h.bM.cell 0
  have hh := s_has h x hn
  cases hx : A.has x
  · have hno := Lib.hid (note_live h hv ⟨0, 2, x, u, 0, [], 0, false⟩ (.slice none 0 0) rfl hm0 hm1)
    have hc : (A.store th x u).cells = A.cells := by simp [Mem.store, Mem.note, put_past A hx]
    have HE := Lib.hid (fun w' (h1 : VW w' v bm th (made + 1)) h2 => LDid.of (A' := A.store th x u) h (Fr.refl F w) hFv h1 h2 hc (by simp [Mem.store, Mem.note, Mem.put]))
    rw [hx] at hh
    have Hh := Lib.hid hh
    clear hh hx hn hc
    go_enter Try.func24, Try.ntmps24
    go_wp2_with fail
    refine Hh.out.mono ?_
    rintro e w' ⟨rfl, rfl⟩
    go_wp2_with fail
    refine hno.out.mono ?_
    rintro e w' ⟨rfl, k1, k2⟩
    go_wp2_with fail
    go_end0
    exact ⟨rfl, HE.out _ k1 k2⟩
  · obtain ⟨i, rfl, hi⟩ := has_nat h0 hx
    rw [hx] at hh
    have Hh := Lib.hid hh
    have hs := Lib.hid (s_store h hi u)
    obtain ⟨h2, f2⟩ := h.put i u
    have hvr : v ≠ r := fun e => hFv (e ▸ h.fR)
    have hv2 : VW (w.setCell ⟨r, i, none⟩ (.int .u64 u)) v bm th made := Blk.far hv hvr _
    have hno := Lib.hid (note_live h2 hv2 ⟨0, 2, i, u, 0, [], 0, false⟩ (.slice none 0 0) rfl hm0 hm1)
    have HE := Lib.hid (fun w' (h1 : VW w' v bm th (made + 1)) h3 => LDid.of (A' := A.store th i u) h2 f2 hFv h1 h3 rfl rfl)
    clear hh hx hn
    go_enter Try.func24, Try.ntmps24
    go_wp2_with fail
    refine Hh.out.mono ?_
    rintro e w' ⟨rfl, rfl⟩
    go_wp2_with fail
    refine hs.out.mono ?_
    rintro e w' ⟨rfl, rfl⟩
    go_wp2_with fail
    refine hno.out.mono ?_
    rintro e w' ⟨rfl, k1, k2⟩
    go_wp2_with fail
    go_end0
    exact ⟨rfl, HE.out _ k1 k2⟩
theorem L_Cas (h : SMx w F bm q r A) (hv : VW w v bm th made) (hFv : ¬ F v) (x o u : Int) (h0 : 0 ≤ x) (hn : A.cells.length ≤ 4194304) (hm0 : 0 ≤ made) (hm1 : made ≤ 1000000000) :
    Calls Try.prog 17 #[.pointer (some ⟨v, 0, none⟩), .int .u64 x, .int .u64 o, .int .u64 u] w fun e w' => e = .returned (.bool (A.hit x o)) ∧ LDid w w' F bm q r v th made (A.cas th x o u) := by
  have c1 : w.cell? ⟨v, 0, none⟩ = some _ := Blk.cell hv 0
  have d1 : w.cell? ⟨bm, 0, none⟩ = some _ := h.bM.cell 0
  have hh := s_has h x hn
  cases hx : A.has x
  · have hit : A.hit x o = false := by simp [Mem.hit, hx]
    have hno := Lib.hid (note_live h hv ⟨0, 3, x, o, u, [], 0, false⟩ (.slice none 0 0) rfl hm0 hm1)
    have hc : (A.cas th x o u).cells = A.cells := by simp [Mem.cas, Mem.note, hit]
    have hc2 : (A.cas th x o u).next = A.next := by simp [Mem.cas, Mem.note, hit]
    have HE := Lib.hid (fun w' (h1 : VW w' v bm th (made + 1)) h2 => LDid.of (A' := A.cas th x o u) h (Fr.refl F w) hFv h1 h2 hc hc2)
    rw [hit]
    rw [hx] at hh
    have Hh := Lib.hid hh
    clear hh hx hn hit hc hc2
    go_enter Try.func17, Try.ntmps17
    go_wp2_with fail
    refine Hh.out.mono ?_
    rintro e w' ⟨rfl, rfl⟩
    go_wp2_with fail
    refine hno.out.mono ?_
    rintro e w' ⟨rfl, k1, k2⟩
    go_wp2
    go_ret
    exact ⟨rfl, HE.out _ k1 k2⟩
  · obtain ⟨i, rfl, hi⟩ := has_nat h0 hx
    have hp : A.peek i = A.cells.getD i 0 := by simp [Mem.peek]
    rw [hx] at hh
    have Hh := Lib.hid hh
    by_cases ho : A.cells.getD i 0 = o
    · have hit : A.hit i o = true := by rw [Mem.hit, hx, hp, ho]; simp
      have hs := Lib.hid (s_cas_yes h hi o u ho)
      obtain ⟨h2, f2⟩ := h.put i u
      have hvr : v ≠ r := fun e => hFv (e ▸ h.fR)
      have hv2 : VW (w.setCell ⟨r, i, none⟩ (.int .u64 u)) v bm th made := Blk.far hv hvr _
      have hno := Lib.hid (note_live h2 hv2 ⟨0, 3, i, o, u, [], 0, true⟩ (.slice none 0 0) rfl hm0 hm1)
      have hc : (A.cas th i o u).cells = (A.put i u).cells := by simp [Mem.cas, Mem.note, hit]
      have hc2 : (A.cas th i o u).next = (A.put i u).next := by simp [Mem.cas, Mem.note, hit]
      have HE := Lib.hid (fun w' (h1 : VW w' v bm th (made + 1)) h3 => LDid.of (A' := A.cas th i o u) h2 f2 hFv h1 h3 hc hc2)
      rw [hit]
      clear hh hx hn ho hit hp hc hc2
      go_enter Try.func17, Try.ntmps17
      go_wp2_with fail
      refine Hh.out.mono ?_
      rintro e w' ⟨rfl, rfl⟩
      go_wp2_with fail
      refine hs.out.mono ?_
      rintro e w' ⟨rfl, rfl⟩
      go_wp2_with fail
      refine hno.out.mono ?_
      rintro e w' ⟨rfl, k1, k2⟩
      go_wp2
      go_ret
      exact ⟨rfl, HE.out _ k1 k2⟩
    · have hit : A.hit i o = false := by rw [Mem.hit, hp]; simp only [ho, decide_false, Bool.and_false]
      have hs := Lib.hid (s_cas_no h hi o u ho)
      have hno := Lib.hid (note_live h hv ⟨0, 3, i, o, u, [], 0, false⟩ (.slice none 0 0) rfl hm0 hm1)
      have hc : (A.cas th i o u).cells = A.cells := by simp [Mem.cas, Mem.note, hit]
      have hc2 : (A.cas th i o u).next = A.next := by simp [Mem.cas, Mem.note, hit]
      have HE := Lib.hid (fun w' (h1 : VW w' v bm th (made + 1)) h3 => LDid.of (A' := A.cas th i o u) h (Fr.refl F w) hFv h1 h3 hc hc2)
      rw [hit]
      clear hh hx hn ho hit hp hc hc2
      go_enter Try.func17, Try.ntmps17
      go_wp2_with fail
      refine Hh.out.mono ?_
      rintro e w' ⟨rfl, rfl⟩
      go_wp2_with fail
      refine hs.out.mono ?_
      rintro e w' ⟨rfl, rfl⟩
      go_wp2_with fail
      refine hno.out.mono ?_
      rintro e w' ⟨rfl, k1, k2⟩
      go_wp2
      go_ret
      exact ⟨rfl, HE.out _ k1 k2⟩
/-- the cells are 64-bit words -/
def Mem.wide (A : Mem) : Prop := ∀ c ∈ A.cells, 0 ≤ c ∧ c ≤ 18446744073709551615
theorem wide_at (h : A.wide) (i : Nat) : 0 ≤ A.cells.getD i 0 ∧ A.cells.getD i 0 ≤ 18446744073709551615 := by
  rw [List.getD_eq_getElem?_getD]
  cases hc : A.cells[i]? with
  | none => simp
  | some c => exact h c (List.mem_of_getElem? hc)
theorem L_Add (h : SMx w F bm q r A) (hv : VW w v bm th made) (hFv : ¬ F v) (hwd : A.wide) (x u : Int) (h0 : 0 ≤ x) (hn : A.cells.length ≤ 4194304) (hm0 : 0 ≤ made) (hm1 : made ≤ 1000000000) :
    Calls Try.prog 18 #[.pointer (some ⟨v, 0, none⟩), .int .u64 x, .int .u64 u] w fun e w' => e = .returned (.int .u64 (A.peek x)) ∧ LDid w w' F bm q r v th made (A.add th x u) := by
  have c1 : w.cell? ⟨v, 0, none⟩ = some _ := Blk.cell hv 0
  have d1 : w.cell? ⟨bm, 0, none⟩ = some _ := h.bM.cell 0
  have hh := s_has h x hn
  cases hx : A.has x
  · have hno := Lib.hid (note_live h hv ⟨0, 4, x, u, 0, [], 0, false⟩ (.slice none 0 0) rfl hm0 hm1)
    have hc : (A.add th x u).cells = A.cells := by simp [Mem.add, Mem.note, put_past A hx]
    have HE := Lib.hid (fun w' (h1 : VW w' v bm th (made + 1)) h2 => LDid.of (A' := A.add th x u) h (Fr.refl F w) hFv h1 h2 hc (by simp [Mem.add, Mem.note, Mem.put]))
    rw [peek_past A hx]
    rw [hx] at hh
    have Hh := Lib.hid hh
    clear hh hx hn hc
    go_enter Try.func18, Try.ntmps18
    go_wp2_with fail
    refine Hh.out.mono ?_
    rintro e w' ⟨rfl, rfl⟩
    go_wp2_with fail
    refine hno.out.mono ?_
    rintro e w' ⟨rfl, k1, k2⟩
    go_wp2
    go_ret
    exact ⟨rfl, HE.out _ k1 k2⟩
  · obtain ⟨i, rfl, hi⟩ := has_nat h0 hx
    have hp : A.peek i = A.cells.getD i 0 := by simp [Mem.peek]
    rw [hx] at hh
    have Hh := Lib.hid hh
    have hs := s_add h hi u (wide_at hwd i).1 (wide_at hwd i).2
    rw [← hp] at hs
    obtain ⟨h2, f2⟩ := h.put i (IntKind.u64.wrap (A.peek i + u))
    have hvr : v ≠ r := fun e => hFv (e ▸ h.fR)
    have hv2 : VW (w.setCell ⟨r, i, none⟩ (.int .u64 (IntKind.u64.wrap (A.peek i + u)))) v bm th made := Blk.far hv hvr _
    have HE := Lib.hid (fun w' (h1 : VW w' v bm th (made + 1)) h3 => LDid.of (A' := A.add th i u) h2 f2 hFv h1 h3 rfl rfl)
    have hno := Lib.hid (note_live h2 hv2 ⟨0, 4, i, u, 0, [], A.peek i, false⟩ (.slice none 0 0) rfl hm0 hm1)
    have Hs := Lib.hid hs
    clear hh hx hn hp hs h2
    generalize A.peek i = y at *
    go_enter Try.func18, Try.ntmps18
    go_wp2_with fail
    refine Hh.out.mono ?_
    rintro e w' ⟨rfl, rfl⟩
    go_wp2_with fail
    refine Hs.out.mono ?_
    rintro e w' ⟨rfl, rfl⟩
    go_wp2_with fail
    refine hno.out.mono ?_
    rintro e w' ⟨rfl, k1, k2⟩
    go_wp2
    go_ret
    exact ⟨rfl, HE.out _ k1 k2⟩
end
end Go.Proofs.Ythggpbbnhjaegaa

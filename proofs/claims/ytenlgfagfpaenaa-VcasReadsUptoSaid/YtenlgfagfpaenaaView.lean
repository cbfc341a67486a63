/-
  The plain memory's calls through a view: Load, Store, Cas, Add, and Peek, as the plain Lean memory answers. No condition.
-/
import Derived.Test.YtenlgfagfpaenaaMem
import Derived.Deep.QuietTactic
import Derived.BigQuiet
namespace Go.Proofs.Ytenlgfagfpaenaa
open Go Go.RowKit
set_option linter.unusedSimpArgs false
set_option linter.unusedVariables false
/-- is there a cell? -/
def Mem.has (A : Mem) (x : Int) : Bool := decide (x < A.cells.length)
def Mem.peek (A : Mem) (x : Int) : Int := A.cells.getD x.toNat 0
def Mem.note (A : Mem) (x : Acc) : Mem := { A with trace := A.trace ++ [x] }
def Mem.put (A : Mem) (x v : Int) : Mem := { A with cells := A.cells.set x.toNat v }
def Mem.load (A : Mem) (t x : Int) : Mem := A.note ⟨t, 1, x, 0, 0, [], A.peek x, false⟩
def Mem.store (A : Mem) (t x v : Int) : Mem := (A.put x v).note ⟨t, 2, x, v, 0, [], 0, false⟩
def Mem.hit (A : Mem) (x o : Int) : Bool := A.has x && decide (A.peek x = o)
def Mem.cas (A : Mem) (t x o n : Int) : Mem := (if A.hit x o then A.put x n else A).note ⟨t, 3, x, o, n, [], 0, A.hit x o⟩
def Mem.add (A : Mem) (t x n : Int) : Mem := (A.put x (IntKind.u64.wrap (A.peek x + n))).note ⟨t, 4, x, n, 0, [], A.peek x, false⟩
section
variable {w w' : World} {F G S : Nat → Prop} {bm q r v : Nat} {tv : Value} {rows : List (Acc × Value)} {A : Mem} {th made : Int}
theorem PMx.rowcell (h : PMx w F bm q r tv rows A) {i : Nat} (hi : i < A.cells.length) : w.cell? ⟨r, i, none⟩ = some (.int .u64 (A.cells.getD i 0)) := by
  obtain ⟨sp, h2⟩ := h.bR'
  rw [h2.cell i]; simp [us, hi, List.getD_eq_getElem?_getD, List.getElem?_append_left]
theorem put_past (A : Mem) {x : Int} (hx : A.has x = false) (u : Int) : A.put x u = A := by
  have : (A.cells.length : Int) ≤ x := by simpa [Mem.has] using hx
  unfold Mem.put
  rw [List.set_eq_of_length_le (by omega)]
theorem peek_past (A : Mem) {x : Int} (hx : A.has x = false) : A.peek x = 0 := by
  have : (A.cells.length : Int) ≤ x := by simpa [Mem.has] using hx
  simp [Mem.peek, List.getD_eq_getElem?_getD, show A.cells.length ≤ x.toNat from by omega]
/-- a cell is written -/
theorem PMx.put (h : PMx w F bm q r tv rows A) (i : Nat) (u : Int) : PMx (w.setCell ⟨r, i, none⟩ (.int .u64 u)) F bm q r tv rows (A.put i u) ∧ Fr F w (w.setCell ⟨r, i, none⟩ (.int .u64 u)) := by
  have f : Fr (fun b => b = r) w (w.setCell ⟨r, i, none⟩ (.int .u64 u)) := (Fr.refl (fun b => b = r) w).put (p := ⟨r, i, none⟩) (.inl rfl) _
  refine ⟨⟨h.bM.fr f (Blk.ne h.bM h.bR.choose_spec (by decide)), ?_, ?_, own_fr h.own f ?_, h.fst, ?_, h.fM, h.fQ, h.fR, h.fT⟩, f.mono ?_⟩
  · have := h.Qfr f (Blk.ne h.bQ.choose_spec h.bR.choose_spec (by decide))
    simpa [Mem.put] using this
  · obtain ⟨sp, h2⟩ := h.bR'
    by_cases hi : i < A.cells.length
    · exact ⟨sp, (h2.put i _).eq (by simp [Mem.put, us, List.map_set, List.set_append_left, hi])⟩
    · refine ⟨sp.set (i - A.cells.length) (.int .u64 u), (h2.put i _).eq ?_⟩
      have e : (us A.cells).length = A.cells.length := by simp [us]
      have e2 : A.cells.set i u = A.cells := List.set_eq_of_length_le (by omega)
      simp [Mem.put, e2, List.set_append_right, e, show A.cells.length ≤ i from by omega]
  · intro g e hg; subst hg; exact own_ne h.own h.bR.choose_spec (by decide) e
  · intro y hy
    exact (h.vals y hy).fr f fun k _ hk _ e => hk e
  · rintro k _ rfl; exact h.fR
theorem size_any (h : PMx w F bm q r tv rows A) : Calls Try.prog 129 #[.pointer (some ⟨q, 0, none⟩)] w fun e w' => e = .returned (.int .i64 A.cells.length) ∧ w = w' := by
  obtain ⟨cp, hcp, hbQ⟩ := h.bQ'
  have c1 : w.cell? ⟨q, 0, none⟩ = some _ := hbQ.cell 0
  clear hbQ
  go_enter Try.func129, Try.ntmps129
  go_wp2
  go_ret
  exact ⟨rfl, rfl⟩
theorem pload_any (h : PMx w F bm q r tv rows A) {i : Nat} (hi : i < A.cells.length) : Calls Try.prog 127 #[.pointer (some ⟨q, 0, none⟩), .int .u64 i] w fun e w' => e = .returned (.int .u64 (A.cells.getD i 0)) ∧ w = w' := by
  obtain ⟨cp, hcp, hbQ⟩ := h.bQ'
  have c1 : w.cell? ⟨q, 0, none⟩ = some _ := hbQ.cell 0
  clear hbQ
  have c2 := h.rowcell hi
  generalize A.cells.getD i 0 = x at c2 ⊢
  go_enter Try.func127, Try.ntmps127
  go_wp2
  go_ret
  exact ⟨rfl, rfl⟩
theorem pstore_any (h : PMx w F bm q r tv rows A) {i : Nat} (hi : i < A.cells.length) (u : Int) : Calls Try.prog 130 #[.pointer (some ⟨q, 0, none⟩), .int .u64 i, .int .u64 u] w fun e w' => e = .returned (.tuple #[]) ∧ w' = w.setCell ⟨r, i, none⟩ (.int .u64 u) := by
  obtain ⟨cp, hcp, hbQ⟩ := h.bQ'
  have c1 : w.cell? ⟨q, 0, none⟩ = some _ := hbQ.cell 0
  clear hbQ
  have c2 := h.rowcell hi
  have c3 := h.bR.choose_spec.cold i
  go_enter Try.func130, Try.ntmps130
  go_wp2
  go_end0
  exact ⟨rfl, rfl⟩
theorem pcas_yes (h : PMx w F bm q r tv rows A) {i : Nat} (hi : i < A.cells.length) (o u : Int) (ho : A.cells.getD i 0 = o) : Calls Try.prog 125 #[.pointer (some ⟨q, 0, none⟩), .int .u64 i, .int .u64 o, .int .u64 u] w fun e w' => e = .returned (.bool true) ∧ w' = w.setCell ⟨r, i, none⟩ (.int .u64 u) := by
  obtain ⟨cp, hcp, hbQ⟩ := h.bQ'
  have c1 : w.cell? ⟨q, 0, none⟩ = some _ := hbQ.cell 0
  clear hbQ
  have c2 := h.rowcell hi
  have c3 := h.bR.choose_spec.cold i
  rw [ho] at c2
  clear ho
  go_enter Try.func125, Try.ntmps125
  go_wp2
  go_ret
  exact ⟨rfl, rfl⟩
theorem pcas_no (h : PMx w F bm q r tv rows A) {i : Nat} (hi : i < A.cells.length) (o u : Int) (ho : A.cells.getD i 0 ≠ o) : Calls Try.prog 125 #[.pointer (some ⟨q, 0, none⟩), .int .u64 i, .int .u64 o, .int .u64 u] w fun e w' => e = .returned (.bool false) ∧ w = w' := by
  obtain ⟨cp, hcp, hbQ⟩ := h.bQ'
  have c1 : w.cell? ⟨q, 0, none⟩ = some _ := hbQ.cell 0
  clear hbQ
  have c2 := h.rowcell hi
  generalize A.cells.getD i 0 = x at c2 ho
  have t1 : (x != o) = true := by simpa using ho
  have t2 : (x == o) = false := by simpa using ho
  clear ho
  go_enter Try.func125, Try.ntmps125
  go_wp2
  go_ret
  exact ⟨rfl, rfl⟩
theorem has_any (h : PMx w F bm q r tv rows A) (x : Int) (hn : A.cells.length ≤ 4194304) : Calls Try.prog 49 #[.pointer (some ⟨bm, 0, none⟩), .int .u64 x] w fun e w' => e = .returned (.bool (A.has x)) ∧ w = w' := by
  have c1 : w.cell? ⟨bm, 0, none⟩ = some _ := h.bM.cell 0
  have hs := size_any h
  unfold Mem.has
  generalize A.cells.length = n at hs hn ⊢
  have Hs := Lib.hid hs
  clear hs h
  go_enter Try.func49, Try.ntmps49
  go_wp2_with fail
  refine Hs.out.mono ?_
  rintro e w' ⟨rfl, rfl⟩
  go_wp2
  go_ret
  exact ⟨rfl, rfl⟩
theorem has_nat {x : Int} (h0 : 0 ≤ x) (h : A.has x = true) : ∃ i : Nat, x = i ∧ i < A.cells.length := by
  have h : x < A.cells.length := by simpa [Mem.has] using h
  exact ⟨x.toNat, by omega, by omega⟩
theorem peek_any (h : PMx w F bm q r tv rows A) (x : Int) (h0 : 0 ≤ x) (hn : A.cells.length ≤ 4194304) : Calls Try.prog 37 #[.pointer (some ⟨bm, 0, none⟩), .int .u64 x] w fun e w' => e = .returned (.int .u64 (A.peek x)) ∧ w = w' := by
  have c1 : w.cell? ⟨bm, 0, none⟩ = some _ := h.bM.cell 0
  have hh := has_any h x hn
  cases hx : A.has x
  · have hp := peek_past A hx
    rw [hx] at hh
    rw [hp]
    have Hh := Lib.hid hh
    clear hh hx hp
    go_enter Try.func37, Try.ntmps37
    go_wp2_with fail
    refine Hh.out.mono ?_
    rintro e w' ⟨rfl, rfl⟩
    go_wp2
    go_ret
    exact ⟨rfl, rfl⟩
  · obtain ⟨i, rfl, hi⟩ := has_nat h0 hx
    rw [hx] at hh
    have hl := pload_any h hi
    have hp : A.peek i = A.cells.getD i 0 := by simp [Mem.peek]
    rw [hp]
    generalize A.cells.getD i 0 = y at *
    have Hh := Lib.hid hh
    have Hl := Lib.hid hl
    clear hh hx hl hp
    go_enter Try.func37, Try.ntmps37
    go_wp2_with fail
    refine Hh.out.mono ?_
    rintro e w' ⟨rfl, rfl⟩
    go_wp2_with fail
    refine Hl.out.mono ?_
    rintro e w' ⟨rfl, rfl⟩
    go_wp2
    go_ret
    exact ⟨rfl, rfl⟩
/-- what a call through a view leaves -/
def Did (w w' : World) (F : Nat → Prop) (bm v : Nat) (th made : Int) (A : Mem) : Prop :=
  PM w' (Ext F w) bm A ∧ VW w' v bm th (made + 1) ∧ Fr (fun b => F b ∨ b = v) w w'
theorem Did.pre {w1 : World} (h : Did w1 w' F bm v th made A) (hf : Fr F w w1) : Did w w' F bm v th made A :=
  ⟨h.1.wide (fun k hk => by rcases hk with hk | hk; exact .inl hk; exact .inr (Nat.le_trans hf.size hk)), h.2.1, (hf.mono (fun _ _ hk => .inl hk)).trans h.2.2⟩
theorem PMx.len (h : PMx w F bm q r tv rows A) : rows.length = A.trace.length := by rw [← h.fst]; simp
theorem VW.fr (hv : VW w v bm th made) (hf : Fr S w w') (hS : ¬ S v) : VW w' v bm th made := Blk.fr hv hf hS
theorem vals_none (w : World) (F : Nat → Prop) (r : Nat) : Vals w F r (.slice none 0 0) [] := .inl ⟨_, _, rfl, rfl⟩
theorem Load_x (h : PMx w F bm q r tv rows A) (hv : VW w v bm th made) (x : Int) (h0 : 0 ≤ x) (hn : A.cells.length ≤ 4194304) (ht : A.trace.length ≤ 1000000000) (hm0 : 0 ≤ made) (hm1 : made ≤ 1000000000) :
    Calls Try.prog 56 #[.pointer (some ⟨v, 0, none⟩), .int .u64 x] w fun e w' => e = .returned (.int .u64 (A.peek x)) ∧ Did w w' F bm v th made (A.load th x) := by
  have c1 : w.cell? ⟨v, 0, none⟩ = some _ := Blk.cell hv 0
  have hp := Lib.hid (peek_any h x h0 hn)
  have hno := Lib.hid (note_any h hv ⟨0, 1, x, 0, 0, [], A.peek x, false⟩ _ (vals_none w F r) (by have := h.len; omega) hm0 hm1)
  simp only [Mem.load, Mem.note]
  clear hn ht
  generalize A.peek x = y at *
  go_enter Try.func56, Try.ntmps56
  go_wp2_with fail
  refine hp.out.mono ?_
  rintro e w' ⟨rfl, rfl⟩
  go_wp2_with fail
  refine hno.out.mono ?_
  rintro e w' ⟨rfl, hN⟩
  go_wp2
  go_ret
  exact ⟨rfl, hN⟩
theorem Store_x (h : PMx w F bm q r tv rows A) (hv : VW w v bm th made) (x u : Int) (h0 : 0 ≤ x) (hn : A.cells.length ≤ 4194304) (ht : A.trace.length ≤ 1000000000) (hm0 : 0 ≤ made) (hm1 : made ≤ 1000000000) :
    Calls Try.prog 13 #[.pointer (some ⟨v, 0, none⟩), .int .u64 x, .int .u64 u] w fun e w' => e = .returned (.tuple #[]) ∧ Did w w' F bm v th made (A.store th x u) := by
  have c1 : w.cell? ⟨v, 0, none⟩ = some _ := Blk.cell hv 0
  have d1 : w.cell? ⟨bm, 0, none⟩ = some _ := h.bM.cell 0
  have hh := has_any h x hn
  simp only [Mem.store, Mem.note]
  cases hx : A.has x
  · have hno := Lib.hid (note_any h hv ⟨0, 2, x, u, 0, [], 0, false⟩ _ (vals_none w F r) (by have := h.len; omega) hm0 hm1)
    rw [put_past A hx]
    rw [hx] at hh
    have Hh := Lib.hid hh
    clear hh hx hn ht
    go_enter Try.func13, Try.ntmps13
    go_wp2_with fail
    refine Hh.out.mono ?_
    rintro e w' ⟨rfl, rfl⟩
    go_wp2_with fail
    refine hno.out.mono ?_
    rintro e w' ⟨rfl, hN⟩
    go_wp2_with fail
    go_end0
    exact ⟨rfl, hN⟩
  · obtain ⟨i, rfl, hi⟩ := has_nat h0 hx
    rw [hx] at hh
    have Hh := Lib.hid hh
    have hs := Lib.hid (pstore_any h hi u)
    obtain ⟨h2, f2⟩ := h.put i u
    have hvr : v ≠ r := Blk.ne hv h.bR.choose_spec (by decide)
    have hv2 : VW (w.setCell ⟨r, i, none⟩ (.int .u64 u)) v bm th made := Blk.far hv hvr _
    have hno := Lib.hid (note_any h2 hv2 ⟨0, 2, i, u, 0, [], 0, false⟩ _ (vals_none _ F r) (by have := h.len; omega) hm0 hm1)
    clear hh hx hn ht
    go_enter Try.func13, Try.ntmps13
    go_wp2_with fail
    refine Hh.out.mono ?_
    rintro e w' ⟨rfl, rfl⟩
    go_wp2_with fail
    refine hs.out.mono ?_
    rintro e w' ⟨rfl, rfl⟩
    go_wp2_with fail
    refine hno.out.mono ?_
    rintro e w' ⟨rfl, hN⟩
    go_wp2_with fail
    go_end0
    exact ⟨rfl, Did.pre hN f2⟩
theorem Cas_x (h : PMx w F bm q r tv rows A) (hv : VW w v bm th made) (x o u : Int) (h0 : 0 ≤ x) (hn : A.cells.length ≤ 4194304) (ht : A.trace.length ≤ 1000000000) (hm0 : 0 ≤ made) (hm1 : made ≤ 1000000000) :
    Calls Try.prog 57 #[.pointer (some ⟨v, 0, none⟩), .int .u64 x, .int .u64 o, .int .u64 u] w fun e w' => e = .returned (.bool (A.hit x o)) ∧ Did w w' F bm v th made (A.cas th x o u) := by
  have c1 : w.cell? ⟨v, 0, none⟩ = some _ := Blk.cell hv 0
  have d1 : w.cell? ⟨bm, 0, none⟩ = some _ := h.bM.cell 0
  have hh := has_any h x hn
  simp only [Mem.cas, Mem.note]
  cases hx : A.has x
  · have hno := Lib.hid (note_any h hv ⟨0, 3, x, o, u, [], 0, false⟩ _ (vals_none w F r) (by have := h.len; omega) hm0 hm1)
    have hit : A.hit x o = false := by simp [Mem.hit, hx]
    rw [hit]
    rw [hx] at hh
    have Hh := Lib.hid hh
    clear hh hx hn ht hit
    go_enter Try.func57, Try.ntmps57
    go_wp2_with fail
    refine Hh.out.mono ?_
    rintro e w' ⟨rfl, rfl⟩
    go_wp2_with fail
    refine hno.out.mono ?_
    rintro e w' ⟨rfl, hN⟩
    go_wp2
    go_ret
    exact ⟨rfl, hN⟩
  · obtain ⟨i, rfl, hi⟩ := has_nat h0 hx
    have hp : A.peek i = A.cells.getD i 0 := by simp [Mem.peek]
    rw [hx] at hh
    have Hh := Lib.hid hh
    by_cases ho : A.cells.getD i 0 = o
    · have hit : A.hit i o = true := by rw [Mem.hit, hx, hp, ho]; simp
      rw [hit]
      have hs := Lib.hid (pcas_yes h hi o u ho)
      obtain ⟨h2, f2⟩ := h.put i u
      have hvr : v ≠ r := Blk.ne hv h.bR.choose_spec (by decide)
      have hv2 : VW (w.setCell ⟨r, i, none⟩ (.int .u64 u)) v bm th made := Blk.far hv hvr _
      have hno := Lib.hid (note_any h2 hv2 ⟨0, 3, i, o, u, [], 0, true⟩ _ (vals_none _ F r) (by have := h.len; omega) hm0 hm1)
      clear hh hx hn ht ho hit hp
      go_enter Try.func57, Try.ntmps57
      go_wp2_with fail
      refine Hh.out.mono ?_
      rintro e w' ⟨rfl, rfl⟩
      go_wp2_with fail
      refine hs.out.mono ?_
      rintro e w' ⟨rfl, rfl⟩
      go_wp2_with fail
      refine hno.out.mono ?_
      rintro e w' ⟨rfl, hN⟩
      go_wp2
      go_ret
      exact ⟨rfl, Did.pre hN f2⟩
    · have hit : A.hit i o = false := by rw [Mem.hit, hp]; simp only [ho, decide_false, Bool.and_false]
      rw [hit]
      have hs := Lib.hid (pcas_no h hi o u ho)
      have hno := Lib.hid (note_any h hv ⟨0, 3, i, o, u, [], 0, false⟩ _ (vals_none _ F r) (by have := h.len; omega) hm0 hm1)
      clear hh hx hn ht ho hit hp
      go_enter Try.func57, Try.ntmps57
      go_wp2_with fail
      refine Hh.out.mono ?_
      rintro e w' ⟨rfl, rfl⟩
      go_wp2_with fail
      refine hs.out.mono ?_
      rintro e w' ⟨rfl, rfl⟩
      go_wp2_with fail
      refine hno.out.mono ?_
      rintro e w' ⟨rfl, hN⟩
      go_wp2
      go_ret
      exact ⟨rfl, hN⟩
end
end Go.Proofs.Ytenlgfagfpaenaa

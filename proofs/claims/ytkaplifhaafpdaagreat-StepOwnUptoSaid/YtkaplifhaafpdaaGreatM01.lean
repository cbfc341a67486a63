/-
  View, Made: the texts of the proof, merged. No condition.
-/
import Derived.Test.YtkaplifhaafpdaaGreatM00
import Derived.Deep.QuietTactic
import Derived.BigQuiet
section
/-
  The plain memory's calls through a view: Load, Store, Cas, Add, and Peek, as the plain Lean memory answers. No condition.
-/
namespace Go.Proofs.YtkaplifhaafpdaaGreat
open Go Go.RowKit
set_option linter.unusedSimpArgs false
set_option linter.unusedVariables false
/-- is there a cell? -/
def Mem.has (A : Mem) (x : Int) : Bool := decide (x < A.cells.length)
def Mem.peek (A : Mem) (x : Int) : Int := A.cells.getD x.toNat 0
def Mem.note (A : Mem) (x : Acc) : Mem := { A with trace := A.trace ++ [x] }
def Mem.put (A : Mem) (x v : Int) : Mem := { A with cells := A.cells.set x.toNat v }
def Mem.load (A : Mem) (t x : Int) : Mem := A.note ⟨t, 1, x, 0, 0, [], A.peek x, false⟩
def Mem.store (A : Mem) (t x v : Int) : Mem := (A.put x v).note ⟨t, 2, x, v, 0, [], 0, false⟩
def Mem.hit (A : Mem) (x o : Int) : Bool := A.has x && decide (A.peek x = o)
def Mem.cas (A : Mem) (t x o n : Int) : Mem := (if A.hit x o then A.put x n else A).note ⟨t, 3, x, o, n, [], 0, A.hit x o⟩
def Mem.add (A : Mem) (t x n : Int) : Mem := (A.put x (IntKind.u64.wrap (A.peek x + n))).note ⟨t, 4, x, n, 0, [], A.peek x, false⟩
section
variable {w w' : World} {F G S : Nat → Prop} {bm q r v : Nat} {tv : Value} {rows : List (Acc × Value)} {A : Mem} {th made : Int}
theorem PMx.rowcell (h : PMx w F bm q r tv rows A) {i : Nat} (hi : i < A.cells.length) : w.cell? ⟨r, i, none⟩ = some (.int .u64 (A.cells.getD i 0)) := by
  obtain ⟨sp, h2⟩ := h.bR'
  rw [h2.cell i]; simp [us, hi, List.getD_eq_getElem?_getD, List.getElem?_append_left]
theorem put_past (A : Mem) {x : Int} (hx : A.has x = false) (u : Int) : A.put x u = A := by
  have : (A.cells.length : Int) ≤ x := by simpa [Mem.has] using hx
  unfold Mem.put
  rw [List.set_eq_of_length_le (by omega)]
theorem peek_past (A : Mem) {x : Int} (hx : A.has x = false) : A.peek x = 0 := by
  have : (A.cells.length : Int) ≤ x := by simpa [Mem.has] using hx
  simp [Mem.peek, List.getD_eq_getElem?_getD, show A.cells.length ≤ x.toNat from by omega]
/-- a cell is written -/
theorem PMx.put (h : PMx w F bm q r tv rows A) (i : Nat) (u : Int) : PMx (w.setCell ⟨r, i, none⟩ (.int .u64 u)) F bm q r tv rows (A.put i u) ∧ Fr F w (w.setCell ⟨r, i, none⟩ (.int .u64 u)) := by
  have f : Fr (fun b => b = r) w (w.setCell ⟨r, i, none⟩ (.int .u64 u)) := (Fr.refl (fun b => b = r) w).put (p := ⟨r, i, none⟩) (.inl rfl) _
  refine ⟨⟨h.bM.fr f (Blk.ne h.bM h.bR.choose_spec (by decide)), ?_, ?_, own_fr h.own f ?_, h.fst, ?_, h.fM, h.fQ, h.fR, h.fT⟩, f.mono ?_⟩
  · have := h.Qfr f (Blk.ne h.bQ.choose_spec h.bR.choose_spec (by decide))
    simpa [Mem.put] using this
  · obtain ⟨sp, h2⟩ := h.bR'
    by_cases hi : i < A.cells.length
    · exact ⟨sp, (h2.put i _).eq (by simp [Mem.put, us, List.map_set, List.set_append_left, hi])⟩
    · refine ⟨sp.set (i - A.cells.length) (.int .u64 u), (h2.put i _).eq ?_⟩
      have e : (us A.cells).length = A.cells.length := by simp [us]
      have e2 : A.cells.set i u = A.cells := List.set_eq_of_length_le (by omega)
      simp [Mem.put, e2, List.set_append_right, e, show A.cells.length ≤ i from by omega]
  · intro g e hg; subst hg; exact own_ne h.own h.bR.choose_spec (by decide) e
  · intro y hy
    exact (h.vals y hy).fr f fun k _ hk _ e => hk e
  · rintro k _ rfl; exact h.fR
theorem size_any (h : PMx w F bm q r tv rows A) : Calls Tryz.prog 133 #[.pointer (some ⟨q, 0, none⟩)] w fun e w' => e = .returned (.int .i64 A.cells.length) ∧ w = w' := by
  obtain ⟨cp, hcp, hbQ⟩ := h.bQ'
  have c1 : w.cell? ⟨q, 0, none⟩ = some _ := hbQ.cell 0
  clear hbQ
  go_enter Tryz.func133, Tryz.ntmps133
  go_wp2
  go_ret
  exact ⟨rfl, rfl⟩
theorem pload_any (h : PMx w F bm q r tv rows A) {i : Nat} (hi : i < A.cells.length) : Calls Tryz.prog 131 #[.pointer (some ⟨q, 0, none⟩), .int .u64 i] w fun e w' => e = .returned (.int .u64 (A.cells.getD i 0)) ∧ w = w' := by
  obtain ⟨cp, hcp, hbQ⟩ := h.bQ'
  have c1 : w.cell? ⟨q, 0, none⟩ = some _ := hbQ.cell 0
  clear hbQ
  have c2 := h.rowcell hi
  generalize A.cells.getD i 0 = x at c2 ⊢
  go_enter Tryz.func131, Tryz.ntmps131
  go_wp2
  go_ret
  exact ⟨rfl, rfl⟩
theorem pstore_any (h : PMx w F bm q r tv rows A) {i : Nat} (hi : i < A.cells.length) (u : Int) : Calls Tryz.prog 134 #[.pointer (some ⟨q, 0, none⟩), .int .u64 i, .int .u64 u] w fun e w' => e = .returned (.tuple #[]) ∧ w' = w.setCell ⟨r, i, none⟩ (.int .u64 u) := by
  obtain ⟨cp, hcp, hbQ⟩ := h.bQ'
  have c1 : w.cell? ⟨q, 0, none⟩ = some _ := hbQ.cell 0
  clear hbQ
  have c2 := h.rowcell hi
  have c3 := h.bR.choose_spec.cold i
  go_enter Tryz.func134, Tryz.ntmps134
  go_wp2
  go_end0
  exact ⟨rfl, rfl⟩
theorem pcas_yes (h : PMx w F bm q r tv rows A) {i : Nat} (hi : i < A.cells.length) (o u : Int) (ho : A.cells.getD i 0 = o) : Calls Tryz.prog 129 #[.pointer (some ⟨q, 0, none⟩), .int .u64 i, .int .u64 o, .int .u64 u] w fun e w' => e = .returned (.bool true) ∧ w' = w.setCell ⟨r, i, none⟩ (.int .u64 u) := by
  obtain ⟨cp, hcp, hbQ⟩ := h.bQ'
  have c1 : w.cell? ⟨q, 0, none⟩ = some _ := hbQ.cell 0
  clear hbQ
  have c2 := h.rowcell hi
  have c3 := h.bR.choose_spec.cold i
  rw [ho] at c2
  clear ho
  go_enter Tryz.func129, Tryz.ntmps129
  go_wp2
  go_ret
  exact ⟨rfl, rfl⟩
theorem pcas_no (h : PMx w F bm q r tv rows A) {i : Nat} (hi : i < A.cells.length) (o u : Int) (ho : A.cells.getD i 0 ≠ o) : Calls Tryz.prog 129 #[.pointer (some ⟨q, 0, none⟩), .int .u64 i, .int .u64 o, .int .u64 u] w fun e w' => e = .returned (.bool false) ∧ w = w' := by
  obtain ⟨cp, hcp, hbQ⟩ := h.bQ'
  have c1 : w.cell? ⟨q, 0, none⟩ = some _ := hbQ.cell 0
  clear hbQ
  have c2 := h.rowcell hi
  generalize A.cells.getD i 0 = x at c2 ho
  have t1 : (x != o) = true := by simpa using ho
  have t2 : (x == o) = false := by simpa using ho
  clear ho
  go_enter Tryz.func129, Tryz.ntmps129
  go_wp2
  go_ret
  exact ⟨rfl, rfl⟩
theorem padd_any (h : PMx w F bm q r tv rows A) {i : Nat} (hi : i < A.cells.length) (u : Int) : Calls Tryz.prog 127 #[.pointer (some ⟨q, 0, none⟩), .int .u64 i, .int .u64 u] w fun e w' => e = .returned (.int .u64 (A.cells.getD i 0)) ∧ w' = w.setCell ⟨r, i, none⟩ (.int .u64 (IntKind.u64.wrap (A.cells.getD i 0 + u))) := by
  obtain ⟨cp, hcp, hbQ⟩ := h.bQ'
  have c1 : w.cell? ⟨q, 0, none⟩ = some _ := hbQ.cell 0
  clear hbQ
  have c2 := h.rowcell hi
  have c3 := h.bR.choose_spec.cold i
  generalize A.cells.getD i 0 = x at c2 ⊢
  go_enter Tryz.func127, Tryz.ntmps127
  go_wp2
  go_ret
  exact ⟨rfl, rfl⟩
theorem has_any (h : PMx w F bm q r tv rows A) (x : Int) (hn : A.cells.length ≤ 4194304) : Calls Tryz.prog 68 #[.pointer (some ⟨bm, 0, none⟩), .int .u64 x] w fun e w' => e = .returned (.bool (A.has x)) ∧ w = w' := by
  have c1 : w.cell? ⟨bm, 0, none⟩ = some _ := h.bM.cell 0
  have hs := size_any h
  unfold Mem.has
  generalize A.cells.length = n at hs hn ⊢
  have Hs := Lib.hid hs
  clear hs h
  go_enter Tryz.func68, Tryz.ntmps68
  go_wp2_with fail
  refine Hs.out.mono ?_
  rintro e w' ⟨rfl, rfl⟩
  go_wp2
  go_ret
  exact ⟨rfl, rfl⟩
theorem has_nat {x : Int} (h0 : 0 ≤ x) (h : A.has x = true) : ∃ i : Nat, x = i ∧ i < A.cells.length := by
  have h : x < A.cells.length := by simpa [Mem.has] using h
  exact ⟨x.toNat, by omega, by omega⟩
theorem peek_any (h : PMx w F bm q r tv rows A) (x : Int) (h0 : 0 ≤ x) (hn : A.cells.length ≤ 4194304) : Calls Tryz.prog 102 #[.pointer (some ⟨bm, 0, none⟩), .int .u64 x] w fun e w' => e = .returned (.int .u64 (A.peek x)) ∧ w = w' := by
  have c1 : w.cell? ⟨bm, 0, none⟩ = some _ := h.bM.cell 0
  have hh := has_any h x hn
  cases hx : A.has x
  · have hp := peek_past A hx
    rw [hx] at hh
    rw [hp]
    have Hh := Lib.hid hh
    clear hh hx hp
    go_enter Tryz.func102, Tryz.ntmps102
    go_wp2_with fail
    refine Hh.out.mono ?_
    rintro e w' ⟨rfl, rfl⟩
    go_wp2
    go_ret
    exact ⟨rfl, rfl⟩
  · obtain ⟨i, rfl, hi⟩ := has_nat h0 hx
    rw [hx] at hh
    have hl := pload_any h hi
    have hp : A.peek i = A.cells.getD i 0 := by simp [Mem.peek]
    rw [hp]
    generalize A.cells.getD i 0 = y at *
    have Hh := Lib.hid hh
    have Hl := Lib.hid hl
    clear hh hx hl hp
    go_enter Tryz.func102, Tryz.ntmps102
    go_wp2_with fail
    refine Hh.out.mono ?_
    rintro e w' ⟨rfl, rfl⟩
    go_wp2_with fail
    refine Hl.out.mono ?_
    rintro e w' ⟨rfl, rfl⟩
    go_wp2
    go_ret
    exact ⟨rfl, rfl⟩
/-- what a call through a view leaves -/
def Did (w w' : World) (F : Nat → Prop) (bm v : Nat) (th made : Int) (A : Mem) : Prop :=
  PM w' (Ext F w) bm A ∧ VW w' v bm th (made + 1) ∧ Fr (fun b => F b ∨ b = v) w w'
theorem Did.pre {w1 : World} (h : Did w1 w' F bm v th made A) (hf : Fr F w w1) : Did w w' F bm v th made A :=
  ⟨h.1.wide (fun k hk => by rcases hk with hk | hk; exact .inl hk; exact .inr (Nat.le_trans hf.size hk)), h.2.1, (hf.mono (fun _ _ hk => .inl hk)).trans h.2.2⟩
theorem PMx.len (h : PMx w F bm q r tv rows A) : rows.length = A.trace.length := by rw [← h.fst]; simp
theorem VW.fr (hv : VW w v bm th made) (hf : Fr S w w') (hS : ¬ S v) : VW w' v bm th made := Blk.fr hv hf hS
theorem vals_none (w : World) (F : Nat → Prop) (r : Nat) : Vals w F r (.slice none 0 0) [] := .inl ⟨_, _, rfl, rfl⟩
theorem Load_x (h : PMx w F bm q r tv rows A) (hv : VW w v bm th made) (x : Int) (h0 : 0 ≤ x) (hn : A.cells.length ≤ 4194304) (ht : A.trace.length ≤ 1000000000) (hm0 : 0 ≤ made) (hm1 : made ≤ 1000000000) :
    Calls Tryz.prog 101 #[.pointer (some ⟨v, 0, none⟩), .int .u64 x] w fun e w' => e = .returned (.int .u64 (A.peek x)) ∧ Did w w' F bm v th made (A.load th x) := by
  have c1 : w.cell? ⟨v, 0, none⟩ = some _ := Blk.cell hv 0
  have hp := Lib.hid (peek_any h x h0 hn)
  have hno := Lib.hid (note_any h hv ⟨0, 1, x, 0, 0, [], A.peek x, false⟩ _ (vals_none w F r) (by have := h.len; omega) hm0 hm1)
  simp only [Mem.load, Mem.note]
  clear hn ht
  generalize A.peek x = y at *
  go_enter Tryz.func101, Tryz.ntmps101
  go_wp2_with fail
  refine hp.out.mono ?_
  rintro e w' ⟨rfl, rfl⟩
  go_wp2_with fail
  refine hno.out.mono ?_
  rintro e w' ⟨rfl, hN⟩
  go_wp2
  go_ret
  exact ⟨rfl, hN⟩
theorem Store_x (h : PMx w F bm q r tv rows A) (hv : VW w v bm th made) (x u : Int) (h0 : 0 ≤ x) (hn : A.cells.length ≤ 4194304) (ht : A.trace.length ≤ 1000000000) (hm0 : 0 ≤ made) (hm1 : made ≤ 1000000000) :
    Calls Tryz.prog 22 #[.pointer (some ⟨v, 0, none⟩), .int .u64 x, .int .u64 u] w fun e w' => e = .returned (.tuple #[]) ∧ Did w w' F bm v th made (A.store th x u) := by
  have c1 : w.cell? ⟨v, 0, none⟩ = some _ := Blk.cell hv 0
  have d1 : w.cell? ⟨bm, 0, none⟩ = some _ := h.bM.cell 0
  have hh := has_any h x hn
  simp only [Mem.store, Mem.note]
  cases hx : A.has x
  · have hno := Lib.hid (note_any h hv ⟨0, 2, x, u, 0, [], 0, false⟩ _ (vals_none w F r) (by have := h.len; omega) hm0 hm1)
    rw [put_past A hx]
    rw [hx] at hh
    have Hh := Lib.hid hh
    clear hh hx hn ht
    go_enter Tryz.func22, Tryz.ntmps22
    go_wp2_with fail
    refine Hh.out.mono ?_
    rintro e w' ⟨rfl, rfl⟩
    go_wp2_with fail
    refine hno.out.mono ?_
    rintro e w' ⟨rfl, hN⟩
    go_wp2_with fail
    go_end0
    exact ⟨rfl, hN⟩
  · obtain ⟨i, rfl, hi⟩ := has_nat h0 hx
    rw [hx] at hh
    have Hh := Lib.hid hh
    have hs := Lib.hid (pstore_any h hi u)
    obtain ⟨h2, f2⟩ := h.put i u
    have hvr : v ≠ r := Blk.ne hv h.bR.choose_spec (by decide)
    have hv2 : VW (w.setCell ⟨r, i, none⟩ (.int .u64 u)) v bm th made := Blk.far hv hvr _
    have hno := Lib.hid (note_any h2 hv2 ⟨0, 2, i, u, 0, [], 0, false⟩ _ (vals_none _ F r) (by have := h.len; omega) hm0 hm1)
    clear hh hx hn ht
    go_enter Tryz.func22, Tryz.ntmps22
    go_wp2_with fail
    refine Hh.out.mono ?_
    rintro e w' ⟨rfl, rfl⟩
    go_wp2_with fail
    refine hs.out.mono ?_
    rintro e w' ⟨rfl, rfl⟩
    go_wp2_with fail
    refine hno.out.mono ?_
    rintro e w' ⟨rfl, hN⟩
    go_wp2_with fail
    go_end0
    exact ⟨rfl, Did.pre hN f2⟩
theorem Cas_x (h : PMx w F bm q r tv rows A) (hv : VW w v bm th made) (x o u : Int) (h0 : 0 ≤ x) (hn : A.cells.length ≤ 4194304) (ht : A.trace.length ≤ 1000000000) (hm0 : 0 ≤ made) (hm1 : made ≤ 1000000000) :
    Calls Tryz.prog 105 #[.pointer (some ⟨v, 0, none⟩), .int .u64 x, .int .u64 o, .int .u64 u] w fun e w' => e = .returned (.bool (A.hit x o)) ∧ Did w w' F bm v th made (A.cas th x o u) := by
  have c1 : w.cell? ⟨v, 0, none⟩ = some _ := Blk.cell hv 0
  have d1 : w.cell? ⟨bm, 0, none⟩ = some _ := h.bM.cell 0
  have hh := has_any h x hn
  simp only [Mem.cas, Mem.note]
  cases hx : A.has x
  · have hno := Lib.hid (note_any h hv ⟨0, 3, x, o, u, [], 0, false⟩ _ (vals_none w F r) (by have := h.len; omega) hm0 hm1)
    have hit : A.hit x o = false := by simp [Mem.hit, hx]
    rw [hit]
    rw [hx] at hh
    have Hh := Lib.hid hh
    clear hh hx hn ht hit
    go_enter Tryz.func105, Tryz.ntmps105
    go_wp2_with fail
    refine Hh.out.mono ?_
    rintro e w' ⟨rfl, rfl⟩
    go_wp2_with fail
    refine hno.out.mono ?_
    rintro e w' ⟨rfl, hN⟩
    go_wp2
    go_ret
    exact ⟨rfl, hN⟩
  · obtain ⟨i, rfl, hi⟩ := has_nat h0 hx
    have hp : A.peek i = A.cells.getD i 0 := by simp [Mem.peek]
    rw [hx] at hh
    have Hh := Lib.hid hh
    by_cases ho : A.cells.getD i 0 = o
    · have hit : A.hit i o = true := by rw [Mem.hit, hx, hp, ho]; simp
      rw [hit]
      have hs := Lib.hid (pcas_yes h hi o u ho)
      obtain ⟨h2, f2⟩ := h.put i u
      have hvr : v ≠ r := Blk.ne hv h.bR.choose_spec (by decide)
      have hv2 : VW (w.setCell ⟨r, i, none⟩ (.int .u64 u)) v bm th made := Blk.far hv hvr _
      have hno := Lib.hid (note_any h2 hv2 ⟨0, 3, i, o, u, [], 0, true⟩ _ (vals_none _ F r) (by have := h.len; omega) hm0 hm1)
      clear hh hx hn ht ho hit hp
      go_enter Tryz.func105, Tryz.ntmps105
      go_wp2_with fail
      refine Hh.out.mono ?_
      rintro e w' ⟨rfl, rfl⟩
      go_wp2_with fail
      refine hs.out.mono ?_
      rintro e w' ⟨rfl, rfl⟩
      go_wp2_with fail
      refine hno.out.mono ?_
      rintro e w' ⟨rfl, hN⟩
      go_wp2
      go_ret
      exact ⟨rfl, Did.pre hN f2⟩
    · have hit : A.hit i o = false := by rw [Mem.hit, hp]; simp only [ho, decide_false, Bool.and_false]
      rw [hit]
      have hs := Lib.hid (pcas_no h hi o u ho)
      have hno := Lib.hid (note_any h hv ⟨0, 3, i, o, u, [], 0, false⟩ _ (vals_none _ F r) (by have := h.len; omega) hm0 hm1)
      clear hh hx hn ht ho hit hp
      go_enter Tryz.func105, Tryz.ntmps105
      go_wp2_with fail
      refine Hh.out.mono ?_
      rintro e w' ⟨rfl, rfl⟩
      go_wp2_with fail
      refine hs.out.mono ?_
      rintro e w' ⟨rfl, rfl⟩
      go_wp2_with fail
      refine hno.out.mono ?_
      rintro e w' ⟨rfl, hN⟩
      go_wp2
      go_ret
      exact ⟨rfl, hN⟩
theorem Add_x (h : PMx w F bm q r tv rows A) (hv : VW w v bm th made) (x u : Int) (h0 : 0 ≤ x) (hn : A.cells.length ≤ 4194304) (ht : A.trace.length ≤ 1000000000) (hm0 : 0 ≤ made) (hm1 : made ≤ 1000000000) :
    Calls Tryz.prog 106 #[.pointer (some ⟨v, 0, none⟩), .int .u64 x, .int .u64 u] w fun e w' => e = .returned (.int .u64 (A.peek x)) ∧ Did w w' F bm v th made (A.add th x u) := by
  have c1 : w.cell? ⟨v, 0, none⟩ = some _ := Blk.cell hv 0
  have d1 : w.cell? ⟨bm, 0, none⟩ = some _ := h.bM.cell 0
  have hh := has_any h x hn
  simp only [Mem.add, Mem.note]
  cases hx : A.has x
  · have hno := Lib.hid (note_any h hv ⟨0, 4, x, u, 0, [], 0, false⟩ _ (vals_none w F r) (by have := h.len; omega) hm0 hm1)
    rw [put_past A hx, peek_past A hx]
    rw [hx] at hh
    have Hh := Lib.hid hh
    clear hh hx hn ht
    go_enter Tryz.func106, Tryz.ntmps106
    go_wp2_with fail
    refine Hh.out.mono ?_
    rintro e w' ⟨rfl, rfl⟩
    go_wp2_with fail
    refine hno.out.mono ?_
    rintro e w' ⟨rfl, hN⟩
    go_wp2
    go_ret
    exact ⟨rfl, hN⟩
  · obtain ⟨i, rfl, hi⟩ := has_nat h0 hx
    have hp : A.peek i = A.cells.getD i 0 := by simp [Mem.peek]
    rw [hx] at hh
    have Hh := Lib.hid hh
    have hs := padd_any h hi u
    rw [← hp] at hs
    obtain ⟨h2, f2⟩ := h.put i (IntKind.u64.wrap (A.peek i + u))
    generalize A.peek i = y at *
    have Hs := Lib.hid hs
    have hvr : v ≠ r := Blk.ne hv h.bR.choose_spec (by decide)
    have hv2 : VW (w.setCell ⟨r, i, none⟩ (.int .u64 (IntKind.u64.wrap (y + u)))) v bm th made := Blk.far hv hvr _
    have hno := Lib.hid (note_any h2 hv2 ⟨0, 4, i, u, 0, [], y, false⟩ _ (vals_none _ F r) (by have := h.len; omega) hm0 hm1)
    clear hh hx hn ht hp hs
    go_enter Tryz.func106, Tryz.ntmps106
    go_wp2_with fail
    refine Hh.out.mono ?_
    rintro e w' ⟨rfl, rfl⟩
    go_wp2_with fail
    refine Hs.out.mono ?_
    rintro e w' ⟨rfl, rfl⟩
    go_wp2_with fail
    refine hno.out.mono ?_
    rintro e w' ⟨rfl, hN⟩
    go_wp2
    go_ret
    exact ⟨rfl, Did.pre hN f2⟩
end
end Go.Proofs.YtkaplifhaafpdaaGreat
end
section
/-
  A plain memory that is made; its views, and what they and the memory tell of themselves. No condition.
-/
namespace Go.Proofs.YtkaplifhaafpdaaGreat
open Go Go.RowKit
set_option linter.unusedSimpArgs false
set_option linter.unusedVariables false
/-- a new memory of n cells -/
def Mem.made (n : Nat) : Mem := ⟨List.replicate n 0, 1, []⟩
theorem made_zeros (n : Nat) : madeCells #[Value.int .u64 0] n = (us (List.replicate n 0)).toArray := by
  apply Array.toList_inj.1
  rw [toList_madeCells_one]
  simp [us]
theorem run_zeros (n : Nat) (h : n ≤ 4194304) (u : World) : (Instr.makeSlice 107 (.int .i64 (n : Int)) (.int .i64 (n : Int))).run Tryz.prog u =
      .ok (.slice (some ⟨u.heap.size, 0, none⟩) n n) (u.alloc (.cells (us (List.replicate n 0)).toArray 72)) := by
  obtain ⟨i0, hi, hz0, hz1, hz2⟩ := info_parts infoU
  have h := run_make (P := Tryz.prog) u 107 72 i0 (.int .u64 0) Tryz.underlying107 hi hz0 .i64 .i64 (n : Int) (n : Int) (by omega) (Int.le_refl _) (by rw [hz2]; omega) (by omega)
  rw [← made_zeros]
  simpa [hz1, Value.cells] using h
theorem plain_made (w : World) (n : Nat) :
    PM (((w.alloc (.cells (us (Mem.made n).cells).toArray 72)).alloc (.cells #[.slice (some ⟨w.heap.size, 0, none⟩) n n, .int .i64 1] 141)).alloc
      (.cells #[.iface 139 (.pointer (some ⟨w.heap.size + 1, 0, none⟩)), .bool false, .slice none 0 0] 138)) (fun b => w.heap.size ≤ b) (w.heap.size + 1 + 1) (Mem.made n) ∧
    Below w.heap.size w (((w.alloc (.cells (us (Mem.made n).cells).toArray 72)).alloc (.cells #[.slice (some ⟨w.heap.size, 0, none⟩) n n, .int .i64 1] 141)).alloc
      (.cells #[.iface 139 (.pointer (some ⟨w.heap.size + 1, 0, none⟩)), .bool false, .slice none 0 0] 138)) := by
  refine ⟨⟨w.heap.size + 1, w.heap.size, .slice none 0 0, [], ⟨?_, ?_, ?_, ?_, rfl, ?_, ?_, ?_, ?_, ?_⟩⟩, (((Below.refl _ _).alloc (Nat.le_refl _) _).alloc (by simp) _).alloc (by simp; omega) _⟩
  · have := Blk.made ((w.alloc (.cells (us (Mem.made n).cells).toArray 72)).alloc (.cells #[.slice (some ⟨w.heap.size, 0, none⟩) n n, .int .i64 1] 141)) 138 #[.iface 139 (.pointer (some ⟨w.heap.size + 1, 0, none⟩)), .bool false, .slice none 0 0]
    simpa using this
  · have := (Blk.made (w.alloc (.cells (us (Mem.made n).cells).toArray 72)) 141 #[.slice (some ⟨w.heap.size, 0, none⟩) n n, .int .i64 1]).alloc (.cells #[.iface 139 (.pointer (some ⟨w.heap.size + 1, 0, none⟩)), .bool false, .slice none 0 0] 138)
    exact ⟨n, by simp [Mem.made], by simpa [Mem.made] using this⟩
  · exact ⟨[], by simpa using ((Blk.made w 72 (us (Mem.made n).cells).toArray).alloc (.cells #[.slice (some ⟨w.heap.size, 0, none⟩) n n, .int .i64 1] 141)).alloc (.cells #[.iface 139 (.pointer (some ⟨w.heap.size + 1, 0, none⟩)), .bool false, .slice none 0 0] 138)⟩
  · exact World.ownsRow_nil _ _ _ _
  · intro x hx; cases hx
  · show w.heap.size ≤ _; omega
  · show w.heap.size ≤ _; omega
  · show w.heap.size ≤ _; omega
  · intro g e; cases e
set_option maxRecDepth 100000 in
theorem New_plain (w : World) (n : Nat) (h0 : 128 ≤ n) (h1 : n ≤ 4194304) : Calls Tryz.prog 15 #[.int .i64 (n : Int), .bool false] w fun e w' => ∃ bm, e = .returned (.tuple #[.pointer (some ⟨bm, 0, none⟩), .int .i64 0]) ∧ PM w' (fun b => w.heap.size ≤ b) bm (Mem.made n) ∧ Below w.heap.size w w' := by
  have hmk := run_zeros n h1
  have h2 : decide ((n : Int) < 128) = false := by simp; omega
  have h3 : decide ((4194304 : Int) < (n : Int)) = false := by simp; omega
  have h3' : decide (4194304 < n) = false := by simp; omega
  have h2' : decide (n < 128) = false := by simp; omega
  clear h0 h1
  have HP := Lib.hid (plain_made w n)
  unfold Mem.made at HP ⊢
  generalize List.replicate n (0 : Int) = cs at *
  go_enter Tryz.func15, Tryz.ntmps15
  go_wp2
  go_ret2
  exact ⟨_, rfl, HP.out.1, HP.out.2⟩
theorem New_out (w : World) (n : Int) (b : Bool) (h : n < 128 ∨ 4194304 < n) : Calls Tryz.prog 15 #[.int .i64 n, .bool b] w fun e w' => e = .returned (.tuple #[.pointer none, .int .i64 2]) ∧ w = w' := by
  rcases h with h | h
  · have h2 : decide (n < 128) = true := by simp; omega
    clear h
    go_enter Tryz.func15, Tryz.ntmps15
    go_wp2
    go_ret2
    exact ⟨rfl, rfl⟩
  · have h2 : decide (n < 128) = false := by simp; omega
    have h3 : decide (4194304 < n) = true := by simp; omega
    clear h
    go_enter Tryz.func15, Tryz.ntmps15
    go_wp2
    go_ret2
    exact ⟨rfl, rfl⟩
theorem View_any (w : World) (bm : Nat) (th : Int) : Calls Tryz.prog 21 #[.pointer (some ⟨bm, 0, none⟩), .int .i64 th] w fun e w' => e = .returned (.pointer (some ⟨w.heap.size, 0, none⟩)) ∧ w' = w.alloc (.cells #[.pointer (some ⟨bm, 0, none⟩), .int .i64 th, .int .i64 0] 148) := by
  go_enter Tryz.func21, Tryz.ntmps21
  go_wp2
  go_ret
  exact ⟨rfl, rfl⟩
end Go.Proofs.YtkaplifhaafpdaaGreat
end

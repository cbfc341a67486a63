/-
  A run of calls of vcas, as plain Lean: versions lie in chains that grow at their heads; a Read tells a value of one. No condition.
-/
import Derived.Test.YtenlgfagfpaenaaVrR
namespace Go.Proofs.Ytenlgfagfpaenaa
open Go Go.RowKit
set_option linter.unusedSimpArgs false
set_option linter.unusedVariables false
def Ob (o : Int) : Prop := o = 2 ∨ o = 3 ∨ o = 4
/-- a version was made at n -/
def Al (A : Mem) (n : Int) : Prop := 5 ≤ n ∧ n + 3 ≤ A.next ∧ (n - 5) % 3 = 0
structure Inv (A : Mem) (L : Int → List Int) : Prop where
  sane : A.Sane
  len : A.cells.length = 16384
  nx : 5 ≤ A.next ∧ ((A.next : Int) - 5) % 3 = 0
  hd : ∀ o, Ob o → A.peek o = (L o).headD 0
  al : ∀ o, Ob o → ∀ n ∈ L o, Al A n
  ch : ∀ o, Ob o → ∀ (i : Nat) n, (L o)[i]? = some n → A.peek (n + 2) = ((L o)[i + 1]?).getD 0
  lt : ∀ o, Ob o → (L o).Pairwise (· > ·)
  no : ∀ o, ¬ Ob o → ∀ n, n ∉ L o
structure Le (A A' : Mem) (L L' : Int → List Int) : Prop where
  nx : A.next ≤ A'.next
  v : ∀ n, Al A n → A'.peek n = A.peek n ∧ A'.peek (n + 2) = A.peek (n + 2)
  l : ∀ o n, n ∈ L o → n ∈ L' o
/-- what is known of a call under way -/
def Pst (A : Mem) (L : Int → List Int) (c : Cl) : Vs → Prop
  | .new => True
  | .find h _ _ => h ∈ L c.obj
  | .load h => h ∈ L c.obj
  | .make h => h = 0 ∨ h ∈ L c.obj
  | .swap h n => (h = 0 ∨ h ∈ L c.obj) ∧ Al A n ∧ A.peek (n + 2) = h ∧ h < n ∧ ∀ o, n ∉ L o
  | .look _ _ => L c.obj ≠ []
  | .settle _ _ _ ver _ _ => ver ∈ L c.obj
  | .alook h => h ∈ L c.obj
  | .awalk h => h ∈ L c.obj
  | .loaded _ => True
  | .done v _ => c.kind = 0 → v = 0 ∨ ∃ n ∈ L c.obj, Al A n ∧ A.peek n = v
section
variable {A A' : Mem} {L L' : Int → List Int} {c : Cl} {st : Vs} {cam th x v : Int}
theorem Al.mono (h : Al A v) (hn : A.next ≤ A'.next) : Al A' v := ⟨h.1, by have := h.2.1; omega, h.2.2⟩
theorem Le.refl (A : Mem) (L : Int → List Int) : Le A A L L := ⟨Nat.le_refl _, fun _ _ => ⟨rfl, rfl⟩, fun _ _ h => h⟩
theorem Pst.le (h : Pst A L c st) (hl : Le A A' L L') (hn : ∀ h n, st = .swap h n → ∀ o, n ∉ L' o) : Pst A' L' c st := by
  cases st with
  | new => trivial
  | find h0 a y => exact hl.l _ _ h
  | load h0 => exact hl.l _ _ h
  | make h0 => exact h.imp id (hl.l _ _)
  | swap h0 n => exact ⟨h.1.imp id (hl.l _ _), h.2.1.mono hl.nx, (hl.v n h.2.1).2.trans h.2.2.1, h.2.2.2.1, hn _ _ rfl⟩
  | look h0 n =>
    intro e
    have h : L c.obj ≠ [] := h
    cases hL : L c.obj with
    | nil => exact h hL
    | cons m r =>
      have := hl.l c.obj m (by rw [hL]; exact List.mem_cons_self)
      rw [e] at this
      cases this
  | settle h0 n sw ver a y => exact hl.l _ _ h
  | alook h0 => exact hl.l _ _ h
  | awalk h0 => exact hl.l _ _ h
  | loaded t => trivial
  | done v sw => exact fun hk => (h hk).imp id fun ⟨n, h1, h2, h3⟩ => ⟨n, hl.l _ _ h1, h2.mono hl.nx, (hl.v n h2).1.trans h3⟩
theorem peek_of (h : A'.cells = A.cells) (y : Int) : A'.peek y = A.peek y := by unfold Mem.peek; rw [h]
theorem peek_set (h : A'.cells = A.cells.set x.toNat v) (hx : 0 ≤ x) (hl : x < A.cells.length) {y : Int} (hy : 0 ≤ y) : A'.peek y = if y = x then v else A.peek y := by
  unfold Mem.peek
  rw [h, List.getD_eq_getElem?_getD, List.getD_eq_getElem?_getD, List.getElem?_set]
  by_cases e : y = x
  · subst e
    rw [if_pos rfl, if_pos rfl, if_pos (by omega)]
    rfl
  · rw [if_neg (by omega), if_neg e]
theorem Al.lt (h : Inv A L) (hn : Al A v) : 5 ≤ v ∧ v + 3 ≤ 16384 := ⟨hn.1, by have := hn.2.1; have := h.sane.next; have := h.len; omega⟩
/-- nothing of the versions is written -/
theorem Inv.same (h : Inv A L) (hs : A'.Sane) (hc : A'.cells = A.cells) (hn : A'.next = A.next) : Inv A' L ∧ Le A A' L L :=
  ⟨⟨hs, by rw [hc]; exact h.len, by rw [hn]; exact h.nx, fun o ho => (peek_of hc o).trans (h.hd o ho), fun o ho n hm => (h.al o ho n hm).mono (by omega), fun o ho i n hi => (peek_of hc _).trans (h.ch o ho i n hi), h.lt, h.no⟩, ⟨by omega, fun n _ => ⟨peek_of hc _, peek_of hc _⟩, fun _ _ h => h⟩⟩
/-- a cell is written that is no object, no value, no older's -/
theorem Inv.wr (h : Inv A L) (hs : A'.Sane) (hc : A'.cells = A.cells.set x.toNat v) (hn : A'.next = A.next) (hx : 0 ≤ x) (hxl : x < 16384) (h1 : ∀ o, Ob o → x ≠ o) (h2 : ∀ n, Al A n → x ≠ n ∧ x ≠ n + 2) : Inv A' L ∧ Le A A' L L := by
  have hl : x < A.cells.length := by rw [h.len]; exact hxl
  have pk : ∀ y, 0 ≤ y → y ≠ x → A'.peek y = A.peek y := fun y hy hne => by rw [peek_set hc hx hl hy, if_neg hne]
  refine ⟨⟨hs, by rw [hc, List.length_set]; exact h.len, by rw [hn]; exact h.nx, fun o ho => ?_, fun o ho n hm => (h.al o ho n hm).mono (by omega), fun o ho i n hi => ?_, h.lt, h.no⟩, ⟨by omega, fun n hn => ⟨pk n (by have := hn.1; omega) (fun e => (h2 n hn).1 e.symm), pk _ (by have := hn.1; omega) (fun e => (h2 n hn).2 e.symm)⟩, fun _ _ h => h⟩⟩
  · rw [pk o (by rcases ho with rfl | rfl | rfl <;> decide) (fun e => h1 o ho e.symm)]
    exact h.hd o ho
  · have ha := h.al o ho n (List.mem_of_getElem? hi)
    rw [pk _ (by have := ha.1; omega) (fun e => (h2 n ha).2 e.symm)]
    exact h.ch o ho i n hi
theorem Inv.cas (h : Inv A L) (o n : Int) (hn : 0 ≤ n) (hx : 0 ≤ x) (hxl : x < 16384) (h1 : ∀ o, Ob o → x ≠ o) (h2 : ∀ n, Al A n → x ≠ n ∧ x ≠ n + 2) : Inv (A.cas th x o n) L ∧ Le A (A.cas th x o n) L L := by
  have hs := h.sane.cas th x o hn
  have e : (A.cas th x o n).cells = (if A.hit x o then A.put x n else A).cells := rfl
  have e2 : (A.cas th x o n).next = A.next := by unfold Mem.cas; split <;> rfl
  by_cases hh : A.hit x o = true
  · rw [if_pos hh] at e
    exact h.wr hs e e2 hx hxl h1 h2
  · rw [if_neg hh] at e
    exact h.same hs e e2
theorem Inv.load (h : Inv A L) (x : Int) : Inv (A.load th x) L ∧ Le A (A.load th x) L L := h.same (h.sane.load th x) rfl rfl
theorem Inv.stamp (h : Inv A L) {ver : Int} (hv : Al A ver) : 0 ≤ wr64 (ver + 1) ∧ wr64 (ver + 1) < 16384 ∧ wr64 (ver + 1) = ver + 1 ∧ (∀ o, Ob o → wr64 (ver + 1) ≠ o) ∧ ∀ n, Al A n → wr64 (ver + 1) ≠ n ∧ wr64 (ver + 1) ≠ n + 2 := by
  obtain ⟨l1, l2⟩ := hv.lt h
  have e : wr64 (ver + 1) = ver + 1 := by show IntKind.u64.wrap _ = _; rw [IntKind.wrap_u64]; omega
  rw [e]
  have h3 := hv.2.2
  refine ⟨by omega, by omega, rfl, fun o ho => by rcases ho with rfl | rfl | rfl <;> omega, fun n hn => ?_⟩
  have := hn.2.2
  omega
theorem ist_inv (h : Inv A L) {ver : Int} (hv : Al A ver) (a : Nat) {y : Int} (hy : 0 ≤ y) : Inv (ist 1 th A ver a y).1 L ∧ Le A (ist 1 th A ver a y).1 L L := by
  match a with
  | 0 => exact h.load _
  | 1 => exact h.load _
  | a + 2 =>
    obtain ⟨s1, s2, s3, s4, s5⟩ := h.stamp hv
    exact h.cas 0 y hy s1 s2 s4 s5
/-- a version is made -/
theorem Inv.made (h : Inv A L) {b hh : Int} (hb : 0 ≤ b) (hh0 : 0 ≤ hh) : Inv (A.alloc th [b, 0, hh]) L ∧ Le A (A.alloc th [b, 0, hh]) L L ∧
    (A.spot [b, 0, hh] ≠ 0 → Al (A.alloc th [b, 0, hh]) (A.spot [b, 0, hh]) ∧ A.spot [b, 0, hh] = A.next ∧ (A.alloc th [b, 0, hh]).peek (A.spot [b, 0, hh] + 2) = hh ∧ (A.alloc th [b, 0, hh]).peek (A.spot [b, 0, hh]) = b) := by
  have hs : (A.alloc th [b, 0, hh]).Sane := h.sane.alloc th (by intro v hv; simp at hv; rcases hv with rfl | rfl | rfl; exact hb; decide; exact hh0)
  have e : (A.alloc th [b, 0, hh]).cells = (if A.fits [b, 0, hh] then A.laid [b, 0, hh] else A).cells := rfl
  have e2 : (A.alloc th [b, 0, hh]).next = (if A.fits [b, 0, hh] then A.laid [b, 0, hh] else A).next := rfl
  by_cases hf : A.fits [b, 0, hh] = true
  · rw [if_pos hf] at e e2
    have hf2 := hf
    simp [Mem.fits] at hf2
    have hsp : A.spot [b, 0, hh] = A.next := by unfold Mem.spot; rw [if_pos hf]
    have e3 : (A.alloc th [b, 0, hh]).next = A.next + 3 := e2
    have ec : (A.alloc th [b, 0, hh]).cells = A.cells.take A.next ++ ([b, 0, hh] ++ A.cells.drop (A.next + 3)) := e
    have htk : (A.cells.take A.next).length = A.next := by rw [List.length_take]; omega
    have pk : ∀ y : Int, 0 ≤ y → y < A.next → (A.alloc th [b, 0, hh]).peek y = A.peek y := by
      intro y h0 h1
      unfold Mem.peek
      rw [ec, List.getD_eq_getElem?_getD, List.getD_eq_getElem?_getD, List.getElem?_append_left (by omega), List.getElem?_take_of_lt (by omega)]
    have pv : ∀ i : Nat, i < 3 → (A.alloc th [b, 0, hh]).peek ((A.next : Int) + i) = ([b, 0, hh])[i]?.getD 0 := by
      intro i hi
      unfold Mem.peek
      rw [ec, List.getD_eq_getElem?_getD, List.getElem?_append_right (by omega), htk, show ((A.next : Int) + i).toNat - A.next = i by omega, List.getElem?_append_left (by simpa using hi)]
    have hnx := h.nx
    refine ⟨⟨hs, ?_, ⟨by omega, by rw [e3]; omega⟩, fun o ho => ?_, fun o ho n hm => (h.al o ho n hm).mono (by omega), fun o ho i n hi => ?_, h.lt, h.no⟩, ⟨by omega, fun n hn => ⟨pk n (by have := hn.1; omega) (by have := hn.2.1; omega), pk _ (by have := hn.1; omega) (by have := hn.2.1; omega)⟩, fun _ _ h => h⟩, fun _ => ?_⟩
    · have := length_splice A.cells A.next [b, 0, hh] hf2
      exact e ▸ (this.trans h.len)
    · rw [pk o (by rcases ho with rfl | rfl | rfl <;> decide) (by rcases ho with rfl | rfl | rfl <;> omega)]
      exact h.hd o ho
    · have ha := h.al o ho n (List.mem_of_getElem? hi)
      rw [pk _ (by have := ha.1; omega) (by have := ha.2.1; omega)]
      exact h.ch o ho i n hi
    · rw [hsp]
      refine ⟨⟨by omega, by omega, hnx.2⟩, rfl, ?_, ?_⟩
      · have := pv 2 (by decide); simpa using this
      · have := pv 0 (by decide); simpa using this
  · rw [if_neg hf] at e e2
    obtain ⟨i1, i2⟩ := h.same hs e e2
    exact ⟨i1, i2, fun hne => absurd (by unfold Mem.spot; rw [if_neg hf]) hne⟩
/-- a version becomes the newest -/
theorem Inv.swapped (h : Inv A L) {o hh n : Int} (ho : Ob o) (hhit : A.hit o hh = true) (ha : Al A n) (hp : A.peek (n + 2) = hh) (hlt : hh < n) (hn : ∀ o, n ∉ L o) :
    Inv (A.cas th o hh n) (fun y => if y = o then n :: L o else L y) ∧ Le A (A.cas th o hh n) L (fun y => if y = o then n :: L o else L y) := by
  obtain ⟨l1, l2⟩ := ha.lt h
  have hs := h.sane.cas th o hh (show 0 ≤ n by omega)
  have e : (A.cas th o hh n).cells = (A.put o n).cells := by
    have e : (A.cas th o hh n).cells = (if A.hit o hh then A.put o n else A).cells := rfl
    rw [if_pos hhit] at e; exact e
  have e2 : (A.cas th o hh n).next = A.next := by unfold Mem.cas; split <;> rfl
  have ho4 : 2 ≤ o ∧ o ≤ 4 := by rcases ho with rfl | rfl | rfl <;> decide
  have hl : o < A.cells.length := by rw [h.len]; omega
  have hpk : A.peek o = hh := by
    unfold Mem.hit at hhit
    simp at hhit
    exact hhit.2
  have pk : ∀ y, 0 ≤ y → (A.cas th o hh n).peek y = if y = o then n else A.peek y := fun y hy => peek_set e (by omega) hl hy
  have hhd := h.hd o ho
  rw [hpk] at hhd
  refine ⟨⟨hs, by rw [e]; simpa [Mem.put] using h.len, by rw [e2]; exact h.nx, fun y hy => ?_, fun y hy m hm => ?_, fun y hy i m hi => ?_, fun y hy => ?_, fun y hy m hm => ?_⟩, ⟨by omega, fun m hm => ?_, fun y m hm => ?_⟩⟩
  · rw [pk y (by rcases hy with rfl | rfl | rfl <;> decide)]
    by_cases hyo : y = o
    · simp [hyo]
    · simp only [hyo, if_false]; exact h.hd y hy
  · refine Al.mono (A := A) ?_ (by omega)
    by_cases hyo : y = o
    · simp only [hyo, if_true] at hm
      rcases List.mem_cons.1 hm with rfl | hm
      · exact ha
      · exact h.al o ho m hm
    · simp only [hyo, if_false] at hm
      exact h.al y hy m hm
  · by_cases hyo : y = o
    · simp only [hyo, if_true] at hi ⊢
      cases i with
      | zero =>
        have hi : n = m := by simpa using hi
        subst hi
        rw [pk _ (by omega), if_neg (by omega), hp, hhd]
        cases L o <;> rfl
      | succ i =>
        have hi : (L o)[i]? = some m := by simpa using hi
        have hm := h.al o ho m (List.mem_of_getElem? hi)
        rw [pk _ (by have := hm.1; omega), if_neg (by have := hm.1; omega)]
        simpa using h.ch o ho i m hi
    · simp only [hyo, if_false] at hi ⊢
      have hm := h.al y hy m (List.mem_of_getElem? hi)
      rw [pk _ (by have := hm.1; omega), if_neg (by have := hm.1; omega)]
      exact h.ch y hy i m hi
  · by_cases hyo : y = o
    · simp only [hyo, if_true]
      have hlo := h.lt o ho
      refine List.pairwise_cons.2 ⟨fun m hm => ?_, hlo⟩
      cases hL : L o with
      | nil => rw [hL] at hm; cases hm
      | cons f r =>
        rw [hL] at hm hlo hhd
        have hf : hh = f := by simpa using hhd
        rcases List.mem_cons.1 hm with rfl | hm
        · show n > m; omega
        · have := (List.pairwise_cons.1 hlo).1 m hm
          show n > m; omega
    · simp only [hyo, if_false]; exact h.lt y hy
  · by_cases hyo : y = o
    · exact hy (hyo ▸ ho)
    · simp only [hyo, if_false] at hm; exact h.no y hy m hm
  · rw [pk m (by have := hm.1; omega), if_neg (by have := hm.1; omega), pk _ (by have := hm.1; omega), if_neg (by have := hm.1; omega)]
    exact ⟨rfl, rfl⟩
  · by_cases hyo : y = o
    · simp only [hyo, if_true]; rw [hyo] at hm; exact List.mem_cons_of_mem _ hm
    · simp only [hyo, if_false]; exact hm
end
end Go.Proofs.Ytenlgfagfpaenaa

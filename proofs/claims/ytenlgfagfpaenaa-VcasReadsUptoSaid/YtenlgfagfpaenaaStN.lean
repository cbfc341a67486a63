/-
  A runner that is made: what is copied of the threads, their views. No condition.
-/
import Derived.Test.YtenlgfagfpaenaaStF
import Derived.RangeFuncCalls
namespace Go.Proofs.Ytenlgfagfpaenaa
open Go Go.RowKit
set_option linter.unusedSimpArgs false
set_option linter.unusedVariables false
theorem infoP : (Try.prog.info? 141).map (fun i => (i.zero, i.size, i.bytes)) = some (some .nilIface, 1, 16) := by kernel_rfl
theorem infoTh : (Try.prog.info? 179).map (fun i => (i.zero, i.size, i.bytes)) = some (some (.agg #[.slice none 0 0, .int .i64 0, .bool false]), 3, 40) := by kernel_rfl
/-- a row of values that reads as l, wherever it lies -/
def Reads (w : World) (v : Value) (l : List Value) : Prop := ∃ p c, v = .slice p l.length c ∧ (p = none → c = 0) ∧ ∀ j x, l[j]? = some x → ∃ b o, p = some ⟨b, o, none⟩ ∧ b < w.heap.size ∧ w.cell? ⟨b, o + j, none⟩ = some x
section
variable {w0 w w' w1 w2 : World} {R S G E E' U : Nat → Prop} {rp bm n : Nat} {vws : List Nat} {T T' : List Thr} {x : Thr} {t : Nat} {v : Value} {l : List Value}
theorem Reads.below (h : Reads w v l) (hb : Below w.heap.size w w') : Reads w' v l := by
  obtain ⟨p, c, e, hn, hc⟩ := h
  refine ⟨p, c, e, hn, fun j x hj => ?_⟩
  obtain ⟨b, o, e1, hl, hx⟩ := hc j x hj
  exact ⟨b, o, e1, Nat.lt_of_lt_of_le hl hb.size, (hb.cell (p := ⟨b, o + j, none⟩) hl).trans hx⟩
set_option maxRecDepth 100000 in
theorem CloneP_own (h : Reads w v l) (hn : l.length ≤ 1000000000) (h1 : ∀ x ∈ l, x.oneCell' = true) : Calls Try.prog 77 #[v] w fun e w' => ∃ v', e = .returned v' ∧ w'.ownsRow w.heap.size 141 1 v' l.length l ∧ Below w.heap.size w w' := by
  obtain ⟨p, c, rfl, hpc, hc⟩ := h
  have heq := fun (w : World) (a : Option Addr) (n c n' c' : Nat) => Lib.run_eql_slice_nil (P := Try.prog) w 139 141 a n c n' c' Try.underlying139
  cases p with
  | none =>
    have h0 : l = [] := by
      cases l with
      | nil => rfl
      | cons y l => obtain ⟨b, o, e, _⟩ := hc 0 y rfl; cases e
    subst h0
    obtain rfl := hpc rfl
    clear hc h1
    go_enter Try.func77, Try.ntmps77
    go_wp2
    go_ret
    exact ⟨_, rfl, World.ownsRow_nil _ _ _ _, Below.refl _ _⟩
  | some ad =>
    obtain ⟨i0, hi, hz0, hz1, hz2⟩ := info_parts infoP
    have hc' : ∀ o j u, l[j]? = some u → (w.alloc o).cell? (ad.add j) = some u := by
      intro o j u hu
      obtain ⟨b, o', e, hl, hx⟩ := hc j u hu
      injection e with e
      subst e
      have ea : (⟨b, o', none⟩ : Addr).add j = ⟨b, o' + j, none⟩ := by unfold Addr.add; split <;> simp_all
      rw [ea, World.cell?_alloc_lt w o _ hl]
      exact hx
    have HC := Lib.hid hc'
    have H1 := Lib.hid h1
    have HE := Lib.hid (emp_own w 141 1)
    clear hc hc' h1 hpc
    go_enter Try.func77, Try.ntmps77
    go_wp2_with (at_builtin; refine wpList_append_own _ rfl _ _ 139 rfl w.heap.size 141 i0 _ 1 16 Try.underlying139 hi hz0 hz1 hz2 rfl (by decide) _ _ _ rfl HE.out ad l.length c l rfl (by omega) (HC.out _) H1.out (by unfold maxLen; omega) (by omega) (by simp) ?_; intro v' w' hown' hgrow _)
    have hB : Below w.heap.size w w' := ((Below.refl _ w).alloc (Nat.le_refl _) _).grown hgrow (by simp) (by intro k hk; have hk' : some w.heap.size = some k := hk; injection hk' with e; omega)
    go_ret
    exact ⟨_, rfl, by simpa using hown', hB⟩
/-- rows of rows -/
def Reads2 (w : World) (v : Value) (ps : List (List Value)) : Prop := ∃ vs : List Value, Reads w v vs ∧ vs.length = ps.length ∧ ∀ (j : Nat) (u : Value) (l : List Value), vs[j]? = some u → ps[j]? = some l → Reads w u l
theorem Reads2.below {ps : List (List Value)} (h : Reads2 w v ps) (hb : Below w.heap.size w w') : Reads2 w' v ps := by
  obtain ⟨vs, h1, h2, h3⟩ := h
  exact ⟨vs, h1.below hb, h2, fun j u l hu hl => (h3 j u l hu hl).below hb⟩
theorem over_any (w : World) (p : Option Addr) (n c : Nat) : Calls Try.prog 76 #[.slice p n c] w fun e w' => e = .returned (.bool (decide (4096 < n))) ∧ w = w' := by
  go_enter Try.func76, Try.ntmps76
  go_wp2
  go_ret
  exact ⟨by simp; omega, rfl⟩
def tooLong (ps : List (List Value)) : Bool := ps.any fun l => decide (4096 < l.length)
set_option maxRecDepth 100000 in
theorem index_any {ps : List (List Value)} {p : Option Addr} {c : Nat} (h : Reads2 w (.slice p ps.length c) ps) (hn : ps.length ≤ 1048576) : Calls Try.prog 86 #[.slice p ps.length c, .func (.func 76) #[] #[]] w fun e w' => ∃ r : Int, e = .returned (.int .i64 r) ∧ Hid (decide (0 ≤ r) = tooLong ps ∧ -1 ≤ r ∧ r ≤ 1048576) ∧ w = w' := by
  have H := Lib.hid h
  clear h
  go_enter Try.func86, Try.ntmps86
  go_wp2_with fail
  go_loop [8] (fun i => ∃ k : Nat, i = .int .i64 k ∧ k ≤ ps.length ∧ ∀ (j : Nat) l, j < k → ps[j]? = some l → l.length ≤ 4096) (fun i => ps.length - (intOf i).toNat)
  case atStart => exact ⟨0, rfl, Nat.zero_le _, fun j l hj => by omega⟩
  case round =>
    obtain ⟨k, rfl, hk, hall⟩ := hrel
    by_cases hlt : k < ps.length
    · obtain ⟨l, hl⟩ : ∃ l, ps[k]? = some l := ⟨_, List.getElem?_eq_getElem hlt⟩
      obtain ⟨vs, ⟨p', c', e, -, hc⟩, hvl, hr⟩ := H.out
      obtain ⟨u, hu⟩ : ∃ u, vs[k]? = some u := ⟨_, List.getElem?_eq_getElem (by omega)⟩
      injection e with e1 e2 e3
      subst e1 e3
      obtain ⟨b, o, rfl, hbl, c1⟩ := hc k u hu
      obtain ⟨q, d, rfl, -, -⟩ := hr k u l hu hl
      by_cases hov : 4096 < l.length
      · have hF : Hid (tooLong ps = true) := by
          show _ = _
          unfold tooLong
          rw [List.any_eq_true]
          exact ⟨l, List.mem_of_getElem? hl, by simpa using hov⟩
        have HO := over_any w q l.length d
        rw [decide_eq_true hov] at HO
        have HO := Lib.hid HO
        clear hall hc hr hu hl hvl e2 hov
        go_wp2_with fail
        refine HO.out.mono ?_
        rintro e w' ⟨rfl, rfl⟩
        go_wp2
        go_ret
        exact ⟨k, rfl, by rw [hF.out]; exact ⟨by simp, by omega, by omega⟩, rfl⟩
      · have HO := over_any w q l.length d
        rw [decide_eq_false hov] at HO
        have HO := Lib.hid HO
        have HALL : Hid (∀ (j : Nat) l, j < k + 1 → ps[j]? = some l → l.length ≤ 4096) := by
          intro j l' hj hl'
          by_cases e : j = k
          · subst e; rw [hl] at hl'; injection hl' with hl'; subst hl'; omega
          · exact hall j l' (by omega) hl'
        clear hall hc hr hu hl hvl e2 hov
        go_wp2_with fail
        refine HO.out.mono ?_
        rintro e w' ⟨rfl, rfl⟩
        go_wp2_with fail
        go_round
        case rel => exact ⟨k + 1, by go_num, by omega, HALL.out⟩
        case measure => simp [intOf]; omega
    · obtain rfl : k = ps.length := by omega
      have hF : Hid (tooLong ps = false) := by
        show _ = _
        unfold tooLong
        rw [List.any_eq_false]
        intro l hl
        obtain ⟨j, hj, rfl⟩ := List.getElem_of_mem hl
        have := hall j _ hj (List.getElem?_eq_getElem hj)
        simp; omega
      clear hall
      go_wp2
      go_ret
      exact ⟨-1, rfl, by rw [hF.out]; exact ⟨by simp, by omega, by omega⟩, rfl⟩
theorem within_any {ps : List (List Value)} {p : Option Addr} {c : Nat} (h : Reads2 w (.slice p ps.length c) ps) (hn : ps.length ≤ 1048576) : Calls Try.prog 75 #[.slice p ps.length c, .func (.func 76) #[] #[]] w fun e w' => e = .returned (.bool (tooLong ps)) ∧ w = w' := by
  have H := Lib.hid (index_any h hn)
  clear h
  go_enter Try.func75, Try.ntmps75
  go_wp2_with fail
  refine H.out.mono ?_
  rintro e w' ⟨r, rfl, hr, rfl⟩
  go_wp2
  go_ret
  exact ⟨by rw [← hr.out.1]; rfl, rfl⟩
end
end Go.Proofs.Ytenlgfagfpaenaa

/-
  The law's memories as plain Lean: they fit; both are made alike. No condition.
-/
import Derived.Test.YthggpbbnhjaegaaArList
import Derived.Test.YthggpbbnhjaegaaArWide
namespace Go.Proofs.Ythggpbbnhjaegaa
open Go Go.RowKit
set_option linter.unusedSimpArgs false
set_option linter.unusedVariables false
/-- an entry behind k calls -/
def En.Fine (k : Nat) : En → Prop
  | none => True
  | some (l, A) => A.cells.length ≤ 4194304 ∧ A.next ≤ A.cells.length ∧ 0 < A.cells.length ∧ A.wide ∧ A.trace.length ≤ k ∧ (l = true → A.trace = []) ∧ ∀ x ∈ A.trace, x.vals.length ≤ 1048576
def En.new (n : Int) (l : Bool) : En := if 128 ≤ n ∧ n ≤ 4194304 then some (l, Mem.made n.toNat) else none
section
variable {w w' : World} {e : En} {k m : Nat} {x : Opr} {A : Mem} {n : Int} {l : Bool}
theorem En.Fine.ok (h : e.Fine k) (hk : k ≤ 1000000000) : e.Ok := by
  match e, h with
  | none, _ => trivial
  | some (l, A), ⟨h1, h2, h3, h4, h5, h6, h7⟩ => exact ⟨⟨h1, Nat.le_trans h5 hk, h2⟩, h3, h4, h6, fun x hx => Nat.le_trans (h7 x hx) (by decide)⟩
theorem En.Fine.more (h : e.Fine k) (hk : k ≤ m) : e.Fine m := by
  match e, h with
  | none, _ => trivial
  | some (l, A), ⟨h1, h2, h3, h4, h5, h6, h7⟩ => exact ⟨h1, h2, h3, h4, Nat.le_trans h5 hk, h6, h7⟩
theorem En.Fine.fork (h : e.Fine k) : e.fork.Fine k := by
  match e, h with
  | none, _ => trivial
  | some (l, A), ⟨h1, h2, h3, h4, h5, h6, h7⟩ => exact ⟨h1, h2, h3, h4, Nat.zero_le _, fun _ => rfl, fun x hx => by cases hx⟩
theorem En.Fine.did (h : e.Fine k) (hf : x.fits) (hw : x.words) : (e.did x).Fine (k + 1) := by
  unfold En.did
  split
  · match e, h with
    | none, _ => trivial
    | some (false, A), ⟨h1, h2, h3, h4, h5, h6, h7⟩ =>
      obtain ⟨y, hy, hv⟩ := does_trace x A
      refine ⟨by rw [does_cells]; exact h1, does_next x A h2, by rw [does_cells]; exact h3, does_wide hw h4, by rw [hy]; simp; omega, fun e => (by cases e), fun z hz => ?_⟩
      rw [hy, List.mem_append, List.mem_singleton] at hz
      rcases hz with hz | rfl
      · exact h7 z hz
      · rcases hv with hv | hv
        · rw [hv]; simp
        · rw [hv]; exact hf.2.1
    | some (true, A), ⟨h1, h2, h3, h4, h5, h6, h7⟩ =>
      refine ⟨by show (x.does A).cells.length ≤ _; rw [does_cells]; exact h1, does_next x A h2, by show 0 < (x.does A).cells.length; rw [does_cells]; exact h3, does_wide hw h4, ?_, ?_, ?_⟩
      · show A.trace.length ≤ k + 1; omega
      · exact h6
      · exact h7
  · exact h.more (Nat.le_succ k)
theorem En.new_fine (n : Int) (l : Bool) : (En.new n l).Fine 0 := by
  unfold En.new
  split
  · rename_i h
    have e : (Mem.made n.toNat).cells.length = n.toNat := by simp [Mem.made]
    refine ⟨by rw [e]; omega, ?_, by rw [e]; omega, wide_made _, Nat.le_refl _, fun _ => rfl, fun x hx => by cases hx⟩
    rw [e]
    show 1 ≤ n.toNat
    omega
  · trivial
def newErr (n : Int) : Int := if 128 ≤ n ∧ n ≤ 4194304 then 0 else 2
theorem RNew_out (w : World) (n : Int) (b : Bool) (h : n < 128 ∨ 4194304 < n) : Calls Try.prog 5 #[.int .i64 n, .bool b] w fun e w' => e = .returned (.tuple #[.pointer none, .int .i64 2]) ∧ w = w' := by
  rcases h with h | h
  · have h2 : decide (n < 128) = true := by simp; omega
    clear h
    go_enter Try.func5, Try.ntmps5
    go_wp2
    go_ret2
    exact ⟨rfl, rfl⟩
  · have h2 : decide (n < 128) = false := by simp; omega
    have h3 : decide (4194304 < n) = true := by simp; omega
    clear h
    go_enter Try.func5, Try.ntmps5
    go_wp2
    go_ret2
    exact ⟨rfl, rfl⟩
theorem PNew (w : World) (n : Int) (l : Bool) : Calls Try.prog 4 #[.int .i64 n, .bool l] w fun a w' => ∃ pv, a = .returned (.tuple #[pv, .int .i64 (newErr n)]) ∧ PV w' (fun b => w.heap.size ≤ b) pv (En.new n l) ∧ Below w.heap.size w w' := by
  unfold En.new newErr
  by_cases h : 128 ≤ n ∧ n ≤ 4194304
  · rw [if_pos h, if_pos h]
    obtain ⟨m, rfl⟩ : ∃ m : Nat, n = m := ⟨n.toNat, by omega⟩
    rw [Int.toNat_natCast]
    cases l
    · refine (New_plain w m (by omega) (by omega)).mono ?_
      rintro a w' ⟨bm, rfl, h1, h2⟩
      exact ⟨_, rfl, ⟨bm, rfl, h1⟩, h2⟩
    · refine (New_live w m (by omega) (by omega)).mono ?_
      rintro a w' ⟨bm, q, r, rfl, h1, h2⟩
      exact ⟨_, rfl, ⟨bm, q, r, rfl, h1.bM, h1.bQ, h1.bR, h1.fM.1, h1.fQ.1, h1.fR.1⟩, h2⟩
  · rw [if_neg h, if_neg h]
    refine (New_out w n l (by omega)).mono ?_
    rintro a w' ⟨rfl, rfl⟩
    exact ⟨_, rfl, rfl, Below.refl _ _⟩
theorem DNew (w : World) (n : Int) (l : Bool) : Calls Try.prog 5 #[.int .i64 n, .bool l] w fun a w' => ∃ rv, a = .returned (.tuple #[rv, .int .i64 (newErr n)]) ∧ DV w' (fun b => w.heap.size ≤ b) rv (En.new n l) ∧ Below w.heap.size w w' := by
  unfold En.new newErr
  by_cases h : 128 ≤ n ∧ n ≤ 4194304
  · rw [if_pos h, if_pos h]
    obtain ⟨m, rfl⟩ : ∃ m : Nat, n = m := ⟨n.toNat, by omega⟩
    rw [Int.toNat_natCast]
    refine (RNew_any w m (by omega) (by omega) l).mono ?_
    rintro a w' ⟨bm, rfl, h1, h2⟩
    exact ⟨_, rfl, ⟨bm, rfl, h1⟩, h2⟩
  · rw [if_neg h, if_neg h]
    refine (RNew_out w n l (by omega)).mono ?_
    rintro a w' ⟨rfl, rfl⟩
    exact ⟨_, rfl, rfl, Below.refl _ _⟩
/-- the first pair -/
theorem Lst.start {wb w1 w2 w3 w4 w5 : World} {pv rv : Value} (h1 : PV w1 (fun b => wb.heap.size ≤ b) pv e) (b1 : Below wb.heap.size wb w1) (h2 : DV w2 (fun b => w1.heap.size ≤ b) rv e) (b2 : Below w1.heap.size w1 w2) (b3 : Below w2.heap.size w2 w3)
    (b4 : Below w3.heap.size w3 w4) (hm : Blk w4 w3.heap.size 23 #[pv]) (b5 : Below w4.heap.size w4 w5) (hr : Blk w5 w4.heap.size 27 #[rv]) : LstE wb [e] [pv] [rv] w3.heap.size 1 w4.heap.size 1 w5 := by
  have s1 := b1.size
  have s2 := b2.size
  have s3 := b3.size
  have s4 := b4.size
  have s5 := b5.size
  have hlm := hm.lt
  have hlr := hr.lt
  have p1 := h1.tight
  have p2 := h2.tight
  have b25 : Below w2.heap.size w2 w5 := (b3.trans (b4.mono s3)).trans (b5.mono (by omega))
  have b15 : Below w1.heap.size w1 w5 := b2.trans (b25.mono s2)
  have hbw : Below wb.heap.size wb w5 := b1.trans (b15.mono s1)
  have q1 : PV w5 (fun b => wb.heap.size ≤ b ∧ b < w1.heap.size) pv e := p1.fr (Fr.of_below (S := fun b => w1.heap.size ≤ b) b15) fun k hk h => by omega
  have q2 : DV w5 (fun b => w1.heap.size ≤ b ∧ b < w2.heap.size) rv e := p2.fr (Fr.of_below (S := fun b => w2.heap.size ≤ b) b25) fun k hk h => by omega
  refine ⟨relab (fun _ => 0) 0 0 (fun b => wb.heap.size ≤ b ∧ b < w1.heap.size) (fun b => w1.heap.size ≤ b ∧ b < w2.heap.size), rfl, rfl, ?_, ?_, ?_, ?_, ?_, by omega, hbw, ?_⟩
  · intro i e2 pv2 rv2 a b c
    match i, a, b, c with
    | 0, a, b, c =>
      injection a with a
      injection b with b
      injection c with c
      subst a b c
      refine ⟨q1.wide fun b hb => relab_1 hb, q2.wide fun b hb => relab_2 (by omega) hb, fun b h1 h2 => by omega, fun b hb => ?_, fun b hb => ?_, hbw⟩
      · have := relab_own1 hb; omega
      · have := relab_own2 hb; omega
    | i + 1, a, b, c => simp at a
  · exact ⟨rfl, .inr ⟨_, 1, _, rfl, by omega, hm.below b5, Nat.le_refl _, by decide, rfl, rfl⟩⟩
  · exact ⟨rfl, .inr ⟨_, 1, _, rfl, by omega, hr, Nat.le_refl _, by decide, rfl, rfl⟩⟩
  · exact relab_z (by omega) (by omega) (.inr rfl)
  · exact relab_z (by omega) (by omega) (.inr rfl)
  · intro b
    show _ ≤ 2 * 1
    unfold relab
    split
    · omega
    split
    · omega
    split <;> omega
/-- what holds behind k calls -/
structure Good (k : Nat) (es : List En) : Prop where
  pos : 0 < es.length
  len : es.length ≤ k + 1
  fine : ∀ e ∈ es, e.Fine k
theorem Good.set {es : List En} {i : Nat} (h : Good k es) (he : es[i]? = some e) (hf : x.fits) (hw : x.words) : Good (k + 1) (es.set i (e.did x)) := by
  refine ⟨by rw [List.length_set]; exact h.pos, by rw [List.length_set]; exact Nat.le_succ_of_le h.len, fun y hy => ?_⟩
  rcases List.mem_or_eq_of_mem_set hy with hy | rfl
  · exact (h.fine y hy).more (Nat.le_succ k)
  · exact (h.fine e (List.mem_of_getElem? he)).did hf hw
theorem Good.push {es : List En} (h : Good k es) (hf : e.Fine k) : Good (k + 1) (es ++ [e]) := by
  refine ⟨by simp, by simp; exact h.len, fun y hy => ?_⟩
  rw [List.mem_append, List.mem_singleton] at hy
  rcases hy with hy | rfl
  · exact (h.fine y hy).more (Nat.le_succ k)
  · exact hf.more (Nat.le_succ k)
end
end Go.Proofs.Ythggpbbnhjaegaa

/-
  LockedNone, for every operation: the row's proof out of the walk. No condition beyond the row's.
-/
import Derived.ProofKit
import Derived.OpenShut
import Derived.ChangeOld
import Derived.Deep.Fields
import Derived.ChangeSame
import Derived.Lib.SmallJoins
import Derived.Test.YtfjilcneiaekaaaLkF
namespace Go.Proofs.Ytfjilcneiaekaaa.lawLockedNone
open Go Go.ChangeShapes Go.WideShapes Go.ChangeAt Go.RowKit
set_option linter.unusedVariables false
set_option linter.unusedSimpArgs false
theorem own : ownKnob Try.prog.godebug = none := by kernel_rfl
theorem laidOut : laidOutB Try.prog = true := by kernel_rfl
section
set_option maxRecDepth 100000
variable {H : Type} {enc : TypeId × Value → H} {W : World}
theorem cons_of {α : Type} {l : List α} {n : Nat} (h : l.length = n + 1) : ∃ a r, l = a :: r ∧ r.length = n := by
  cases l with
  | nil => simp at h
  | cons a r => exact ⟨a, r, rfl, by simpa using h⟩
theorem array11 {α : Type} {cs : Array α} (h : cs.size = 11) : ∃ a b c d e f g i j k l, cs = #[a, b, c, d, e, f, g, i, j, k, l] := by
  obtain ⟨l⟩ := cs
  replace h : l.length = 11 := h
  obtain ⟨a, l0, rfl, h0⟩ := cons_of h
  obtain ⟨b, l1, rfl, h1⟩ := cons_of h0
  obtain ⟨c, l2, rfl, h2⟩ := cons_of h1
  obtain ⟨d, l3, rfl, h3⟩ := cons_of h2
  obtain ⟨e, l4, rfl, h4⟩ := cons_of h3
  obtain ⟨f, l5, rfl, h5⟩ := cons_of h4
  obtain ⟨g, l6, rfl, h6⟩ := cons_of h5
  obtain ⟨i, l7, rfl, h7⟩ := cons_of h6
  obtain ⟨j, l8, rfl, h8⟩ := cons_of h7
  obtain ⟨k, l9, rfl, h9⟩ := cons_of h8
  obtain ⟨m, l10, rfl, h10⟩ := cons_of h9
  cases l10 with
  | nil => exact ⟨_, _, _, _, _, _, _, _, _, _, _, rfl⟩
  | cons x y => simp at h10
theorem cells28 : Try.prog.cellsOf 28 = 11 := by kernel_rfl
theorem cells25 : Try.prog.cellsOf 25 = 3 := by kernel_rfl
theorem cells23 : Try.prog.cellsOf 23 = 1 := by kernel_rfl
theorem cells22 : Try.prog.cellsOf 22 = 1 := by kernel_rfl
theorem cells26 : Try.prog.cellsOf 26 = 1 := by kernel_rfl
theorem cells4 : Try.prog.cellsOf 4 = 1 := by kernel_rfl
theorem cells3 : Try.prog.cellsOf 3 = 1 := by kernel_rfl
theorem fint {t : TypeId} {k : IntKind} {n : Nat} {v : Value} {y : Option (DataW H × List MemPlace)} (ht : Try.prog.underlying t = some (.int k)) (hy : y.isSome = true) (h : DataW.trod enc Try.prog W 0 (fun _ => true) true n t [v] = y) : ∃ a, v = .int k a := by
  obtain ⟨x, rfl⟩ := Option.isSome_iff_exists.1 hy
  obtain ⟨d, p⟩ := x
  obtain ⟨a, e, _, _⟩ := DataW.trod_int ht h
  injection e with e
  exact ⟨a, e⟩
theorem op_of {b0 : Nat} {v : Value} {d : DataW H} {p : List MemPlace} (hv : Value.okWide Try.prog W .any b0 28 v) (h : DataW.Trod enc Try.prog W 0 (fun _ => true) true 28 v d p) :
    ∃ (k key x old hd : Int) (rs : Bool) (rt ri : Int) (sp : Option Addr) (sn sc : Nat) (lo hi : Int), v = .agg #[.int .u8 k, .int .u64 key, .int .u64 x, .int .u64 old, .int .u64 hd, .bool rs, .int .i64 rt, .int .i64 ri, .slice sp sn sc, .int .u64 lo, .int .u64 hi] := by
  obtain ⟨cs, rfl, hsz⟩ := okWide_struct Try.underlying28 hv
  obtain ⟨c0, c1, c2, c3, c4, c5, c6, c7, c8, c9, c10, rfl⟩ := array11 (hsz.trans cells28)
  obtain ⟨fuel, hf⟩ := h
  obtain ⟨xs, n, _, hx, hl, hlen, hf⟩ := DataW.trod_struct Try.underlying28 hf
  have hs : ∀ i, i < 9 → xs[i]?.isSome = true := fun i hi => by
    have : i < xs.length := by rw [hlen]; exact hi
    simp [this]
  have g0 := hf 0 _ rfl
  have g1 := hf 1 _ rfl
  have g2 := hf 2 _ rfl
  have g3 := hf 3 _ rfl
  have g4 := hf 4 _ rfl
  have g5 := hf 5 _ rfl
  have g6 := hf 6 _ rfl
  have g7 := hf 7 _ rfl
  have g8 := hf 8 _ rfl
  simp only [cells22, cells23, cells25, cells26, Value.cells, List.drop, List.take] at g0 g1 g2 g3 g4 g5 g6 g7 g8
  obtain ⟨k, rfl⟩ := fint Try.underlying22 (hs 0 (by decide)) g0
  obtain ⟨key, rfl⟩ := fint Try.underlying23 (hs 1 (by decide)) g1
  obtain ⟨x, rfl⟩ := fint Try.underlying23 (hs 2 (by decide)) g2
  obtain ⟨old, rfl⟩ := fint Try.underlying23 (hs 3 (by decide)) g3
  obtain ⟨hd, rfl⟩ := fint Try.underlying23 (hs 4 (by decide)) g4
  obtain ⟨lo, rfl⟩ := fint Try.underlying23 (hs 7 (by decide)) g7
  obtain ⟨hi, rfl⟩ := fint Try.underlying23 (hs 8 (by decide)) g8
  obtain ⟨y6, hy6⟩ := Option.isSome_iff_exists.1 (hs 6 (by decide))
  rw [hy6] at g6
  obtain ⟨sp, sn, sc, e6⟩ := Joins.slice_form Try.underlying26 g6
  injection e6 with e6
  subst e6
  obtain ⟨y5, hy5⟩ := Option.isSome_iff_exists.1 (hs 5 (by decide))
  rw [hy5] at g5
  obtain ⟨zs, m, _, _, _, hzl, hz⟩ := DataW.trod_struct Try.underlying25 g5
  have hzs : ∀ i, i < 3 → zs[i]?.isSome = true := fun i hi => by
    have : i < zs.length := by rw [hzl]; exact hi
    simp [this]
  have z0 := hz 0 _ rfl
  have z1 := hz 1 _ rfl
  have z2 := hz 2 _ rfl
  obtain ⟨rt, rfl⟩ := fint Try.underlying3 (hzs 1 (by decide)) z1
  obtain ⟨ri, rfl⟩ := fint Try.underlying3 (hzs 2 (by decide)) z2
  obtain ⟨⟨d0, p0⟩, hz0⟩ := Option.isSome_iff_exists.1 (hzs 0 (by decide))
  rw [hz0] at z0
  obtain ⟨rs, e0, _⟩ := DataW.trod_bool Try.underlying4 z0
  injection e0 with e0
  subst e0
  exact ⟨_, _, _, _, _, _, _, _, _, _, _, _, _, rfl⟩
end
set_option maxRecDepth 100000 in
theorem lifted (os : Os) (started : os.Started) (H : Type) (enc : TypeId × Value → H) :
    ReturnsInHanded {} Try.checked os 3 .any (Rows.lockedNoneSpec.pre6 enc Try.prog Try.f3 Rows.lockedNoneRow.domain false) (Rows.lockedNoneSpec.post enc Try.prog Try.f3 false true false false) := by
  refine returnsInHanded_of_change (C := Try.checked) own started (by kernel_rfl) Try.func3
    (ChangeSpec.witness6 (enc := enc) (C := Try.checked) false ⟨#[], #[.agg #[.int .u8 0, .int .u64 0, .int .u64 0, .int .u64 0, .int .u64 0, .bool false, .int .i64 0, .int .i64 0, .slice none 0 0, .int .u64 0, .int .u64 0]], []⟩ 8 (by kernel_rfl) (by kernel_rfl) (by kernel_rfl) (by kernel_rfl)) ?_
  intro W base args ds gs before hval0 hW hcnd _
  have hval : ∀ (j : Nat) t v, Try.f3.params[j]? = some t → args[j]? = some v → Value.okWide Try.prog W .any base t v := hval0
  have hW' := hW
  obtain ⟨p, q, hA0, hV, rfl, hfz, hnd⟩ := hW
  have hA : DataW.TrodAll enc Try.prog W 0 (fun _ => true) true Try.f3.params.toList args.toList ds p := hA0
  rw [Try.params3] at hA hval
  obtain ⟨v0, vs0, d0, ds0, p0, q0, hargs, rfl, rfl, h0, r0⟩ := trodAll_cons hA
  obtain ⟨rfl, rfl, rfl⟩ := trodAll_nil r0
  obtain rfl : args = #[v0] := by cases args; simp_all
  obtain ⟨rfl, rfl⟩ := trodVars_none hV
  have k0 := h0
  have lt0 : ∀ x ∈ p0, x.block < W.heap.size := by obtain ⟨m, hm⟩ := k0; exact DataW.trod_lt m _ _ _ hm
  obtain ⟨k, key, x, old, hd, rs, rt, ri, sp, sn, sc, lo, hi, rfl⟩ := op_of (hval 0 28 v0 rfl rfl) h0
  clear hA0 hval0
  refine (none_any W k key x old hd rs rt ri sp sn sc lo hi).mono fun e W' ⟨he, bel⟩ => ?_
  subst he
  exact ⟨_, rfl, _, _, _, [], _, [], hW', trodAll_mk1 (shut_bool Try.underlying4 _), (trodAll_cons_mk (Below.trod laidOut (by kernel_rfl) (of_decide_eq_true (by kernel_rfl)) k0 bel lt0) trodAll_mk0), rfl, bel.frame _, fun h => by cases h⟩
theorem proved : Rows.LockedNoneSaid :=
  OpenClaim.holds_of_wide 3 Try.f3 rfl rfl rfl rfl rfl rfl rfl ⟨rfl, rfl, rfl, rfl, rfl⟩ rfl rfl rfl rfl rfl (by kernel_rfl) Try.func3 (by kernel_rfl)
    (of_decide_eq_true (by kernel_rfl)) (by unfold Func.isWrapper; first | (rw [if_pos (by decide +kernel)]; kernel_rfl) | (rw [if_neg (by decide +kernel)]; exact ⟨rfl, rfl⟩))
    (fun os started H enc _ => lifted os started H enc)
#print axioms proved
end Go.Proofs.Ytfjilcneiaekaaa.lawLockedNone

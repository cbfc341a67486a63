/-
  SameTr, StSame, StPend: the texts of the proof, merged. No condition.
-/
import Derived.Test.YtkaplifhaafpdaaM32
import Derived.Test.YtkaplifhaafpdaaM17
import Derived.Test.YtkaplifhaafpdaaM07
import Derived.Test.YtkaplifhaafpdaaM19
import Derived.Test.YtkaplifhaafpdaaM26
section
/-
  Two told lists that are the same: SameUint64s, SameAccesses say so. No condition.
-/
namespace Go.Proofs.Ytkaplifhaafpdaa
open Go Go.RowKit
set_option linter.unusedSimpArgs false
set_option linter.unusedVariables false
section
variable {w w' : World} {F G S : Nat → Prop} {u v : Value} {rows rows' : List (Acc × Value)} {vs : List Int}
theorem VR.drawn (h : VR w v vs) (n : Nat) : VR (w.drewN n) v vs := by
  rcases h with h | ⟨g, c, rfl, hl, hc⟩
  · exact .inl h
  · exact .inr ⟨g, c, rfl, hl, fun j u hu => hc j u hu⟩
theorem SameU_yes (hu : VR w u vs) (hv : VR w v vs) (hn : vs.length ≤ 1000000000) : Calls Try.prog 30 #[u, v] w fun e w' => e = .returned (.bool true) ∧ ∃ n, w' = w.drewN n := by
  by_cases h0 : vs = []
  · subst h0
    obtain ⟨p, c, rfl⟩ : ∃ p c, u = .slice p 0 c := by rcases hu with ⟨p, c, rfl, _⟩ | ⟨g, c, rfl, _⟩; exact ⟨_, _, rfl⟩; exact ⟨_, _, rfl⟩
    obtain ⟨p', c', rfl⟩ : ∃ p c, v = .slice p 0 c := by rcases hv with ⟨p, c, rfl, _⟩ | ⟨g, c, rfl, _⟩; exact ⟨_, _, rfl⟩; exact ⟨_, _, rfl⟩
    clear hu hv hn
    go_enter Try.func30, Try.ntmps30
    go_wp2
    go_loop [5] (fun i => i = .int .i64 0) (fun i => 0)
    case atStart => rfl
    case round =>
      obtain rfl := hrel
      go_wp2
      go_ret
      exact ⟨rfl, 0, rfl⟩
  · obtain ⟨g, c, rfl, _, hc⟩ : ∃ g c, u = .slice (some ⟨g, 0, none⟩) vs.length c ∧ g < w.heap.size ∧ ∀ j x, (us vs)[j]? = some x → w.cell? ⟨g, j, none⟩ = some x := by
      rcases hu with ⟨p, c, rfl, e⟩ | h; exact absurd e h0; exact h
    obtain ⟨g', c', rfl, _, hc'⟩ : ∃ g c, v = .slice (some ⟨g, 0, none⟩) vs.length c ∧ g < w.heap.size ∧ ∀ j x, (us vs)[j]? = some x → w.cell? ⟨g, j, none⟩ = some x := by
      rcases hv with ⟨p, c, rfl, e⟩ | h; exact absurd e h0; exact h
    have hat : ∀ j, j < vs.length → (us vs)[j]? = some (.int .u64 (vs.getD j 0)) := by
      intro j hj; simp [us, hj, List.getD_eq_getElem?_getD]
    have H1 := Lib.hid (fun j hj => hc j _ (hat j hj))
    have H2 := Lib.hid (fun j hj => hc' j _ (hat j hj))
    clear hc hc' hat h0
    generalize hm : vs.length = m at *
    clear hm
    go_enter Try.func30, Try.ntmps30
    go_wp2
    go_loopw [5] (fun i wr => ∃ k : Nat, i = .int .i64 k ∧ k ≤ m ∧ ∃ d, wr = w.drewN d) (fun i _ => m - (intOf i).toNat)
    case atStart => exact ⟨0, rfl, Nat.zero_le _, 0, rfl⟩
    case round =>
      obtain ⟨k, rfl, hk, d, rfl⟩ := hrel
      by_cases hlt : k < m
      · have e1 : (w.drewN d).cell? ⟨g, k, none⟩ = some (.int .u64 (vs.getD k 0)) := H1.out k hlt
        have e2 : (w.drewN d).cell? ⟨g', k, none⟩ = some (.int .u64 (vs.getD k 0)) := H2.out k hlt
        generalize vs.getD k 0 = x at *
        generalize hwd : w.drewN d = wd at *
        have HW := Lib.hid hwd
        clear hwd
        go_wp2
        go_quiet (fail)
        go_wp2
        go_roundw
        case rel => exact ⟨k + 1, by go_num, by omega, _, by rw [← HW.out, World.drewN_drewN]⟩
        case measure => simp [intOf]; omega
      · go_wp2
        go_ret
        exact ⟨rfl, d, rfl⟩
/-- a value reads as this trace -/
def TL (w : World) (v : Value) (tr : List Acc) : Prop :=
  ∃ p c, v = .slice p tr.length c ∧ ∃ rows : List (Acc × Value), rows.map (·.1) = tr ∧ TR w p rows ∧ ∀ x ∈ rows, VR w x.2 x.1.vals
theorem TL_of {B : Nat} {p : Option Addr} {c : Nat} {tr : List Acc} {rows : List (Acc × Value)} (hf : rows.map (·.1) = tr) (ho : w.ownsRow B 120 8 (.slice p rows.length c) rows.length (rows.flatMap accC)) (hv : ∀ x ∈ rows, VR w x.2 x.1.vals) : TL w (.slice p tr.length c) tr := by
  refine ⟨p, c, rfl, rows, hf, TR_own (w := w) (n := rows.length) (c := c) ?_, hv⟩
  rcases ho.2 with h | ⟨g, cap, cur, h1, _, h2⟩
  · exact ⟨ho.1, .inl h⟩
  · exact ⟨ho.1, .inr ⟨g, cap, cur, h1, Nat.zero_le _, h2⟩⟩
theorem Told.tl {B : Nat} {v : Value} {tr : List Acc} (h : Told w B v tr) : TL w v tr := by
  obtain ⟨rows, hf, ho, hv⟩ := h.out
  have hl : rows.length = tr.length := by rw [← hf]; simp
  obtain ⟨p, c, rfl⟩ : ∃ p c, v = .slice p rows.length c := by
    rcases ho.2 with ⟨rfl, h0⟩ | ⟨g', cap', cur', rfl, _⟩
    · exact ⟨none, 0, by rw [h0]⟩
    · exact ⟨_, _, rfl⟩
  have := TL_of hf ho hv
  rwa [← hl] at this
set_option maxHeartbeats 8000000 in
set_option maxRecDepth 100000 in
theorem SameAccesses_yes {tr : List Acc} (hu : TL w u tr) (hv : TL w v tr) (hn : tr.length ≤ 1000000000) (hvs : ∀ x ∈ tr, x.vals.length ≤ 1000000000) :
    Calls Try.prog 37 #[u, v] w fun e w' => e = .returned (.bool true) ∧ ∃ n, w' = w.drewN n := by
  obtain ⟨p, c, rfl, ra, hfa, hta, hva⟩ := hu
  obtain ⟨p', c', rfl, rb, hfb, htb, hvb⟩ := hv
  have hla : ra.length = tr.length := by rw [← hfa]; simp
  have hlb : rb.length = tr.length := by rw [← hfb]; simp
  have at_ : ∀ k, k < tr.length → ∃ g g' x ua ub, p = some ⟨g, 0, none⟩ ∧ p' = some ⟨g', 0, none⟩ ∧ (∀ j y, (accC (x, ua))[j]? = some y → w.cell? ⟨g, k * 8 + j, none⟩ = some y) ∧ (∀ j y, (accC (x, ub))[j]? = some y → w.cell? ⟨g', k * 8 + j, none⟩ = some y) ∧ VR w ua x.vals ∧ VR w ub x.vals ∧ x.vals.length ≤ 1000000000 := by
    intro k hk
    have ea : ra[k]? = some ra[k] := List.getElem?_eq_getElem (by omega)
    have eb : rb[k]? = some rb[k] := List.getElem?_eq_getElem (by omega)
    have e1 : (ra[k]).1 = tr[k] := by
      have h1 : (ra.map (·.1))[k]? = tr[k]? := by rw [hfa]
      rw [List.getElem?_map, ea, List.getElem?_eq_getElem hk] at h1
      injection h1
    have e2 : (rb[k]).1 = tr[k] := by
      have h1 : (rb.map (·.1))[k]? = tr[k]? := by rw [hfb]
      rw [List.getElem?_map, eb, List.getElem?_eq_getElem hk] at h1
      injection h1
    rcases hta with rfl | ⟨g, rfl, _, ca⟩
    · simp at hla; omega
    rcases htb with rfl | ⟨g', rfl, _, cb⟩
    · simp at hlb; omega
    have va := hva _ (List.getElem_mem (show k < ra.length by omega))
    have vb := hvb _ (List.getElem_mem (show k < rb.length by omega))
    have ca' := ca k _ ea
    have cb' := cb k _ eb
    generalize ra[k] = xa at *
    generalize rb[k] = xb at *
    obtain ⟨xa, ua⟩ := xa
    obtain ⟨xb, ub⟩ := xb
    simp only at e1 e2
    subst e1
    subst e2
    exact ⟨g, g', _, ua, ub, rfl, rfl, ca', cb', va, vb, hvs _ (List.getElem_mem hk)⟩
  have HA := Lib.hid at_
  clear at_ hfa hta hva hfb htb hvb hla hlb hvs
  generalize tr.length = m at *
  go_enter Try.func37, Try.ntmps37
  go_wp2
  go_loopw [5] (fun i wr => ∃ k : Nat, i = .int .i64 k ∧ k ≤ m ∧ ∃ d, wr = w.drewN d) (fun i _ => m - (intOf i).toNat)
  case atStart => exact ⟨0, rfl, Nat.zero_le _, 0, rfl⟩
  case round =>
    obtain ⟨k, rfl, hk, d, rfl⟩ := hrel
    by_cases hlt : k < m
    · obtain ⟨g, g', x, ua, ub, rfl, rfl, ca, cb, va, vb, hl⟩ := HA.out k hlt
      have a0 : (w.drewN d).cell? ⟨g, k * 8, none⟩ = some (.int .i64 x.thread) := ca 0 _ rfl
      have a1 : (w.drewN d).cell? ⟨g, k * 8 + 1, none⟩ = some (.int .u8 x.kind) := ca 1 _ rfl
      have a2 : (w.drewN d).cell? ⟨g, k * 8 + 2, none⟩ = some (.int .u64 x.addr) := ca 2 _ rfl
      have a3 : (w.drewN d).cell? ⟨g, k * 8 + 3, none⟩ = some (.int .u64 x.a) := ca 3 _ rfl
      have a4 : (w.drewN d).cell? ⟨g, k * 8 + 4, none⟩ = some (.int .u64 x.b) := ca 4 _ rfl
      have a5 : (w.drewN d).cell? ⟨g, k * 8 + 5, none⟩ = some ua := ca 5 _ rfl
      have a6 : (w.drewN d).cell? ⟨g, k * 8 + 6, none⟩ = some (.int .u64 x.got) := ca 6 _ rfl
      have a7 : (w.drewN d).cell? ⟨g, k * 8 + 7, none⟩ = some (.bool x.ok) := ca 7 _ rfl
      have b0 : (w.drewN d).cell? ⟨g', k * 8, none⟩ = some (.int .i64 x.thread) := cb 0 _ rfl
      have b1 : (w.drewN d).cell? ⟨g', k * 8 + 1, none⟩ = some (.int .u8 x.kind) := cb 1 _ rfl
      have b2 : (w.drewN d).cell? ⟨g', k * 8 + 2, none⟩ = some (.int .u64 x.addr) := cb 2 _ rfl
      have b3 : (w.drewN d).cell? ⟨g', k * 8 + 3, none⟩ = some (.int .u64 x.a) := cb 3 _ rfl
      have b4 : (w.drewN d).cell? ⟨g', k * 8 + 4, none⟩ = some (.int .u64 x.b) := cb 4 _ rfl
      have b5 : (w.drewN d).cell? ⟨g', k * 8 + 5, none⟩ = some ub := cb 5 _ rfl
      have b6 : (w.drewN d).cell? ⟨g', k * 8 + 6, none⟩ = some (.int .u64 x.got) := cb 6 _ rfl
      have b7 : (w.drewN d).cell? ⟨g', k * 8 + 7, none⟩ = some (.bool x.ok) := cb 7 _ rfl
      have HC := Lib.hid (fun n => SameU_yes ((va.drawn d).drawn n) ((vb.drawn d).drawn n) hl)
      clear ca cb va vb hl
      generalize hwd : w.drewN d = wd at *
      have HW := Lib.hid hwd
      clear hwd
      go_wp2
      refine wp_region_quiet_lit (by kernel_rfl) lex_ok ?_
      repeat (quiet_step ((go_at_call 30; exact Calls.quiet_of (HC.out _))))
      refine wpQuiet_nil ?_
      intro _ hw'
      obtain ⟨nq, hw''⟩ := hw'
      subst hw''
      go_wp2
      go_roundw
      case rel => exact ⟨k + 1, by go_num, by omega, _, by rw [← HW.out, World.drewN_drewN]⟩
      case measure => simp [intOf]; omega
    · go_wp2
      go_ret
      exact ⟨rfl, d, rfl⟩
end
end Go.Proofs.Ytkaplifhaafpdaa
end
section
/-
  Two told lists of numbers, of events, that are the same: SameInts, SameEvents say so. No condition.
-/
namespace Go.Proofs.Ytkaplifhaafpdaa
open Go Go.RowKit
set_option linter.unusedSimpArgs false
set_option linter.unusedVariables false
/-- a value reads as these events -/
def ReadsE (w : World) (v : Value) (l : List Ev) : Prop := ∃ p c, v = .slice p l.length c ∧ ∀ (i : Nat) x, l[i]? = some x → ∃ g, p = some ⟨g, 0, none⟩ ∧ g < w.heap.size ∧ w.cell? ⟨g, i * 4, none⟩ = some (.int .i64 x.step) ∧ w.cell? ⟨g, i * 4 + 1, none⟩ = some (.int .i64 x.thread) ∧ w.cell? ⟨g, i * 4 + 2, none⟩ = some (.int .i64 x.index) ∧ w.cell? ⟨g, i * 4 + 3, none⟩ = some (.bool x.ret)
def ReadsI (w : World) (v : Value) (l : List Int) : Prop := ∃ p c, v = .slice p l.length c ∧ ∀ (i : Nat) x, l[i]? = some x → ∃ g, p = some ⟨g, 0, none⟩ ∧ g < w.heap.size ∧ w.cell? ⟨g, i, none⟩ = some (.int .i64 x)
section
variable {w w' : World} {u v : Value} {l : List Int} {evs : List Ev}
theorem ev_at : ∀ (l : List Ev) (i j : Nat) (x : Ev), l[i]? = some x → j < 4 → (l.flatMap evC)[i * 4 + j]? = (evC x)[j]?
  | [], i, j, x, h, _ => by simp at h
  | y :: l, 0, j, x, h, hj => by
    obtain rfl : y = x := by simpa using h
    rw [List.flatMap_cons, List.getElem?_append_left (by simp [evC]; omega)]
    simp
  | y :: l, i + 1, j, x, h, hj => by
    have h' : l[i]? = some x := by simpa using h
    rw [List.flatMap_cons, List.getElem?_append_right (by simp [evC]; omega), ← ev_at l i j x h' hj]
    congr 1
    simp [evC]; omega
theorem ReadsE.own {B : Nat} (h : w.ownsRow B 137 4 v evs.length (evs.flatMap evC)) : ReadsE w v evs := by
  obtain ⟨p, c, rfl⟩ := bk_form h
  refine ⟨p, c, rfl, fun i x hx => ?_⟩
  have hi := (List.getElem?_eq_some_iff.1 hx).1
  obtain ⟨g, c', e, _, _⟩ := bk_form1 h (by omega)
  injection e with e1 e2 e3
  subst e1 e3
  have f := fun j (hj : j < 4) => own_cell h ((ev_at evs i j x hx hj).trans (List.getElem?_eq_getElem (show j < (evC x).length from hj)))
  exact ⟨g, rfl, own_lt h rfl, f 0 (by decide), f 1 (by decide), f 2 (by decide), f 3 (by decide)⟩
theorem ReadsI.own {B : Nat} (h : w.ownsRow B 3 1 v l.length (is64 l)) : ReadsI w v l := by
  obtain ⟨p, c, rfl⟩ := bk_form h
  refine ⟨p, c, rfl, fun i x hx => ?_⟩
  have hi := (List.getElem?_eq_some_iff.1 hx).1
  obtain ⟨g, c', e, _, _⟩ := bk_form1 h (by omega)
  injection e with e1 e2 e3
  subst e1 e3
  exact ⟨g, rfl, own_lt h rfl, own_cell h (by simp [is64, hx])⟩
theorem ReadsE.below (h : ReadsE w v evs) (hb : Below w.heap.size w w') : ReadsE w' v evs := by
  obtain ⟨p, c, e, hc⟩ := h
  refine ⟨p, c, e, fun i x hx => ?_⟩
  obtain ⟨g, e1, hl, a, b, c, d⟩ := hc i x hx
  exact ⟨g, e1, Nat.lt_of_lt_of_le hl hb.size, (hb.cell (p := ⟨g, _, none⟩) hl).trans a, (hb.cell (p := ⟨g, _, none⟩) hl).trans b, (hb.cell (p := ⟨g, _, none⟩) hl).trans c, (hb.cell (p := ⟨g, _, none⟩) hl).trans d⟩
theorem ReadsI.below (h : ReadsI w v l) (hb : Below w.heap.size w w') : ReadsI w' v l := by
  obtain ⟨p, c, e, hc⟩ := h
  refine ⟨p, c, e, fun i x hx => ?_⟩
  obtain ⟨g, e1, hl, a⟩ := hc i x hx
  exact ⟨g, e1, Nat.lt_of_lt_of_le hl hb.size, (hb.cell (p := ⟨g, _, none⟩) hl).trans a⟩
set_option maxRecDepth 100000 in
theorem SameI_yes (hu : ReadsI w u l) (hv : ReadsI w v l) (hn : l.length ≤ 1000000000) : Calls Try.prog 62 #[u, v] w fun e w' => e = .returned (.bool true) ∧ ∃ n, w' = w.drewN n := by
  obtain ⟨p, c, rfl, hc⟩ := hu
  obtain ⟨p', c', rfl, hc'⟩ := hv
  have H1 := Lib.hid hc
  have H2 := Lib.hid hc'
  clear hc hc'
  go_enter Try.func62, Try.ntmps62
  go_wp2
  go_loopw [5] (fun i wr => ∃ k : Nat, i = .int .i64 k ∧ k ≤ l.length ∧ ∃ d, wr = w.drewN d) (fun i _ => l.length - (intOf i).toNat)
  case atStart => exact ⟨0, rfl, Nat.zero_le _, 0, rfl⟩
  case round =>
    obtain ⟨k, rfl, hk, d, rfl⟩ := hrel
    by_cases hlt : k < l.length
    · obtain ⟨x, hx⟩ : ∃ x, l[k]? = some x := ⟨_, List.getElem?_eq_getElem hlt⟩
      obtain ⟨g, rfl, -, c1⟩ := H1.out k x hx
      obtain ⟨g', rfl, -, c2⟩ := H2.out k x hx
      have e1 : (w.drewN d).cell? ⟨g, k, none⟩ = some (.int .i64 x) := c1
      have e2 : (w.drewN d).cell? ⟨g', k, none⟩ = some (.int .i64 x) := c2
      clear c1 c2 hx
      generalize hwd : w.drewN d = wd at *
      have HW := Lib.hid hwd
      clear hwd
      go_wp2
      go_quiet (fail)
      go_wp2
      go_roundw
      case rel => exact ⟨k + 1, by go_num, by omega, _, by rw [← HW.out, World.drewN_drewN]⟩
      case measure => simp [intOf]; omega
    · go_wp2
      go_ret
      exact ⟨rfl, d, rfl⟩
set_option maxRecDepth 100000 in
theorem SameE_yes (hu : ReadsE w u evs) (hv : ReadsE w v evs) (hn : evs.length ≤ 1000000000) : Calls Try.prog 42 #[u, v] w fun e w' => e = .returned (.bool true) ∧ ∃ n, w' = w.drewN n := by
  obtain ⟨p, c, rfl, hc⟩ := hu
  obtain ⟨p', c', rfl, hc'⟩ := hv
  have H1 := Lib.hid hc
  have H2 := Lib.hid hc'
  clear hc hc'
  go_enter Try.func42, Try.ntmps42
  go_wp2
  go_loopw [5] (fun i wr => ∃ k : Nat, i = .int .i64 k ∧ k ≤ evs.length ∧ ∃ d, wr = w.drewN d) (fun i _ => evs.length - (intOf i).toNat)
  case atStart => exact ⟨0, rfl, Nat.zero_le _, 0, rfl⟩
  case round =>
    obtain ⟨k, rfl, hk, d, rfl⟩ := hrel
    by_cases hlt : k < evs.length
    · obtain ⟨x, hx⟩ : ∃ x, evs[k]? = some x := ⟨_, List.getElem?_eq_getElem hlt⟩
      obtain ⟨g, rfl, -, a0, a1, a2, a3⟩ := H1.out k x hx
      obtain ⟨g', rfl, -, b0, b1, b2, b3⟩ := H2.out k x hx
      have a0 : (w.drewN d).cell? ⟨g, k * 4, none⟩ = some (.int .i64 x.step) := a0
      have a1 : (w.drewN d).cell? ⟨g, k * 4 + 1, none⟩ = some (.int .i64 x.thread) := a1
      have a2 : (w.drewN d).cell? ⟨g, k * 4 + 2, none⟩ = some (.int .i64 x.index) := a2
      have a3 : (w.drewN d).cell? ⟨g, k * 4 + 3, none⟩ = some (.bool x.ret) := a3
      have b0 : (w.drewN d).cell? ⟨g', k * 4, none⟩ = some (.int .i64 x.step) := b0
      have b1 : (w.drewN d).cell? ⟨g', k * 4 + 1, none⟩ = some (.int .i64 x.thread) := b1
      have b2 : (w.drewN d).cell? ⟨g', k * 4 + 2, none⟩ = some (.int .i64 x.index) := b2
      have b3 : (w.drewN d).cell? ⟨g', k * 4 + 3, none⟩ = some (.bool x.ret) := b3
      clear hx
      generalize x.step = y0 at *
      generalize x.thread = y1 at *
      generalize x.index = y2 at *
      generalize x.ret = y3 at *
      generalize hwd : w.drewN d = wd at *
      have HW := Lib.hid hwd
      clear hwd
      go_wp2
      go_quiet (fail)
      go_wp2
      go_roundw
      case rel => exact ⟨k + 1, by go_num, by omega, _, by rw [← HW.out, World.drewN_drewN]⟩
      case measure => simp [intOf]; omega
    · go_wp2
      go_ret
      exact ⟨rfl, d, rfl⟩
end
end Go.Proofs.Ytkaplifhaafpdaa
end
section
/-
  What the program's runner tells of itself: how many picks, who is pending. No condition.
-/
namespace Go.Proofs.Ytkaplifhaafpdaa
open Go Go.RowKit
set_option linter.unusedSimpArgs false
set_option linter.unusedVariables false
def tpend : Nat → List Thr → List Int
  | _, [] => []
  | t, x :: l => (if x.op then [(t : Int)] else []) ++ tpend (t + 1) l
theorem tpend_len : ∀ (t : Nat) (l : List Thr), (tpend t l).length ≤ l.length
  | t, [] => by simp [tpend]
  | t, x :: l => by
    have := tpend_len (t + 1) l
    simp only [tpend, List.length_append, List.length_cons]
    split <;> simp <;> omega
theorem tpend_app : ∀ (t : Nat) (l : List Thr) (x : Thr), tpend t (l ++ [x]) = tpend t l ++ (if x.op then [((t + l.length : Nat) : Int)] else [])
  | t, [], x => by simp [tpend]
  | t, y :: l, x => by
    have := tpend_app (t + 1) l x
    simp only [List.cons_append, tpend, this, List.append_assoc, List.length_cons]
    rw [show t + 1 + l.length = t + (l.length + 1) from by omega]
theorem tpend_next {l : List Thr} {t : Nat} {x : Thr} (h : l[t]? = some x) : tpend 0 (l.take (t + 1)) = tpend 0 (l.take t) ++ (if x.op then [(t : Int)] else []) := by
  have ht := (List.getElem?_eq_some_iff.1 h).1
  rw [List.take_add_one, h]
  have := tpend_app 0 (l.take t) x
  simp only [Option.toList_some, this, List.length_take]
  rw [Nat.min_eq_left (by omega), Nat.zero_add]
theorem tpend_thrs : ∀ (t : Nat) (PV : List (Value × List (Option Nat))) (th : List TS), PV.length = th.length → tpend t (thrs PV th) = pend t th
  | t, [], [], _ => rfl
  | t, a :: PV, x :: th, h => by
    have := tpend_thrs (t + 1) PV th (by simpa using h)
    unfold thrs at this ⊢
    simp only [List.zipWith_cons_cons, tpend, pend, this]
    congr 1
    unfold thrAt
    by_cases h0 : x.at_ = 0 <;> simp [h0]
  | t, [], x :: th, h => by simp at h
  | t, a :: PV, [], h => by simp at h
section
variable {w0 w w' w1 w2 : World} {R S G E E' U : Nat → Prop} {rp bm n : Nat} {vws : List Nat} {T T' : List Thr} {x : Thr} {t steps : Nat} {evs : List Ev} {ats : List Int} {cs : Array Value} {tv ev av v : Value}
theorem PSteps_any (h : RX w R rp bm vws T steps evs ats cs tv ev av) : Calls Try.prog 21 #[.pointer (some ⟨rp, 0, none⟩)] w fun e w' => e = .returned (.int .i64 steps) ∧ w = w' := by
  have c1 : w.cell? ⟨rp, 66, none⟩ = some (.int .i64 steps) := (h.blk.cell 66).trans h.rc.c66
  clear h
  go_enter Try.func21, Try.ntmps21
  go_wp2_with fail
  go_ret
  exact ⟨rfl, rfl⟩
set_option maxRecDepth 100000 in
theorem PPending_any (h : RX w R rp bm vws T steps evs ats cs tv ev av) (hn : T.length ≤ 64) : Calls Try.prog 45 #[.pointer (some ⟨rp, 0, none⟩)] w fun e w' => ∃ v, e = .returned v ∧ w'.ownsRow w.heap.size 3 1 v (tpend 0 T).length (is64 (tpend 0 T)) ∧ Below w.heap.size w w' := by
  have H := Lib.hid h
  obtain ⟨tp, tc, e⟩ := bk_form h.thr
  subst e
  have c0 : w.cell? ⟨rp, 1, none⟩ = some (.slice tp T.length tc) := (h.blk.cell 1).trans h.rc.c1
  clear h
  go_enter Try.func45, Try.ntmps45
  go_wp2_with fail
  go_loopw [3, 13] (fun s3 s13 wr => ∃ t : Nat, s13 = .int .i64 t ∧ t ≤ T.length ∧ Hid (wr.ownsRow w.heap.size 3 1 s3 (tpend 0 (T.take t)).length (is64 (tpend 0 (T.take t))) ∧ Below w.heap.size w wr)) (fun _ s13 _ => T.length - (intOf s13).toNat)
  case atStart => exact ⟨0, rfl, Nat.zero_le _, World.ownsRow_nil _ _ _ _, Below.refl _ _⟩
  case round =>
    obtain ⟨t, rfl, ht, HI⟩ := hrel
    by_cases hlt : t < T.length
    · obtain ⟨x, hx⟩ : ∃ x, T[t]? = some x := ⟨_, List.getElem?_eq_getElem hlt⟩
      have hr := H.out.fr (Fr.of_below (S := fun _ => False) HI.out.2) (fun _ _ e => e)
      obtain ⟨tg, tc', eq, d0, d1, d2, -, -, -⟩ := hr.tcell hx
      injection eq with e1 e2 e3
      clear e2
      subst e1 e3
      obtain ⟨pp, pc, e, -⟩ := hr.pcell hx
      have HPN := Lib.hid (tpend_next hx)
      rw [e] at d0
      have hpt : (tpend 0 (T.take t)).length ≤ 64 := by have := tpend_len 0 (T.take t); rw [List.length_take] at this; omega
      obtain ⟨sp, sc, e4⟩ := bk_form HI.out.1
      subst e4
      clear hr hx e
      generalize tpend 0 (T.take t) = pl at *
      cases ho : x.op
      · rw [ho] at d2
        have HII : Hid (∀ o, (wr.alloc o).ownsRow w.heap.size 3 1 (.slice sp pl.length sc) (tpend 0 (T.take (t + 1))).length (is64 (tpend 0 (T.take (t + 1)))) ∧ Below w.heap.size w (wr.alloc o)) := fun o => by
          have f : Fr (fun _ => False) wr (wr.alloc o) := (Fr.refl _ wr).alloc o
          rw [HPN.out, ho]
          simp only [Bool.false_eq_true, if_false, List.append_nil]
          exact ⟨own_fr HI.out.1 f (fun _ _ e => e), HI.out.2.trans (f.to_below HI.out.2.size (fun _ _ e => e))⟩
        clear ho
        go_wp2_with fail
        go_round
        case rel => exact ⟨t + 1, by go_num, by omega, HII.out _⟩
        case measure => simp [intOf]; omega
      · rw [ho] at d2
        have HOWN : Hid (∀ o1 o', ((wr.alloc o1).alloc o').ownsRow w.heap.size 3 1 (.slice sp pl.length sc) pl.length (is64 pl)) := fun o1 o' => own_fr HI.out.1 (((Fr.refl (fun _ => False) wr).alloc o1).alloc o') (fun _ _ e => e)
        have HE : Hid (∀ o1 v' w5, w5.ownsRow w.heap.size 3 1 v' (pl.length + 1) (is64 pl ++ [.int .i64 (t : Int)]) → ((wr.alloc o1).alloc (.cells #[.int .i64 (t : Int)] 3)).grownBy w5 (Value.slice sp pl.length sc).ownBlock → w5.ownsRow w.heap.size 3 1 v' (tpend 0 (T.take (t + 1))).length (is64 (tpend 0 (T.take (t + 1)))) ∧ Below w.heap.size w w5) := by
          intro o1 v' w5 hown hg
          have f : Fr (fun b => (Value.slice sp pl.length sc).ownBlock = some b) wr w5 := (((Fr.refl (fun b => (Value.slice sp pl.length sc).ownBlock = some b) wr).alloc o1).alloc _).grown hg (fun k e => .inl e)
          refine ⟨?_, HI.out.2.trans (f.to_below HI.out.2.size fun k hk e => by have := own_ge HI.out.1 e; omega)⟩
          rw [HPN.out, ho]
          simpa [is64] using hown
        have hsz : ∀ o, w.heap.size ≤ (wr.alloc o).heap.size := fun o => by have := HI.out.2.size; simp; omega
        clear ho
        go_wp2_with (at_builtin; refine app_one infoI Try.underlying46 rfl (by decide) rfl _ _ rfl rfl (HOWN.out _ _) rfl (by simp) rfl (by omega) (hsz _) ?_; intro v5 w5 ho5 hg5 _; have HI5 := Lib.hid (HE.out _ _ _ ho5 hg5); clear ho5 hg5)
        go_round
        case rel => exact ⟨t + 1, by go_num, by omega, HI5⟩
        case measure => simp [intOf]; omega
    · obtain rfl : t = T.length := by omega
      have HF : Hid (wr.ownsRow w.heap.size 3 1 u3 (tpend 0 T).length (is64 (tpend 0 T)) ∧ Below w.heap.size w wr) := by
        have := HI.out
        rw [List.take_length] at this
        exact this
      go_wp2_with fail
      go_ret
      exact ⟨_, rfl, HF.out⟩
end
end Go.Proofs.Ytkaplifhaafpdaa
end

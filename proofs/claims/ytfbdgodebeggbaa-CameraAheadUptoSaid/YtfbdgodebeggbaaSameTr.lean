/-
  Two told lists that are the same: SameUint64s, SameAccesses say so. No condition.
-/
import Derived.Test.YtfbdgodebeggbaaLexS
namespace Go.Proofs.Ytfbdgodebeggbaa
open Go Go.RowKit
set_option linter.unusedSimpArgs false
set_option linter.unusedVariables false
section
variable {w w' : World} {F G S : Nat → Prop} {u v : Value} {rows rows' : List (Acc × Value)} {vs : List Int}
theorem VR.drawn (h : VR w v vs) (n : Nat) : VR (w.drewN n) v vs := by
  rcases h with h | ⟨g, c, rfl, hl, hc⟩
  · exact .inl h
  · exact .inr ⟨g, c, rfl, hl, fun j u hu => hc j u hu⟩
theorem SameU_yes (hu : VR w u vs) (hv : VR w v vs) (hn : vs.length ≤ 1000000000) : Calls Try.prog 32 #[u, v] w fun e w' => e = .returned (.bool true) ∧ ∃ n, w' = w.drewN n := by
  by_cases h0 : vs = []
  · subst h0
    obtain ⟨p, c, rfl⟩ : ∃ p c, u = .slice p 0 c := by rcases hu with ⟨p, c, rfl, _⟩ | ⟨g, c, rfl, _⟩; exact ⟨_, _, rfl⟩; exact ⟨_, _, rfl⟩
    obtain ⟨p', c', rfl⟩ : ∃ p c, v = .slice p 0 c := by rcases hv with ⟨p, c, rfl, _⟩ | ⟨g, c, rfl, _⟩; exact ⟨_, _, rfl⟩; exact ⟨_, _, rfl⟩
    clear hu hv hn
    go_enter Try.func32, Try.ntmps32
    go_wp2
    go_loop [5] (fun i => i = .int .i64 0) (fun i => 0)
    case atStart => rfl
    case round =>
      obtain rfl := hrel
      go_wp2
      go_ret
      exact ⟨rfl, 0, rfl⟩
  · obtain ⟨g, c, rfl, _, hc⟩ : ∃ g c, u = .slice (some ⟨g, 0, none⟩) vs.length c ∧ g < w.heap.size ∧ ∀ j x, (us vs)[j]? = some x → w.cell? ⟨g, j, none⟩ = some x := by
      rcases hu with ⟨p, c, rfl, e⟩ | h; exact absurd e h0; exact h
    obtain ⟨g', c', rfl, _, hc'⟩ : ∃ g c, v = .slice (some ⟨g, 0, none⟩) vs.length c ∧ g < w.heap.size ∧ ∀ j x, (us vs)[j]? = some x → w.cell? ⟨g, j, none⟩ = some x := by
      rcases hv with ⟨p, c, rfl, e⟩ | h; exact absurd e h0; exact h
    have hat : ∀ j, j < vs.length → (us vs)[j]? = some (.int .u64 (vs.getD j 0)) := by
      intro j hj; simp [us, hj, List.getD_eq_getElem?_getD]
    have H1 := Lib.hid (fun j hj => hc j _ (hat j hj))
    have H2 := Lib.hid (fun j hj => hc' j _ (hat j hj))
    clear hc hc' hat h0
    generalize hm : vs.length = m at *
    clear hm
    go_enter Try.func32, Try.ntmps32
    go_wp2
    go_loopw [5] (fun i wr => ∃ k : Nat, i = .int .i64 k ∧ k ≤ m ∧ ∃ d, wr = w.drewN d) (fun i _ => m - (intOf i).toNat)
    case atStart => exact ⟨0, rfl, Nat.zero_le _, 0, rfl⟩
    case round =>
      obtain ⟨k, rfl, hk, d, rfl⟩ := hrel
      by_cases hlt : k < m
      · have e1 : (w.drewN d).cell? ⟨g, k, none⟩ = some (.int .u64 (vs.getD k 0)) := H1.out k hlt
        have e2 : (w.drewN d).cell? ⟨g', k, none⟩ = some (.int .u64 (vs.getD k 0)) := H2.out k hlt
        generalize vs.getD k 0 = x at *
        generalize hwd : w.drewN d = wd at *
        have HW := Lib.hid hwd
        clear hwd
        go_wp2
        go_quiet (fail)
        go_wp2
        go_roundw
        case rel => exact ⟨k + 1, by go_num, by omega, _, by rw [← HW.out, World.drewN_drewN]⟩
        case measure => simp [intOf]; omega
      · go_wp2
        go_ret
        exact ⟨rfl, d, rfl⟩
/-- a value reads as this trace -/
def TL (w : World) (v : Value) (tr : List Acc) : Prop :=
  ∃ p c, v = .slice p tr.length c ∧ ∃ rows : List (Acc × Value), rows.map (·.1) = tr ∧ TR w p rows ∧ ∀ x ∈ rows, VR w x.2 x.1.vals
theorem TL_of {B : Nat} {p : Option Addr} {c : Nat} {tr : List Acc} {rows : List (Acc × Value)} (hf : rows.map (·.1) = tr) (ho : w.ownsRow B 87 8 (.slice p rows.length c) rows.length (rows.flatMap accC)) (hv : ∀ x ∈ rows, VR w x.2 x.1.vals) : TL w (.slice p tr.length c) tr := by
  refine ⟨p, c, rfl, rows, hf, TR_own (w := w) (n := rows.length) (c := c) ?_, hv⟩
  rcases ho.2 with h | ⟨g, cap, cur, h1, _, h2⟩
  · exact ⟨ho.1, .inl h⟩
  · exact ⟨ho.1, .inr ⟨g, cap, cur, h1, Nat.zero_le _, h2⟩⟩
theorem Told.tl {B : Nat} {v : Value} {tr : List Acc} (h : Told w B v tr) : TL w v tr := by
  obtain ⟨rows, hf, ho, hv⟩ := h.out
  have hl : rows.length = tr.length := by rw [← hf]; simp
  obtain ⟨p, c, rfl⟩ : ∃ p c, v = .slice p rows.length c := by
    rcases ho.2 with ⟨rfl, h0⟩ | ⟨g', cap', cur', rfl, _⟩
    · exact ⟨none, 0, by rw [h0]⟩
    · exact ⟨_, _, rfl⟩
  have := TL_of hf ho hv
  rwa [← hl] at this
set_option maxHeartbeats 8000000 in
set_option maxRecDepth 100000 in
theorem SameAccesses_yes {tr : List Acc} (hu : TL w u tr) (hv : TL w v tr) (hn : tr.length ≤ 1000000000) (hvs : ∀ x ∈ tr, x.vals.length ≤ 1000000000) :
    Calls Try.prog 56 #[u, v] w fun e w' => e = .returned (.bool true) ∧ ∃ n, w' = w.drewN n := by
  obtain ⟨p, c, rfl, ra, hfa, hta, hva⟩ := hu
  obtain ⟨p', c', rfl, rb, hfb, htb, hvb⟩ := hv
  have hla : ra.length = tr.length := by rw [← hfa]; simp
  have hlb : rb.length = tr.length := by rw [← hfb]; simp
  have at_ : ∀ k, k < tr.length → ∃ g g' x ua ub, p = some ⟨g, 0, none⟩ ∧ p' = some ⟨g', 0, none⟩ ∧ (∀ j y, (accC (x, ua))[j]? = some y → w.cell? ⟨g, k * 8 + j, none⟩ = some y) ∧ (∀ j y, (accC (x, ub))[j]? = some y → w.cell? ⟨g', k * 8 + j, none⟩ = some y) ∧ VR w ua x.vals ∧ VR w ub x.vals ∧ x.vals.length ≤ 1000000000 := by
    intro k hk
    have ea : ra[k]? = some ra[k] := List.getElem?_eq_getElem (by omega)
    have eb : rb[k]? = some rb[k] := List.getElem?_eq_getElem (by omega)
    have e1 : (ra[k]).1 = tr[k] := by
      have h1 : (ra.map (·.1))[k]? = tr[k]? := by rw [hfa]
      rw [List.getElem?_map, ea, List.getElem?_eq_getElem hk] at h1
      injection h1
    have e2 : (rb[k]).1 = tr[k] := by
      have h1 : (rb.map (·.1))[k]? = tr[k]? := by rw [hfb]
      rw [List.getElem?_map, eb, List.getElem?_eq_getElem hk] at h1
      injection h1
    rcases hta with rfl | ⟨g, rfl, _, ca⟩
    · simp at hla; omega
    rcases htb with rfl | ⟨g', rfl, _, cb⟩
    · simp at hlb; omega
    have va := hva _ (List.getElem_mem (show k < ra.length by omega))
    have vb := hvb _ (List.getElem_mem (show k < rb.length by omega))
    have ca' := ca k _ ea
    have cb' := cb k _ eb
    generalize ra[k] = xa at *
    generalize rb[k] = xb at *
    obtain ⟨xa, ua⟩ := xa
    obtain ⟨xb, ub⟩ := xb
    simp only at e1 e2
    subst e1
    subst e2
    exact ⟨g, g', _, ua, ub, rfl, rfl, ca', cb', va, vb, hvs _ (List.getElem_mem hk)⟩
  have HA := Lib.hid at_
  clear at_ hfa hta hva hfb htb hvb hla hlb hvs
  generalize tr.length = m at *
  go_enter Try.func56, Try.ntmps56
  go_wp2
  go_loopw [5] (fun i wr => ∃ k : Nat, i = .int .i64 k ∧ k ≤ m ∧ ∃ d, wr = w.drewN d) (fun i _ => m - (intOf i).toNat)
  case atStart => exact ⟨0, rfl, Nat.zero_le _, 0, rfl⟩
  case round =>
    obtain ⟨k, rfl, hk, d, rfl⟩ := hrel
    by_cases hlt : k < m
    · obtain ⟨g, g', x, ua, ub, rfl, rfl, ca, cb, va, vb, hl⟩ := HA.out k hlt
      have a0 : (w.drewN d).cell? ⟨g, k * 8, none⟩ = some (.int .i64 x.thread) := ca 0 _ rfl
      have a1 : (w.drewN d).cell? ⟨g, k * 8 + 1, none⟩ = some (.int .u8 x.kind) := ca 1 _ rfl
      have a2 : (w.drewN d).cell? ⟨g, k * 8 + 2, none⟩ = some (.int .u64 x.addr) := ca 2 _ rfl
      have a3 : (w.drewN d).cell? ⟨g, k * 8 + 3, none⟩ = some (.int .u64 x.a) := ca 3 _ rfl
      have a4 : (w.drewN d).cell? ⟨g, k * 8 + 4, none⟩ = some (.int .u64 x.b) := ca 4 _ rfl
      have a5 : (w.drewN d).cell? ⟨g, k * 8 + 5, none⟩ = some ua := ca 5 _ rfl
      have a6 : (w.drewN d).cell? ⟨g, k * 8 + 6, none⟩ = some (.int .u64 x.got) := ca 6 _ rfl
      have a7 : (w.drewN d).cell? ⟨g, k * 8 + 7, none⟩ = some (.bool x.ok) := ca 7 _ rfl
      have b0 : (w.drewN d).cell? ⟨g', k * 8, none⟩ = some (.int .i64 x.thread) := cb 0 _ rfl
      have b1 : (w.drewN d).cell? ⟨g', k * 8 + 1, none⟩ = some (.int .u8 x.kind) := cb 1 _ rfl
      have b2 : (w.drewN d).cell? ⟨g', k * 8 + 2, none⟩ = some (.int .u64 x.addr) := cb 2 _ rfl
      have b3 : (w.drewN d).cell? ⟨g', k * 8 + 3, none⟩ = some (.int .u64 x.a) := cb 3 _ rfl
      have b4 : (w.drewN d).cell? ⟨g', k * 8 + 4, none⟩ = some (.int .u64 x.b) := cb 4 _ rfl
      have b5 : (w.drewN d).cell? ⟨g', k * 8 + 5, none⟩ = some ub := cb 5 _ rfl
      have b6 : (w.drewN d).cell? ⟨g', k * 8 + 6, none⟩ = some (.int .u64 x.got) := cb 6 _ rfl
      have b7 : (w.drewN d).cell? ⟨g', k * 8 + 7, none⟩ = some (.bool x.ok) := cb 7 _ rfl
      have HC := Lib.hid (fun n => SameU_yes ((va.drawn d).drawn n) ((vb.drawn d).drawn n) hl)
      clear ca cb va vb hl
      generalize hwd : w.drewN d = wd at *
      have HW := Lib.hid hwd
      clear hwd
      go_wp2
      refine wp_region_quiet_lit (by kernel_rfl) lex_ok ?_
      repeat (quiet_step ((go_at_call 32; exact Calls.quiet_of (HC.out _))))
      refine wpQuiet_nil ?_
      intro _ hw'
      obtain ⟨nq, hw''⟩ := hw'
      subst hw''
      go_wp2
      go_roundw
      case rel => exact ⟨k + 1, by go_num, by omega, _, by rw [← HW.out, World.drewN_drewN]⟩
      case measure => simp [intOf]; omega
    · go_wp2
      go_ret
      exact ⟨rfl, d, rfl⟩
end
end Go.Proofs.Ytfbdgodebeggbaa

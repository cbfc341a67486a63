/-
  Two told lists that are the same: the document's SameTrace says so. No condition.
-/
import Derived.Test.YthggpbbnhjaegaaTrace
import Derived.Deep.RegionHeldLaw
import Derived.Deep.RegionHeld3
import Derived.Lib.Hide
import Derived.Deep.Cut
import Derived.Deep.DeepCutAuto
import Derived.Deep.QuietTactic
import Derived.BigQuiet
import Derived.IntWalk
import Derived.LoopTactic
import Derived.Test.YthggpbbnhjaegaaBookW
namespace Go.Proofs.Ythggpbbnhjaegaa
open Go Go.RowKit
set_option linter.unusedSimpArgs false
set_option linter.unusedVariables false
section
variable {w w' : World} {F G S : Nat → Prop} {u v : Value} {rows rows' : List (Acc × Value)} {vs : List Int}
theorem VR.drawn (h : VR w v vs) (n : Nat) : VR (w.drewN n) v vs := by
  rcases h with h | ⟨g, c, rfl, hl, hc⟩
  · exact .inl h
  · exact .inr ⟨g, c, rfl, hl, fun j u hu => hc j u hu⟩
theorem SameU_yes (hu : VR w u vs) (hv : VR w v vs) (hn : vs.length ≤ 1000000000) : Calls Try.prog 44 #[u, v] w fun e w' => e = .returned (.bool true) ∧ ∃ n, w' = w.drewN n := by
  by_cases h0 : vs = []
  · subst h0
    obtain ⟨p, c, rfl⟩ : ∃ p c, u = .slice p 0 c := by rcases hu with ⟨p, c, rfl, _⟩ | ⟨g, c, rfl, _⟩; exact ⟨_, _, rfl⟩; exact ⟨_, _, rfl⟩
    obtain ⟨p', c', rfl⟩ : ∃ p c, v = .slice p 0 c := by rcases hv with ⟨p, c, rfl, _⟩ | ⟨g, c, rfl, _⟩; exact ⟨_, _, rfl⟩; exact ⟨_, _, rfl⟩
    clear hu hv hn
    go_enter Try.func44, Try.ntmps44
    go_wp2
    go_loop [5] (fun i => i = .int .i64 0) (fun i => 0)
    case atStart => rfl
    case round =>
      obtain rfl := hrel
      go_wp2
      go_ret
      exact ⟨rfl, 0, rfl⟩
  · obtain ⟨g, c, rfl, _, hc⟩ : ∃ g c, u = .slice (some ⟨g, 0, none⟩) vs.length c ∧ g < w.heap.size ∧ ∀ j x, (us vs)[j]? = some x → w.cell? ⟨g, j, none⟩ = some x := by
      rcases hu with ⟨p, c, rfl, e⟩ | h; exact absurd e h0; exact h
    obtain ⟨g', c', rfl, _, hc'⟩ : ∃ g c, v = .slice (some ⟨g, 0, none⟩) vs.length c ∧ g < w.heap.size ∧ ∀ j x, (us vs)[j]? = some x → w.cell? ⟨g, j, none⟩ = some x := by
      rcases hv with ⟨p, c, rfl, e⟩ | h; exact absurd e h0; exact h
    have hat : ∀ j, j < vs.length → (us vs)[j]? = some (.int .u64 (vs.getD j 0)) := by
      intro j hj; simp [us, hj, List.getD_eq_getElem?_getD]
    have H1 := Lib.hid (fun j hj => hc j _ (hat j hj))
    have H2 := Lib.hid (fun j hj => hc' j _ (hat j hj))
    clear hc hc' hat h0
    generalize hm : vs.length = m at *
    clear hm
    go_enter Try.func44, Try.ntmps44
    go_wp2
    go_loopw [5] (fun i wr => ∃ k : Nat, i = .int .i64 k ∧ k ≤ m ∧ ∃ d, wr = w.drewN d) (fun i _ => m - (intOf i).toNat)
    case atStart => exact ⟨0, rfl, Nat.zero_le _, 0, rfl⟩
    case round =>
      obtain ⟨k, rfl, hk, d, rfl⟩ := hrel
      by_cases hlt : k < m
      · have e1 : (w.drewN d).cell? ⟨g, k, none⟩ = some (.int .u64 (vs.getD k 0)) := H1.out k hlt
        have e2 : (w.drewN d).cell? ⟨g', k, none⟩ = some (.int .u64 (vs.getD k 0)) := H2.out k hlt
        generalize vs.getD k 0 = x at *
        generalize hwd : w.drewN d = wd at *
        have HW := Lib.hid hwd
        clear hwd
        go_wp2
        go_quiet (fail)
        go_wp2
        go_roundw
        case rel => exact ⟨k + 1, by go_num, by omega, _, by rw [← HW.out, World.drewN_drewN]⟩
        case measure => simp [intOf]; omega
      · go_wp2
        go_ret
        exact ⟨rfl, d, rfl⟩
/-- a value reads as this trace -/
def TL (w : World) (v : Value) (tr : List Acc) : Prop :=
  ∃ p c, v = .slice p tr.length c ∧ ∃ rows : List (Acc × Value), rows.map (·.1) = tr ∧ TR w p rows ∧ ∀ x ∈ rows, VR w x.2 x.1.vals
theorem TL_of {B : Nat} {p : Option Addr} {c : Nat} {tr : List Acc} {rows : List (Acc × Value)} (hf : rows.map (·.1) = tr) (ho : w.ownsRow B 89 8 (.slice p rows.length c) rows.length (rows.flatMap accC)) (hv : ∀ x ∈ rows, VR w x.2 x.1.vals) : TL w (.slice p tr.length c) tr := by
  refine ⟨p, c, rfl, rows, hf, TR_own (w := w) (n := rows.length) (c := c) ?_, hv⟩
  rcases ho.2 with h | ⟨g, cap, cur, h1, _, h2⟩
  · exact ⟨ho.1, .inl h⟩
  · exact ⟨ho.1, .inr ⟨g, cap, cur, h1, Nat.zero_le _, h2⟩⟩
theorem Told.tl {B : Nat} {v : Value} {tr : List Acc} (h : Told w B v tr) : TL w v tr := by
  obtain ⟨rows, hf, ho, hv⟩ := h.out
  have hl : rows.length = tr.length := by rw [← hf]; simp
  obtain ⟨p, c, rfl⟩ : ∃ p c, v = .slice p rows.length c := by
    rcases ho.2 with ⟨rfl, h0⟩ | ⟨g', cap', cur', rfl, _⟩
    · exact ⟨none, 0, by rw [h0]⟩
    · exact ⟨_, _, rfl⟩
  have := TL_of hf ho hv
  rwa [← hl] at this
theorem VR.reads (h : VR w v vs) : ∃ p c, v = .slice p vs.length c ∧ ∀ (j : Nat) y, vs[j]? = some y → ∃ g, p = some ⟨g, 0, none⟩ ∧ g < w.heap.size ∧ w.cell? ⟨g, j, none⟩ = some (.int .u64 y) := by
  rcases h with ⟨p, c, rfl, rfl⟩ | ⟨g, c, rfl, hl, hc⟩
  · exact ⟨p, c, rfl, fun j y hj => by simp at hj⟩
  · exact ⟨_, c, rfl, fun j y hj => ⟨g, rfl, hl, hc j _ (by simp [us, hj])⟩⟩
theorem bdn {B : Nat} {w1 : World} (h : Below B w w1) (hB : B ≤ w1.heap.size) (n : Nat) : Below B w (w1.drewN n) := h.trans (((Fr.refl (fun _ => False) w1).drawn n).to_below hB (fun _ _ e => e))
set_option maxHeartbeats 4000000 in
set_option maxRecDepth 100000 in
theorem SameAccess_yes {x : Acc} {ua ub : Value} (ha : VR w ua x.vals) (hb : VR w ub x.vals) (hn : x.vals.length ≤ 1000000000) :
    Calls Try.prog 45 #[.agg (accC (x, ua)).toArray, .agg (accC (x, ub)).toArray] w fun e w' => e = .returned (.bool true) ∧ Below w.heap.size w w' := by
  obtain ⟨pa, ca, rfl, ra⟩ := ha.reads
  obtain ⟨pb, cb, rfl, rb⟩ := hb.reads
  have HA := Lib.hid ra
  have HB := Lib.hid rb
  clear ha hb ra rb
  unfold accC
  obtain ⟨th, kd, ad, a, b, vals, got, ok⟩ := x
  simp only at hn HA HB ⊢
  go_enter Try.func45, Try.ntmps45
  obtain ⟨wA, hwA⟩ : ∃ wA, wA = (w.alloc (.cells #[.int .i64 th, .int .u8 kd, .int .u64 ad, .int .u64 a, .int .u64 b, .slice pa vals.length ca, .int .u64 got, .bool ok] 89)).alloc (.cells #[.int .i64 th, .int .u8 kd, .int .u64 ad, .int .u64 a, .int .u64 b, .slice pb vals.length cb, .int .u64 got, .bool ok] 89) := ⟨_, rfl⟩
  have hb1 : Below w.heap.size w (w.alloc (.cells #[.int .i64 th, .int .u8 kd, .int .u64 ad, .int .u64 a, .int .u64 b, .slice pa vals.length ca, .int .u64 got, .bool ok] 89)) := (Below.refl _ w).alloc (Nat.le_refl _) _
  have HBA : Hid (Below w.heap.size w wA) := by rw [hwA]; exact hb1.alloc hb1.size _
  have B1 : Blk wA w.heap.size 89 #[.int .i64 th, .int .u8 kd, .int .u64 ad, .int .u64 a, .int .u64 b, .slice pa vals.length ca, .int .u64 got, .bool ok] := by rw [hwA]; exact (Blk.made w _ _).alloc _
  have B2 : Blk wA (w.heap.size + 1) 89 #[.int .i64 th, .int .u8 kd, .int .u64 ad, .int .u64 a, .int .u64 b, .slice pb vals.length cb, .int .u64 got, .bool ok] := by
    rw [hwA]
    have := Blk.made (w.alloc (.cells #[.int .i64 th, .int .u8 kd, .int .u64 ad, .int .u64 a, .int .u64 b, .slice pa vals.length ca, .int .u64 got, .bool ok] 89)) 89 #[.int .i64 th, .int .u8 kd, .int .u64 ad, .int .u64 a, .int .u64 b, .slice pb vals.length cb, .int .u64 got, .bool ok]
    simpa using this
  have HC : Hid (∀ wx, Below wA.heap.size wA wx → (wx.cell? ⟨w.heap.size, 5, none⟩ = some (.slice pa vals.length ca) ∧ wx.cell? ⟨w.heap.size + 1, 5, none⟩ = some (.slice pb vals.length cb))) := fun wx hb => ⟨(hb.cell (p := ⟨w.heap.size, 5, none⟩) B1.lt).trans (B1.cell 5), (hb.cell (p := ⟨w.heap.size + 1, 5, none⟩) B2.lt).trans (B2.cell 5)⟩
  clear B1 B2 hb1
  have HWA := Lib.hid hwA
  clear hwA
  go_wp2_with fail
  rw [← HWA.out]
  go_loopw [5] (fun s5 wx => ∃ k : Nat, s5 = .int .i64 k ∧ k ≤ vals.length ∧ Hid (Below wA.heap.size wA wx)) (fun s5 _ => vals.length - (intOf s5).toNat)
  case atStart => exact ⟨0, rfl, Nat.zero_le _, Below.refl _ _⟩
  case round =>
    obtain ⟨k, rfl, hk, HBW⟩ := hrel
    obtain ⟨c1, c2⟩ := HC.out _ HBW.out
    by_cases hlt : k < vals.length
    · obtain ⟨y, hy⟩ : ∃ y, vals[k]? = some y := ⟨_, List.getElem?_eq_getElem hlt⟩
      have hbx : Below w.heap.size w wr := HBA.out.trans (HBW.out.mono HBA.out.size)
      obtain ⟨g, rfl, hg, d1⟩ := HA.out k y hy
      obtain ⟨g', rfl, hg', d2⟩ := HB.out k y hy
      have e1 : wr.cell? ⟨g, k, none⟩ = some (.int .u64 y) := (hbx.cell (p := ⟨g, k, none⟩) hg).trans d1
      have e2 : wr.cell? ⟨g', k, none⟩ = some (.int .u64 y) := (hbx.cell (p := ⟨g', k, none⟩) hg').trans d2
      have HB9 : Hid (∀ n, Below wA.heap.size wA (wr.drewN n)) := fun n => bdn HBW.out HBW.out.size n
      clear d1 d2 hy hbx
      go_wp2_with fail
      go_quiet (fail)
      all_goals
        go_wp2_with fail
        go_roundw
        case rel => exact ⟨k + 1, by go_num, by omega, HB9.out _⟩
        case measure => simp [intOf]; omega
    · obtain rfl : k = vals.length := by omega
      have HBZ : Hid (Below w.heap.size w wr) := HBA.out.trans (HBW.out.mono HBA.out.size)
      go_wp2_with fail
      go_ret
      exact ⟨rfl, HBZ.out⟩
theorem tcell {a : Addr} (h : w.cell? a = some v) (hb : Below w.heap.size w w') : w'.cell? a = some v := by
  have hl : a.block < w.heap.size := by
    rcases Nat.lt_or_ge a.block w.heap.size with h1 | h1
    · exact h1
    · exfalso
      simp [World.cell?, Array.getElem?_eq_none h1] at h
  exact (hb.cell (p := a) hl).trans h
set_option maxHeartbeats 8000000 in
set_option maxRecDepth 100000 in
theorem SameTrace_yes {tr : List Acc} (hu : TL w u tr) (hv : TL w v tr) (hn : tr.length ≤ 1000000000) (hvs : ∀ x ∈ tr, x.vals.length ≤ 1000000000) :
    Calls Try.prog 36 #[u, v] w fun e w' => e = .returned (.bool true) ∧ Below w.heap.size w w' := by
  obtain ⟨p, c, rfl, ra, hfa, hta, hva⟩ := hu
  obtain ⟨p', c', rfl, rb, hfb, htb, hvb⟩ := hv
  have hla : ra.length = tr.length := by rw [← hfa]; simp
  have hlb : rb.length = tr.length := by rw [← hfb]; simp
  have at_ : ∀ k, k < tr.length → ∃ g g' x ua ub, p = some ⟨g, 0, none⟩ ∧ p' = some ⟨g', 0, none⟩ ∧ (∀ j y, (accC (x, ua))[j]? = some y → w.cell? ⟨g, k * 8 + j, none⟩ = some y) ∧ (∀ j y, (accC (x, ub))[j]? = some y → w.cell? ⟨g', k * 8 + j, none⟩ = some y) ∧ VR w ua x.vals ∧ VR w ub x.vals ∧ x.vals.length ≤ 1000000000 := by
    intro k hk
    have ea : ra[k]? = some ra[k] := List.getElem?_eq_getElem (by omega)
    have eb : rb[k]? = some rb[k] := List.getElem?_eq_getElem (by omega)
    have e1 : (ra[k]).1 = tr[k] := by
      have h1 : (ra.map (·.1))[k]? = tr[k]? := by rw [hfa]
      rw [List.getElem?_map, ea, List.getElem?_eq_getElem hk] at h1
      injection h1
    have e2 : (rb[k]).1 = tr[k] := by
      have h1 : (rb.map (·.1))[k]? = tr[k]? := by rw [hfb]
      rw [List.getElem?_map, eb, List.getElem?_eq_getElem hk] at h1
      injection h1
    rcases hta with rfl | ⟨g, rfl, _, ca⟩
    · simp at hla; omega
    rcases htb with rfl | ⟨g', rfl, _, cb⟩
    · simp at hlb; omega
    have va := hva _ (List.getElem_mem (show k < ra.length by omega))
    have vb := hvb _ (List.getElem_mem (show k < rb.length by omega))
    have ca' := ca k _ ea
    have cb' := cb k _ eb
    generalize ra[k] = xa at *
    generalize rb[k] = xb at *
    obtain ⟨xa, ua⟩ := xa
    obtain ⟨xb, ub⟩ := xb
    simp only at e1 e2
    subst e1
    subst e2
    exact ⟨g, g', _, ua, ub, rfl, rfl, ca', cb', va, vb, hvs _ (List.getElem_mem hk)⟩
  have HA := Lib.hid at_
  clear at_ hfa hta hva hfb htb hvb hla hlb hvs
  generalize tr.length = m at *
  go_enter Try.func36, Try.ntmps36
  go_wp2_with fail
  go_loopw [5] (fun i wr => ∃ k : Nat, i = .int .i64 k ∧ k ≤ m ∧ Hid (Below w.heap.size w wr)) (fun i _ => m - (intOf i).toNat)
  case atStart => exact ⟨0, rfl, Nat.zero_le _, Below.refl _ _⟩
  case round =>
    obtain ⟨k, rfl, hk, HBW⟩ := hrel
    by_cases hlt : k < m
    · obtain ⟨g, g', x, ua, ub, rfl, rfl, ca, cb, va, vb, hx⟩ := HA.out k hlt
      have HS : Hid (∀ wx, Below w.heap.size w wx → (wx.cell? ⟨g, k * 8, none⟩ = some (.int .i64 x.thread) ∧ wx.cell? ⟨g, k * 8 + 1, none⟩ = some (.int .u8 x.kind) ∧ wx.cell? ⟨g, k * 8 + 2, none⟩ = some (.int .u64 x.addr) ∧ wx.cell? ⟨g, k * 8 + 3, none⟩ = some (.int .u64 x.a) ∧ wx.cell? ⟨g, k * 8 + 4, none⟩ = some (.int .u64 x.b) ∧ wx.cell? ⟨g, k * 8 + 5, none⟩ = some (ua) ∧ wx.cell? ⟨g, k * 8 + 6, none⟩ = some (.int .u64 x.got) ∧ wx.cell? ⟨g, k * 8 + 7, none⟩ = some (.bool x.ok) ∧ wx.cell? ⟨g', k * 8, none⟩ = some (.int .i64 x.thread) ∧ wx.cell? ⟨g', k * 8 + 1, none⟩ = some (.int .u8 x.kind) ∧ wx.cell? ⟨g', k * 8 + 2, none⟩ = some (.int .u64 x.addr) ∧ wx.cell? ⟨g', k * 8 + 3, none⟩ = some (.int .u64 x.a) ∧ wx.cell? ⟨g', k * 8 + 4, none⟩ = some (.int .u64 x.b) ∧ wx.cell? ⟨g', k * 8 + 5, none⟩ = some (ub) ∧ wx.cell? ⟨g', k * 8 + 6, none⟩ = some (.int .u64 x.got) ∧ wx.cell? ⟨g', k * 8 + 7, none⟩ = some (.bool x.ok))) := fun wx hb => ⟨tcell (ca 0 _ rfl) hb, tcell (ca 1 _ rfl) hb, tcell (ca 2 _ rfl) hb, tcell (ca 3 _ rfl) hb, tcell (ca 4 _ rfl) hb, tcell (ca 5 _ rfl) hb, tcell (ca 6 _ rfl) hb, tcell (ca 7 _ rfl) hb, tcell (cb 0 _ rfl) hb, tcell (cb 1 _ rfl) hb, tcell (cb 2 _ rfl) hb, tcell (cb 3 _ rfl) hb, tcell (cb 4 _ rfl) hb, tcell (cb 5 _ rfl) hb, tcell (cb 6 _ rfl) hb, tcell (cb 7 _ rfl) hb⟩
      have HSA : Hid (∀ wx, Below w.heap.size w wx → Calls Try.prog 45 #[.agg #[.int .i64 x.thread, .int .u8 x.kind, .int .u64 x.addr, .int .u64 x.a, .int .u64 x.b, ua, .int .u64 x.got, .bool x.ok], .agg #[.int .i64 x.thread, .int .u8 x.kind, .int .u64 x.addr, .int .u64 x.a, .int .u64 x.b, ub, .int .u64 x.got, .bool x.ok]] wx fun e w' => e = .returned (.bool true) ∧ Below wx.heap.size wx w') := fun wx hb => SameAccess_yes (va.below hb) (vb.below hb) hx
      have b1 : Below w.heap.size w wr.drew := HBW.out.drew
      obtain ⟨pa, na, xa, rfl⟩ := va.form
      obtain ⟨pb, nb, xb, rfl⟩ := vb.form
      clear ca cb va vb
      have hlt' : decide ((k : Int) < (m : Int)) = true := by simp; omega
      have k0 : (0 : Int) ≤ (k : Int) := by omega
      have k1 : (k : Int) < (m : Int) := by omega
      go_upto_region 6 with fail
      go_cut [26] (fun s26 wx => s26 = .bool false ∧ Hid (Below w.heap.size w wx))
      case first =>
        go_region_held3 (fun wx => wx.cell? ⟨g, k * 8, none⟩ = some (.int .i64 x.thread) ∧ wx.cell? ⟨g, k * 8 + 1, none⟩ = some (.int .u8 x.kind) ∧ wx.cell? ⟨g, k * 8 + 2, none⟩ = some (.int .u64 x.addr) ∧ wx.cell? ⟨g, k * 8 + 3, none⟩ = some (.int .u64 x.a) ∧ wx.cell? ⟨g, k * 8 + 4, none⟩ = some (.int .u64 x.b) ∧ wx.cell? ⟨g, k * 8 + 5, none⟩ = some (.slice pa na xa) ∧ wx.cell? ⟨g, k * 8 + 6, none⟩ = some (.int .u64 x.got) ∧ wx.cell? ⟨g, k * 8 + 7, none⟩ = some (.bool x.ok) ∧ wx.cell? ⟨g', k * 8, none⟩ = some (.int .i64 x.thread) ∧ wx.cell? ⟨g', k * 8 + 1, none⟩ = some (.int .u8 x.kind) ∧ wx.cell? ⟨g', k * 8 + 2, none⟩ = some (.int .u64 x.addr) ∧ wx.cell? ⟨g', k * 8 + 3, none⟩ = some (.int .u64 x.a) ∧ wx.cell? ⟨g', k * 8 + 4, none⟩ = some (.int .u64 x.b) ∧ wx.cell? ⟨g', k * 8 + 5, none⟩ = some (.slice pb nb xb) ∧ wx.cell? ⟨g', k * 8 + 6, none⟩ = some (.int .u64 x.got) ∧ wx.cell? ⟨g', k * 8 + 7, none⟩ = some (.bool x.ok))
          (exact HS.out _ (by assumption))
          (((with_reducible refine (HSA.out _ (by assumption)).mono ?_); rintro e w5 ⟨rfl, hb5'⟩; have hb5 : Below w.heap.size w w5 := Below.trans (by assumption) (hb5'.mono (Below.size (by assumption)))))
        all_goals
          go_wp2_with fail
          go_meet
          exact ⟨rfl, Lib.hid hb5⟩
      case rest =>
        obtain ⟨rfl, HB6⟩ := hcut
        go_wp2_with fail
        go_round
        case rel => exact ⟨k + 1, by go_num, by omega, HB6⟩
        case measure => simp [intOf]; omega
    · obtain rfl : k = m := by omega
      have hlt' : decide ((k : Int) < (k : Int)) = false := by simp
      go_wp2_with fail
      go_ret
      exact ⟨rfl, HBW.out⟩
end
end Go.Proofs.Ythggpbbnhjaegaa

/-
  honest, runs: what they ask for. No condition.
-/
import Derived.Test.YtenlgfagfpaenaaVrB
namespace Go.Proofs.Ytenlgfagfpaenaa
open Go Go.RowKit
set_option linter.unusedSimpArgs false
set_option linter.unusedVariables false
/-- it answers; true: this holds -/
def SaysB (e : Ending) (P : Prop) : Prop := ∃ b : Bool, e = .returned (.bool b) ∧ (b = true → P)
theorem SaysB.no (P : Prop) : SaysB (.returned (.bool false)) P := ⟨_, rfl, fun e => by cases e⟩
section
variable {w w' : World} {v pv : Value} {ll : List (List Cl)}
set_option maxHeartbeats 2000000 in
set_option maxRecDepth 100000 in
theorem runs_any (h : RdT w v ll) (hn : ll.length ≤ 1048576) (hl : ∀ l ∈ ll, l.length ≤ 1048576) :
    Calls Try.prog 40 #[.agg #[v, pv]] w fun e w' => SaysB e (ll.length ≤ 64 ∧ ∀ l ∈ ll, l.length ≤ 4096) ∧ Below w.heap.size w w' := by
  have HR := Lib.hid h
  obtain ⟨p, c, rfl, -⟩ := h
  obtain ⟨w1, hw1⟩ : ∃ w1, w1 = w.alloc (.cells #[.slice p ll.length c, pv] 56) := ⟨_, rfl⟩
  have hb1 : Below w.heap.size w w1 := hw1 ▸ (Below.refl _ _).alloc (Nat.le_refl _) _
  have HB1 := Lib.hid hb1
  have c0 : w1.cell? ⟨w.heap.size, 0, none⟩ = some (.slice p ll.length c) := hw1 ▸ (Blk.made w _ _).cell 0
  have HRW : Hid (∀ (k : Nat) l, ll[k]? = some l → ∃ b o q d, p = some ⟨b, o, none⟩ ∧ w1.cell? ⟨b, o + k, none⟩ = some (.slice q l.length d)) := by
    intro k l hk
    obtain ⟨p', c', e, hc⟩ := HR.out.below hb1
    injection e with e1 _ e3
    subst e1
    obtain ⟨b, o, u, h1, _, h3, q, d, rfl, _⟩ := hc k l hk
    exact ⟨b, o, q, d, h1, h3⟩
  clear hb1
  go_enter Try.func40, Try.ntmps40
  go_wp2_with fail
  rw [← hw1]
  clear hw1
  generalize w.heap.size = bx at c0 ⊢
  go_loopw [3] (fun i3 wr => ∃ k : Nat, i3 = .int .i64 k ∧ k ≤ ll.length ∧ w1 = wr ∧ Hid (∀ l ∈ ll.take k, l.length ≤ 4096)) (fun i3 _ => ll.length - (intOf i3).toNat)
  case atStart => exact ⟨0, rfl, Nat.zero_le _, rfl, Lib.hid (by intro l hl; simp at hl)⟩
  case round =>
    obtain ⟨k, rfl, hk, rfl, HA⟩ := hrel
    by_cases hlt : k < ll.length
    · obtain ⟨l, hll⟩ : ∃ l, ll[k]? = some l := ⟨_, List.getElem?_eq_getElem hlt⟩
      have hlen := hl l (List.mem_of_getElem? hll)
      obtain ⟨b, o, q, d, rfl, c1⟩ := HRW.out k l hll
      by_cases h4 : l.length ≤ 4096
      · have HA2 : Hid (∀ l ∈ ll.take (k + 1), l.length ≤ 4096) := by
          intro y hy
          rw [List.take_add_one, hll] at hy
          rcases List.mem_append.1 hy with hy | hy
          · exact HA.out y hy
          · simp at hy; subst hy; exact h4
        have h5 : decide (4096 < l.length) = false := by simpa using h4
        go_wp2_with fail
        go_roundw
        case rel => exact ⟨k + 1, by go_num, by omega, by first | rfl | trivial, HA2⟩
        case measure => simp [intOf]; omega
      · have h5 : decide (4096 < l.length) = true := by simpa using h4
        go_wp2
        go_ret
        exact ⟨SaysB.no _, HB1.out⟩
    · obtain rfl : k = ll.length := by omega
      rw [List.take_length] at HA
      go_wp2
      go_ret
      exact ⟨⟨_, rfl, fun e => ⟨by have h := of_decide_eq_true e; omega, HA.out⟩⟩, HB1.out⟩
set_option maxHeartbeats 2000000 in
set_option maxRecDepth 100000 in
theorem honest_any (h : RdT w v ll) (hn : ll.length ≤ 1048576) (hl : ∀ l ∈ ll, l.length ≤ 1048576) :
    Calls Try.prog 32 #[.agg #[v, pv]] w fun e w' => SaysB e ((ll.length ≤ 64 ∧ ∀ l ∈ ll, l.length ≤ 4096) ∧ ∀ l ∈ ll, ∀ c ∈ l, 0 ≤ c.kind ∧ c.kind ≤ 3) ∧ Below w.heap.size w w' := by
  have HR := Lib.hid h
  obtain ⟨p, c, rfl, -⟩ := h
  obtain ⟨w1, hw1⟩ : ∃ w1, w1 = w.alloc (.cells #[.slice p ll.length c, pv] 56) := ⟨_, rfl⟩
  have hb1 : Below w.heap.size w w1 := hw1 ▸ (Below.refl _ _).alloc (Nat.le_refl _) _
  have hz1 : w1.heap.size = w.heap.size + 1 := by rw [hw1]; simp
  have hB0 : Blk w1 w.heap.size 56 #[.slice p ll.length c, pv] := hw1 ▸ Blk.made w _ _
  have HCE : Hid (∀ wx, Below w1.heap.size w1 wx → wx.cell? ⟨w.heap.size, 0, none⟩ = some (.slice p ll.length c) ∧ wx.cell? ⟨w.heap.size, 1, none⟩ = some pv ∧ Below w.heap.size w wx) := fun wx hb => ⟨(hB0.below hb).cell 0, (hB0.below hb).cell 1, hb1.trans (hb.mono (by omega))⟩
  have HRW : Hid (∀ wx, Below w1.heap.size w1 wx → ∀ (k : Nat) l, ll[k]? = some l → ∃ b o u, p = some ⟨b, o, none⟩ ∧ wx.cell? ⟨b, o + k, none⟩ = some u ∧ RdC wx u l) := by
    intro wx hb k l hk
    obtain ⟨p', c', e, hc⟩ := (HR.out.below hb1).below hb
    injection e with e1 _ e3
    subst e1
    obtain ⟨b, o, u, h1, _, h3, h4⟩ := hc k l hk
    exact ⟨b, o, u, h1, h3, h4⟩
  have b0 : Below w1.heap.size w1 w1 := Below.refl _ _
  have HRU : Hid (∀ wx, Below w1.heap.size w1 wx → Calls Try.prog 40 #[.agg #[.slice p ll.length c, pv]] wx fun e w' => SaysB e (ll.length ≤ 64 ∧ ∀ l ∈ ll, l.length ≤ 4096) ∧ Below wx.heap.size wx w') := fun wx hb => runs_any ((HR.out.below hb1).below hb) hn hl
  clear hb1 hB0 HR
  go_enter Try.func32, Try.ntmps32
  go_wp2_with fail
  rw [← hw1]
  clear hw1 hz1
  go_loopw [3] (fun i3 wr => ∃ k : Nat, i3 = .int .i64 k ∧ k ≤ ll.length ∧ Hid (Below w1.heap.size w1 wr) ∧ Hid (∀ l ∈ ll.take k, ∀ c ∈ l, 0 ≤ c.kind ∧ c.kind ≤ 3)) (fun i3 _ => ll.length - (intOf i3).toNat)
  case atStart => exact ⟨0, rfl, Nat.zero_le _, Lib.hid b0, Lib.hid (by intro l hl; simp at hl)⟩
  case round =>
    clear b0
    obtain ⟨k, rfl, hk, HB, HA⟩ := hrel
    by_cases hlt : k < ll.length
    · obtain ⟨l, hll⟩ : ∃ l, ll[k]? = some l := ⟨_, List.getElem?_eq_getElem hlt⟩
      have hlen := hl l (List.mem_of_getElem? hll)
      obtain ⟨c0, -, -⟩ := HCE.out wr HB.out
      obtain ⟨wo, rfl⟩ : ∃ wo : World, wo = wr := ⟨_, rfl⟩
      go_wp2_with fail
      clear c0
      go_loopw [4] (fun i4 wr => ∃ j : Nat, i4 = .int .i64 j ∧ j ≤ l.length ∧ Hid (Below w1.heap.size w1 wr) ∧ Hid (∀ c ∈ l.take j, 0 ≤ c.kind ∧ c.kind ≤ 3)) (fun i4 _ => l.length - (intOf i4).toNat)
      case atStart => exact ⟨0, rfl, Nat.zero_le _, HB, Lib.hid (by intro l hl; simp at hl)⟩
      case round =>
        clear HB
        obtain ⟨j, rfl, hj, HB, HJ⟩ := hrel
        obtain ⟨b1, o1, u, rfl, c1, p3, c3, rfl, hcc⟩ := HRW.out wr HB.out k l hll
        obtain ⟨c0, -, hbw⟩ := HCE.out wr HB.out
        have HBW := Lib.hid hbw
        clear hbw
        by_cases hjt : j < l.length
        · obtain ⟨x, hx⟩ : ∃ x, l[j]? = some x := ⟨_, List.getElem?_eq_getElem hjt⟩
          obtain ⟨b2, o2, rfl, hb2, k0, k1, k2, k3⟩ := hcc j x hx
          have HB2 : Hid (Below w1.heap.size w1 (wr.alloc (.cells #[.int .i64 x.kind, .int .u64 x.obj, .int .u64 x.a, .int .u64 x.b] 76))) := HB.out.alloc HB.out.size _
          have HBW2 : Hid (Below w.heap.size w (wr.alloc (.cells #[.int .i64 x.kind, .int .u64 x.obj, .int .u64 x.a, .int .u64 x.b] 76))) := HBW.out.alloc HBW.out.size _
          clear hcc
          by_cases h0 : x.kind < 0
          · have d0 : decide (x.kind < 0) = true := by simpa using h0
            go_wp2
            go_ret
            exact ⟨SaysB.no _, HBW2.out⟩
          · have d0 : decide (x.kind < 0) = false := by simpa using h0
            by_cases h3 : 3 < x.kind
            · have d3 : decide (3 < x.kind) = true := by simpa using h3
              go_wp2
              go_ret
              exact ⟨SaysB.no _, HBW2.out⟩
            · have d3 : decide (3 < x.kind) = false := by simpa using h3
              have HJ2 : Hid (∀ c ∈ l.take (j + 1), 0 ≤ c.kind ∧ c.kind ≤ 3) := by
                intro y hy
                rw [List.take_add_one, hx] at hy
                rcases List.mem_append.1 hy with hy | hy
                · exact HJ.out y hy
                · simp at hy; subst hy; omega
              go_wp2_with fail
              go_roundw
              case rel => exact ⟨j + 1, by go_num, by omega, HB2, HJ2⟩
              case measure => simp [intOf]; omega
        · obtain rfl : j = l.length := by omega
          rw [List.take_length] at HJ
          have HA2 : Hid (∀ l ∈ ll.take (k + 1), ∀ c ∈ l, 0 ≤ c.kind ∧ c.kind ≤ 3) := by
            intro y hy
            rw [List.take_add_one, hll] at hy
            rcases List.mem_append.1 hy with hy | hy
            · exact HA.out y hy
            · simp at hy; subst hy; exact HJ.out
          go_wp2_with fail
          go_roundw
          case rel => exact ⟨k + 1, by go_num, by omega, HB, HA2⟩
          case measure => simp [intOf]; omega
    · obtain rfl : k = ll.length := by omega
      rw [List.take_length] at HA
      obtain ⟨c0, c1, hbw⟩ := HCE.out wr HB.out
      have HR1 := Lib.hid (HRU.out wr HB.out)
      have HBW := Lib.hid hbw
      clear hbw
      go_wp2_with fail
      refine HR1.out.mono ?_
      rintro e w5 ⟨⟨b, rfl, hb⟩, h5⟩
      have HB5 := Lib.hid (HBW.out.trans (h5.mono HBW.out.size))
      have HBB := Lib.hid hb
      clear h5 hb
      go_wp2
      go_ret
      exact ⟨⟨_, rfl, fun e => ⟨HBB.out e, HA.out⟩⟩, HB5.out⟩
end
end Go.Proofs.Ytenlgfagfpaenaa

/-
  What a runner tells: its events, the steps of its accesses. No condition.
-/
import Derived.Test.YtkaplifhaafpdaaStF
namespace Go.Proofs.Ytkaplifhaafpdaa
open Go Go.RowKit
set_option linter.unusedSimpArgs false
set_option linter.unusedVariables false
def lenOf (v : Value) : Nat := match v with | .slice _ n _ => n | _ => 0
section
variable {w0 w w' w1 w2 : World} {R S G E E' U : Nat → Prop} {rp bm n : Nat} {vws : List Nat} {T T' : List Thr} {x : Thr} {t steps : Nat} {evs : List Ev} {ats : List Int} {cs : Array Value} {tv ev av v : Value} {l : List Value} {ps : List (List Value)}
set_option maxRecDepth 100000 in
theorem CloneE_own {n : Nat} {xs : List Value} (h : w.ownsRow 0 137 4 v n xs) (hn : n ≤ 1000000000) (h1 : ∀ u ∈ xs, u.oneCell' = true) : Calls Try.prog 72 #[v] w fun e w' => ∃ v', e = .returned v' ∧ w'.ownsRow w.heap.size 137 4 v' n xs ∧ Below w.heap.size w w' := by
  have heq := fun (w : World) (a : Option Addr) (n c n' c' : Nat) => Lib.run_eql_slice_nil (P := Try.prog) w 93 137 a n c n' c' Try.underlying93
  have hlen := h.1
  rcases id h.2 with ⟨rfl, rfl⟩ | ⟨g, cap, cur, rfl, -, hb, -⟩
  · have h0 : xs = [] := by simpa using hlen
    subst h0
    clear h h1 hlen
    go_enter Try.func72, Try.ntmps72
    go_wp2
    go_ret
    exact ⟨_, rfl, World.ownsRow_nil _ _ _ _, Below.refl _ _⟩
  · obtain ⟨i0, hi, hz0, hz1, hz2⟩ := info_parts infoEv
    have hc' : ∀ o j u, xs[j]? = some u → (w.alloc o).cell? ((⟨g, 0, none⟩ : Addr).add j) = some u := by
      intro o j u hu
      have ea : (⟨g, 0, none⟩ : Addr).add j = ⟨g, j, none⟩ := by unfold Addr.add; split <;> simp_all
      rw [ea, World.cell?_alloc_lt w o _ (own_lt h (g := g) rfl)]
      exact own_cell h hu
    have HC := Lib.hid hc'
    have H1 := Lib.hid h1
    have HL := Lib.hid hlen
    have HE := Lib.hid (emp_own w 137 4)
    clear hc' h1 h hb hlen
    go_enter Try.func72, Try.ntmps72
    go_wp2_with (at_builtin; refine wpList_append_own _ rfl _ _ 93 rfl w.heap.size 137 i0 _ 4 32 Try.underlying93 hi hz0 hz1 hz2 rfl (by decide) _ _ _ rfl HE.out ⟨g, 0, none⟩ n cap xs rfl (by rw [HL.out]) (HC.out _) H1.out (by unfold maxLen; omega) (by omega) (by simp) ?_; intro v' w' hown' hgrow _)
    have hB : Below w.heap.size w w' := ((Below.refl _ w).alloc (Nat.le_refl _) _).grown hgrow (by simp) (by intro k hk; have hk' : some w.heap.size = some k := hk; injection hk' with e; omega)
    go_ret
    exact ⟨_, rfl, by simpa using hown', hB⟩
set_option maxRecDepth 100000 in
theorem CloneI_own {n : Nat} {xs : List Value} (h : w.ownsRow 0 3 1 v n xs) (hn : n ≤ 1000000000) (h1 : ∀ u ∈ xs, u.oneCell' = true) : Calls Try.prog 74 #[v] w fun e w' => ∃ v', e = .returned v' ∧ w'.ownsRow w.heap.size 3 1 v' n xs ∧ Below w.heap.size w w' := by
  have heq := fun (w : World) (a : Option Addr) (n c n' c' : Nat) => Lib.run_eql_slice_nil (P := Try.prog) w 46 3 a n c n' c' Try.underlying46
  have hlen := h.1
  rcases id h.2 with ⟨rfl, rfl⟩ | ⟨g, cap, cur, rfl, -, hb, -⟩
  · have h0 : xs = [] := by simpa using hlen
    subst h0
    clear h h1 hlen
    go_enter Try.func74, Try.ntmps74
    go_wp2
    go_ret
    exact ⟨_, rfl, World.ownsRow_nil _ _ _ _, Below.refl _ _⟩
  · obtain ⟨i0, hi, hz0, hz1, hz2⟩ := info_parts infoI
    have hc' : ∀ o j u, xs[j]? = some u → (w.alloc o).cell? ((⟨g, 0, none⟩ : Addr).add j) = some u := by
      intro o j u hu
      have ea : (⟨g, 0, none⟩ : Addr).add j = ⟨g, j, none⟩ := by unfold Addr.add; split <;> simp_all
      rw [ea, World.cell?_alloc_lt w o _ (own_lt h (g := g) rfl)]
      exact own_cell h hu
    have HC := Lib.hid hc'
    have H1 := Lib.hid h1
    have HL := Lib.hid hlen
    have HE := Lib.hid (emp_own w 3 1)
    clear hc' h1 h hb hlen
    go_enter Try.func74, Try.ntmps74
    go_wp2_with (at_builtin; refine wpList_append_own _ rfl _ _ 46 rfl w.heap.size 3 i0 _ 1 8 Try.underlying46 hi hz0 hz1 hz2 rfl (by decide) _ _ _ rfl HE.out ⟨g, 0, none⟩ n cap xs rfl (by rw [HL.out]) (HC.out _) H1.out (by unfold maxLen; omega) (by omega) (by simp) ?_; intro v' w' hown' hgrow _)
    have hB : Below w.heap.size w w' := ((Below.refl _ w).alloc (Nat.le_refl _) _).grown hgrow (by simp) (by intro k hk; have hk' : some w.heap.size = some k := hk; injection hk' with e; omega)
    go_ret
    exact ⟨_, rfl, by simpa using hown', hB⟩
theorem evC_one {evs : List Ev} : ∀ u ∈ evs.flatMap evC, u.oneCell' = true := by
  intro u hu
  obtain ⟨x, _, hx⟩ := List.mem_flatMap.1 hu
  simp [evC] at hx
  rcases hx with rfl | rfl | rfl | rfl <;> rfl
theorem is64_one {ats : List Int} : ∀ u ∈ is64 ats, u.oneCell' = true := by
  intro u hu
  obtain ⟨x, _, rfl⟩ := List.mem_map.1 hu
  rfl
theorem Events_any (h : RX w R rp bm vws T steps evs ats cs tv ev av) (hn : evs.length ≤ 1000000000) : Calls Try.prog 43 #[.pointer (some ⟨rp, 0, none⟩)] w fun e w' => ∃ v', e = .returned v' ∧ w'.ownsRow w.heap.size 137 4 v' evs.length (evs.flatMap evC) ∧ Below w.heap.size w w' := by
  have c1 : w.cell? ⟨rp, 67, none⟩ = some ev := (h.blk.cell 67).trans h.rc.c67
  have HC := Lib.hid (CloneE_own h.evo hn evC_one)
  clear h
  go_enter Try.func43, Try.ntmps43
  go_wp2_with fail
  refine HC.out.mono ?_
  rintro e w1 ⟨v', rfl, hv⟩
  have HV := Lib.hid hv
  clear hv
  go_wp2_with fail
  go_ret
  exact ⟨_, rfl, HV.out⟩
theorem Events_nil (w : World) : Calls Try.prog 43 #[.pointer none] w fun e w' => e = .returned (.slice none 0 0) ∧ w = w' := by
  go_enter Try.func43, Try.ntmps43
  go_wp2
  go_ret
  exact ⟨rfl, rfl⟩
theorem At_nil (w : World) : Calls Try.prog 46 #[.pointer none] w fun e w' => e = .returned (.slice none 0 0) ∧ w = w' := by
  go_enter Try.func46, Try.ntmps46
  go_wp2
  go_ret
  exact ⟨rfl, rfl⟩
theorem Steps_nil (w : World) : Calls Try.prog 21 #[.pointer none] w fun e w' => e = .returned (.int .i64 0) ∧ w = w' := by
  go_enter Try.func21, Try.ntmps21
  go_wp2
  go_ret
  exact ⟨rfl, rfl⟩
theorem Done_nil (w : World) : Calls Try.prog 23 #[.pointer none] w fun e w' => e = .returned (.bool false) ∧ w = w' := by
  go_enter Try.func23, Try.ntmps23
  go_wp2
  go_ret
  exact ⟨rfl, rfl⟩
theorem Pick_nil (w : World) (v : Value) : Calls Try.prog 25 #[.pointer none, v] w fun e w' => e = .returned (.bool false) ∧ w = w' := by
  go_enter Try.func25, Try.ntmps25
  go_wp2
  go_ret
  exact ⟨rfl, rfl⟩
theorem Finish_nil (w : World) (v : Value) : Calls Try.prog 20 #[.pointer none, v] w fun e w' => e = .returned (.bool false) ∧ w = w' := by
  go_enter Try.func20, Try.ntmps20
  go_wp2
  go_ret
  exact ⟨rfl, rfl⟩
theorem Pending_nil (w : World) : Calls Try.prog 45 #[.pointer none] w fun e w' => e = .returned (.slice none 0 0) ∧ w = w' := by
  go_enter Try.func45, Try.ntmps45
  go_wp2
  go_ret
  exact ⟨rfl, rfl⟩
set_option maxHeartbeats 2000000 in
set_option maxRecDepth 100000 in
theorem At_any (h : RX w R rp bm vws T steps evs ats cs tv ev av) (hn : ats.length ≤ 1000000000) {made : Nat} (hm : made ≤ 1000000000)
    (hlive : Calls Try.prog 73 #[.pointer (some ⟨bm, 0, none⟩)] w fun e w' => e = .returned (.bool false) ∧ w = w')
    (hmade : ∀ w1, Below w.heap.size w w1 → Calls Try.prog 57 #[.pointer (some ⟨bm, 0, none⟩)] w1 fun e w' => e = .returned (.int .i64 made) ∧ w1 = w') :
    Calls Try.prog 46 #[.pointer (some ⟨rp, 0, none⟩)] w fun e w' => ∃ v', e = .returned v' ∧ w'.ownsRow w.heap.size 3 1 v' (ats.length + (made - ats.length)) (is64 (ats ++ List.replicate (made - ats.length) (-1))) ∧ Below w.heap.size w w' := by
  have c1 : w.cell? ⟨rp, 68, none⟩ = some av := (h.blk.cell 68).trans h.rc.c68
  have c0 : w.cell? ⟨rp, 0, none⟩ = some (.pointer (some ⟨bm, 0, none⟩)) := (h.blk.cell 0).trans h.rc.c0
  have hlt : rp < w.heap.size := h.blk.lt
  have HC := Lib.hid (CloneI_own h.avo hn is64_one)
  have HLV := Lib.hid hlive
  have HM := Lib.hid hmade
  obtain ⟨i0, hi, hz0, hz1, hz2⟩ := info_parts infoI
  clear h hlive hmade
  go_enter Try.func46, Try.ntmps46
  go_wp2_with fail
  refine HLV.out.mono ?_
  rintro e w1 ⟨rfl, rfl⟩
  go_wp2_with fail
  refine HC.out.mono ?_
  rintro e w1 ⟨v', rfl, hv, hb⟩
  have HV : Hid (w1.ownsRow w.heap.size 3 1 v' ats.length (is64 ats) ∧ Below w.heap.size w w1) := ⟨hv, hb⟩
  clear hv hb c1 HC HLV
  go_wp2_with fail
  go_loopw [3] (fun s wr => ∃ (k : Nat), k ≤ made - ats.length ∧ wr.ownsRow w.heap.size 3 1 s (ats.length + k) (is64 (ats ++ List.replicate k (-1))) ∧ Below w.heap.size w wr) (fun s _ => made - lenOf s)
  case atStart => exact ⟨0, Nat.zero_le _, by simpa using HV.out.1, HV.out.2⟩
  case round =>
    clear HV
    obtain ⟨k, hk, hown, hbel⟩ := hrel
    obtain ⟨sp, sc, rfl⟩ := bk_form hown
    have d0 : wr.cell? ⟨rp, 0, none⟩ = some (.pointer (some ⟨bm, 0, none⟩)) := (hbel.cell (p := ⟨rp, 0, none⟩) hlt).trans c0
    have HB := Lib.hid hbel
    have HMW := Lib.hid (HM.out wr hbel)
    have HO := Lib.hid hown
    clear hbel hown
    go_wp2_with fail
    refine HMW.out.mono ?_
    rintro e w2 ⟨rfl, rfl⟩
    by_cases hlt2 : ats.length + k < made
    · have hownA : (wr.alloc (.cells #[.int .i64 (-1)] 3)).ownsRow w.heap.size 3 1 (.slice sp (ats.length + k) sc) (ats.length + k) (is64 (ats ++ List.replicate k (-1))) := own_fr HO.out ((Fr.refl (fun _ => False) wr).alloc _) (fun _ _ e => e)
      have hsz := HB.out.size
      have HOO := Lib.hid HO.out
      clear HO HMW
      go_wp2_with (at_builtin; refine wpList_append_own _ rfl _ _ 46 rfl w.heap.size 3 i0 _ 1 8 Try.underlying46 hi hz0 hz1 hz2 rfl (by decide) _ _ _ rfl hownA ⟨wr.heap.size, 0, none⟩ 1 1 [.int .i64 (-1)] rfl rfl (cell_one_new _ _ _) (by simp [Value.oneCell']) (by unfold maxLen; omega) (by omega) (by simp; omega) ?_; intro v2 w2 hown2 hgrow2 _)
      have hB : Below w.heap.size w w2 := by
        refine (HB.out.alloc hsz _).grown hgrow2 (by simp; omega) ?_
        intro g hg
        rcases HOO.out.2 with ⟨e, _⟩ | ⟨g', cap, cur, e, hb', _⟩
        · rw [e] at hg; cases hg
        · have hg' : (Value.slice sp (ats.length + k) sc).ownBlock = some g := hg
          rw [e] at hg'
          have e3 : g' = g := by simpa [Value.ownBlock] using hg'
          omega
      clear hgrow2 hownA
      obtain ⟨sp2, sc2, rfl⟩ := bk_form hown2
      refine ⟨⟨k + 1, by omega, ?_, hB⟩, ?_⟩
      · have e2 : is64 (ats ++ List.replicate (k + 1) (-1)) = is64 (ats ++ List.replicate k (-1)) ++ [Value.int .i64 (-1)] := by rw [pad_next]; simp [is64]
        rw [e2]
        exact hown2
      · simp [lenOf]; omega
    · have hkk : k = made - ats.length := by omega
      go_wp2_with fail
      go_ret
      exact ⟨_, rfl, by rw [← hkk]; exact HO.out, HB.out⟩
end
end Go.Proofs.Ytkaplifhaafpdaa

/-
  StZF, StDuo, LexS: the texts of the proof, merged. No condition.
-/
import Derived.Test.YtkaplifhaafpdaaM30
import Derived.Test.YtkaplifhaafpdaaM31
import Derived.Test.YtkaplifhaafpdaaM29
import Derived.Test.YtkaplifhaafpdaaM03
section
/-
  The document's runner: in turn to the end. No condition.
-/
namespace Go.Proofs.Ytkaplifhaafpdaa
open Go Go.RowKit
set_option linter.unusedSimpArgs false
set_option linter.unusedVariables false
section
variable {w0 w w1 : World} {lab : Nat → Nat} {q rm t : Nat} {ll : List (List Plan)} {s : St}
theorem ZPick_any (h : ZR w0 w lab q rm ll s) (hn : Fits ll) (hs : s.steps ≤ 100000000) (t : Int) : Calls Try.prog 26 #[.pointer (some ⟨q, 0, none⟩), .int .i64 t] w fun e w' => e = .returned (.bool (!s.idle ll t)) ∧ ∃ lab', ZR w0 w' lab' q rm ll (s.one ll t) ∧ Zk w w' lab lab' := by
  cases hi : s.idle ll t
  · obtain ⟨k, x, p, rfl, h1, h2⟩ := idle_false hi
    rw [h2]
    exact ZPick_go h hn hs k h1
  · rw [idle_true hi]
    exact ZPick_idle h hn hs t hi
/-- the document's runner, gone on from w -/
def ZI (w0 w : World) (lab : Nat → Nat) (q rm : Nat) (ll : List (List Plan)) (s : St) (w' : World) : Prop := ∃ lab', ZR w0 w' lab' q rm ll s ∧ Zk w w' lab lab'
theorem ZI.drawn (h : ZI w0 w lab q rm ll s w1) (n : Nat) : ZI w0 w lab q rm ll s (w1.drewN n) := let ⟨l, a, b⟩ := h; ⟨l, a.drawn n, b.drawn n⟩
theorem ZI.pick (h : ZI w0 w lab q rm ll s w1) (hn : Fits ll) (hs : s.steps ≤ 100000000) (t : Int) : Calls Try.prog 26 #[.pointer (some ⟨q, 0, none⟩), .int .i64 t] w1 fun e w' => e = .returned (.bool (!s.idle ll t)) ∧ ZI w0 w lab q rm ll (s.one ll t) w' := by
  obtain ⟨l, a, b⟩ := h
  refine (ZPick_any a hn hs t).mono ?_
  rintro e w' ⟨rfl, l', c, d⟩
  exact ⟨rfl, l', c, b.trans d⟩
theorem ZI.left (h : ZI w0 w lab q rm ll s w1) (hn : Fits ll) (t : Int) : Calls Try.prog 59 #[.pointer (some ⟨q, 0, none⟩), .int .i64 t] w1 fun e w' => e = .returned (.bool (!s.idle ll t)) ∧ ZI w0 w lab q rm ll s w' := by
  have h' := h
  obtain ⟨l, a, b⟩ := h
  refine (left_any a hn t).mono ?_
  rintro e w' ⟨rfl, n, rfl⟩
  exact ⟨rfl, h'.drawn n⟩
theorem ZI.done (h : ZI w0 w lab q rm ll s w1) (hn : Fits ll) : Calls Try.prog 65 #[.pointer (some ⟨q, 0, none⟩)] w1 fun e w' => e = .returned (.bool (s.done ll)) ∧ ZI w0 w lab q rm ll s w' := by
  have h' := h
  obtain ⟨l, a, b⟩ := h
  refine (RDone_any a hn).mono ?_
  rintro e w' ⟨rfl, n, rfl⟩
  exact ⟨rfl, h'.drawn n⟩
theorem done_all (h : ∀ j, j < ll.length → s.idle ll ((j : Nat) : Int) = true) : s.done ll = true := by
  unfold St.done
  rw [List.all_eq_true]
  intro j hj
  exact h j (List.mem_range.1 hj)
set_option maxHeartbeats 2000000 in
set_option maxRecDepth 100000 in
theorem RFinish_any {s0 : St} (h : ZI w0 w lab q rm ll s0 w1) (ok0 : s0.Ok ll) (hn : Fits ll) (most : Int) (hL : s0.steps + s0.left ll ≤ 40000000) :
    Calls Try.prog 41 #[.pointer (some ⟨q, 0, none⟩), .int .i64 most] w1 fun e w' => ∃ b s', e = .returned (.bool b) ∧ ZI w0 w lab q rm ll s' w' ∧ ∃ f, rfin ll most f 0 s0 = some (b, s') := by
  have hl64 := hn.n
  have H0 := Lib.hid h
  have HOK := Lib.hid ok0
  have HN := Lib.hid hn
  have HLL := Lib.hid hL
  have hs0 : s0.left ll ≤ 40000000 := by omega
  clear h ok0 hn hL
  go_enter Try.func41, Try.ntmps41
  go_wp2_with fail
  go_loopw [5] (fun i wr => ∃ (n : Nat) (s : St), i = .int .i64 (n : Int) ∧ Hid (ZI w0 w lab q rm ll s wr ∧ s.Ok ll) ∧ Hid (n + s.left ll ≤ s0.left ll ∧ s.steps + s.left ll ≤ 40000000) ∧ Hid (∀ r, (∃ f, rfin ll most f n s = some r) → ∃ f, rfin ll most f 0 s0 = some r)) (fun i _ => s0.left ll - (intOf i).toNat)
  case atStart => exact ⟨0, s0, rfl, ⟨H0.out, HOK.out⟩, ⟨by omega, HLL.out⟩, Lib.hid fun r h => h⟩
  case round =>
    clear H0 HOK HLL
    obtain ⟨n, s, rfl, hI, hnn, hF⟩ := hrel
    have HD := Lib.hid (hI.out.1.done HN.out)
    have HOK := Lib.hid hI.out.2
    clear hI
    cases hd : s.done ll
    · rw [hd] at HD
      have HND := Lib.hid hd
      clear hd
      go_wp2_with fail
      refine HD.out.mono ?_
      rintro e w2 ⟨rfl, hI1⟩
      have HI1 := Lib.hid hI1
      clear hI1 HD
      go_wp2_with fail
      go_loopw [5, 6] (fun i5 i6 wr => ∃ (t n' : Nat) (s' : St), i5 = .int .i64 (n' : Int) ∧ i6 = .int .i64 (t : Int) ∧ t ≤ ll.length ∧ Hid (ZI w0 w lab q rm ll s' wr ∧ s'.Ok ll) ∧ Hid (n ≤ n' ∧ n' + s'.left ll ≤ s0.left ll ∧ s'.steps + s'.left ll ≤ 40000000) ∧ Hid (sweep (fun s (t : Nat) => St.idle ll s (t : Int)) (fun s (t : Nat) => St.one ll s (t : Int)) most (ll.length - t) t n' s' = sweep (fun s (t : Nat) => St.idle ll s (t : Int)) (fun s (t : Nat) => St.one ll s (t : Int)) most ll.length 0 n s) ∧ Hid (n' = n → s' = s ∧ ∀ j, j < t → St.idle ll s ((j : Nat) : Int) = true)) (fun _ i6 _ => ll.length - (intOf i6).toNat)
      case atStart => exact ⟨0, n, s, rfl, rfl, Nat.zero_le _, ⟨HI1.out, HOK.out⟩, ⟨Nat.le_refl _, hnn.out.1, hnn.out.2⟩, Lib.hid rfl, Lib.hid fun _ => ⟨rfl, fun j hj => by omega⟩⟩
      case round =>
        clear HI1
        obtain ⟨t, n', s', rfl, rfl, ht, hI, hnn', hsw, hpr⟩ := hrel
        have hcell : ∃ p c, wr.cell? ⟨q, 1, none⟩ = some (.slice p ll.length c) := by
          obtain ⟨⟨l, a, b⟩, _⟩ := hI.out
          exact a.plan_cell
        obtain ⟨pp, pc, c1⟩ := hcell
        have hsm : n' ≤ 1000000000 := by have := hnn'.out; omega
        have hst : s'.steps ≤ 100000000 := by have := hnn'.out; omega
        by_cases hlt : t < ll.length
        · have HI := Lib.hid (hI.out.1.left HN.out t)
          have hm1 : ll.length - t = (ll.length - (t + 1)) + 1 := by omega
          cases hi : s'.idle ll (t : Int)
          · rw [hi] at HI
            by_cases hm : most ≤ (n' : Int)
            · have HE : Hid (∃ f, rfin ll most f 0 s0 = some (false, s')) := by
                refine hF.out _ ⟨1, ?_⟩
                have h2 := hsw.out
                rw [hm1] at h2
                simp only [sweep, hi, if_pos hm] at h2
                unfold rfin
                simp only [fin, HND.out]
                have h3 : sweep (fun s (t : Nat) => St.idle ll s (t : Int)) (fun s (t : Nat) => St.one ll s (t : Int)) most ll.length 0 n s = (false, n', s') := by simpa using h2.symm
                rw [h3]
                rfl
              clear hI hF hsw hpr hm1 hi
              go_wp2_with fail
              refine HI.out.mono ?_
              rintro e w2 ⟨rfl, hI2⟩
              go_wp2
              go_ret
              exact ⟨false, s', rfl, hI2, HE.out⟩
            · have HSW : Hid (sweep (fun s (t : Nat) => St.idle ll s (t : Int)) (fun s (t : Nat) => St.one ll s (t : Int)) most (ll.length - (t + 1)) (t + 1) (n' + 1) (s'.one ll (t : Int)) = sweep (fun s (t : Nat) => St.idle ll s (t : Int)) (fun s (t : Nat) => St.one ll s (t : Int)) most ll.length 0 n s) := by
                refine Lib.hid ?_
                have h2 := hsw.out
                rw [hm1] at h2
                simpa [sweep, hi, hm] using h2
              have hless := left_one hI.out.2 hi
              have hone := one_steps (ll := ll) (s := s') (t : Int)
              have HNN : Hid (n ≤ n' + 1 ∧ n' + 1 + (s'.one ll (t : Int)).left ll ≤ s0.left ll ∧ (s'.one ll (t : Int)).steps + (s'.one ll (t : Int)).left ll ≤ 40000000) := by
                have := hnn'.out
                rw [hone]
                refine ⟨by omega, by omega, by omega⟩
              have HP : Hid (∀ w2, ZI w0 w lab q rm ll s' w2 → Calls Try.prog 26 #[.pointer (some ⟨q, 0, none⟩), .int .i64 (t : Int)] w2 fun e w' => e = .returned (.bool true) ∧ ZI w0 w lab q rm ll (s'.one ll (t : Int)) w') := fun w2 h2 => by
                have := h2.pick HN.out hst (t : Int)
                rw [hi] at this
                exact this
              have HOK2 := Lib.hid (hI.out.2.one (t : Int) hst)
              have hnn2 := hnn'.out.1
              clear hI hF hsw hpr hm1 hi hless hnn' hone
              have hm := hm
              go_wp2_with fail
              refine HI.out.mono ?_
              rintro e w2 ⟨rfl, hI2⟩
              have HP2 := Lib.hid (HP.out w2 hI2)
              clear HP hI2 HI
              go_wp2_with fail
              refine HP2.out.mono ?_
              rintro e w3 ⟨rfl, hI3⟩
              have HI3 := Lib.hid hI3
              clear hI3 HP2
              go_wp2_with fail
              go_round
              case rel => exact ⟨t + 1, n' + 1, s'.one ll (t : Int), by go_num, by go_num, by omega, ⟨HI3.out, HOK2.out⟩, HNN, HSW, Lib.hid fun e => by omega⟩
              case measure => simp [intOf]; omega
          · rw [hi] at HI
            have HSW : Hid (sweep (fun s (t : Nat) => St.idle ll s (t : Int)) (fun s (t : Nat) => St.one ll s (t : Int)) most (ll.length - (t + 1)) (t + 1) n' s' = sweep (fun s (t : Nat) => St.idle ll s (t : Int)) (fun s (t : Nat) => St.one ll s (t : Int)) most ll.length 0 n s) := by
              refine Lib.hid ?_
              have h2 := hsw.out
              rw [hm1] at h2
              simpa [sweep, hi] using h2
            have HPR : Hid (n' = n → s' = s ∧ ∀ j, j < t + 1 → St.idle ll s ((j : Nat) : Int) = true) := by
              intro e
              obtain ⟨h1, h2⟩ := hpr.out e
              refine ⟨h1, fun j hj => ?_⟩
              by_cases e2 : j = t
              · subst e2; rw [← h1]; exact hi
              · exact h2 j (by omega)
            have HOK2 := Lib.hid hI.out.2
            clear hI hF hsw hpr hm1 hi
            go_wp2_with fail
            refine HI.out.mono ?_
            rintro e w2 ⟨rfl, hI2⟩
            have HI2 := Lib.hid hI2
            clear hI2 HI
            go_wp2_with fail
            go_round
            case rel => exact ⟨t + 1, n', s', rfl, by go_num, by omega, ⟨HI2.out, HOK2.out⟩, hnn', HSW, HPR⟩
            case measure => simp [intOf]; omega
        · have htl : t = ll.length := by omega
          have HSW : Hid (sweep (fun s (t : Nat) => St.idle ll s (t : Int)) (fun s (t : Nat) => St.one ll s (t : Int)) most ll.length 0 n s = (true, n', s')) := by
            refine Lib.hid ?_
            have h2 := hsw.out
            rw [htl, Nat.sub_self] at h2
            simpa [sweep] using h2.symm
          have hlt2 : n < n' := by
            rcases Nat.lt_or_ge n n' with h | h
            · exact h
            · have := hnn'.out.1
              obtain ⟨h1, h2⟩ := hpr.out (by omega)
              have h3 : s.done ll = true := done_all (fun j hj => h2 j (by omega))
              rw [HND.out] at h3
              cases h3
          have HF : Hid (∀ r, (∃ f, rfin ll most f n' s' = some r) → ∃ f, rfin ll most f 0 s0 = some r) := by
            rintro r ⟨f, hf⟩
            refine hF.out r ⟨f + 1, ?_⟩
            unfold rfin at hf ⊢
            simp only [fin, HND.out, HSW.out]
            exact hf
          have hnn2 := hnn'.out
          have HNN : Hid (n' + s'.left ll ≤ s0.left ll ∧ s'.steps + s'.left ll ≤ 40000000) := hnn'.out.2
          clear hF hsw hpr hnn'
          go_wp2_with fail
          go_round
          case rel => exact ⟨n', s', rfl, hI, HNN, HF⟩
          case measure => simp [intOf]; omega
    · rw [hd] at HD
      have HE : Hid (∃ f, rfin ll most f 0 s0 = some (true, s)) := hF.out _ ⟨1, by simp [rfin, fin, hd]⟩
      clear hF hd
      go_wp2_with fail
      refine HD.out.mono ?_
      rintro e w2 ⟨rfl, hI1⟩
      go_wp2_with fail
      go_ret
      exact ⟨true, s, rfl, hI1, HE.out⟩
end
end Go.Proofs.Ytkaplifhaafpdaa
end
section
/-
  The program's runner and the document's, each at a state: picks. No condition.
-/
namespace Go.Proofs.Ytkaplifhaafpdaa
open Go Go.RowKit
set_option linter.unusedSimpArgs false
set_option linter.unusedVariables false
/-- both, the program's at s1, the document's at s2; all that is theirs is U -/
structure Duo (W : World) (ll : List (List Plan)) (wd q : Nat) (L : Lay) (s1 s2 : St) (w : World) (U : Nat → Prop) : Prop where
  ex : ∃ G Z lab rm, PG W w G L ll s1 ∧ ZR W w lab q rm ll s2 ∧ WX w Z wd L.bm (.pointer (some ⟨L.rp, 0, none⟩)) L.lays ∧ (∀ k, G k → lab k = 0) ∧ (∀ k, Z k → ¬ G k ∧ lab k = 0) ∧ (∀ k, w.heap.size ≤ k → lab k = 0) ∧ (∀ k, Z k → W.heap.size ≤ k ∧ k < w.heap.size) ∧ ∀ k, U k ↔ G k ∨ Z k ∨ lab k ≠ 0
section
variable {W w w' w1 : World} {ll : List (List Plan)} {wd q : Nat} {L : Lay} {s s1 s2 : St} {U U' S : Nat → Prop}
theorem BothX.duo (h : BothX W w w' ll wd q s) (hW : W.heap.size ≤ w.heap.size) : ∃ L U, L.OK ll ∧ Duo W ll wd q L s s w' U ∧ (∀ k, U k → w.heap.size ≤ k) ∧ Below w.heap.size w w' := by
  obtain ⟨L, G, Z, lab, rm, hl, hb⟩ := h
  exact ⟨L, fun k => G k ∨ Z k ∨ lab k ≠ 0, hl, ⟨G, Z, lab, rm, hb.pg, hb.zr, hb.wx, hb.gl, hb.zg, hb.hi, fun k hk => ⟨Nat.le_trans hW (hb.pos k (.inr (.inl hk))), hb.zlt k hk⟩, fun _ => Iff.rfl⟩, hb.pos, hb.bel⟩
theorem Duo.pos (h : Duo W ll wd q L s1 s2 w U) : ∀ k, U k → W.heap.size ≤ k ∧ k < w.heap.size := by
  obtain ⟨G, Z, lab, rm, hp, hz, hx, gl, zg, hi, zw, hU⟩ := h
  intro k hk
  rcases (hU k).1 hk with e | e | e
  · exact hp.pos k e
  · exact zw k e
  · refine ⟨hz.lb k e, ?_⟩
    rcases Nat.lt_or_ge k w.heap.size with h | h
    · exact h
    · exact absurd (hi k h) e
theorem Duo.bel (h : Duo W ll wd q L s1 s2 w U) : Below W.heap.size W w := by
  obtain ⟨G, Z, lab, rm, hp, _⟩ := h
  exact hp.bel
theorem Duo.fr (h : Duo W ll wd q L s1 s2 w U) (hf : Fr S w w') (hS : ∀ k, S k → W.heap.size ≤ k ∧ ¬ U k) : Duo W ll wd q L s1 s2 w' U := by
  obtain ⟨G, Z, lab, rm, hp, hz, hx, gl, zg, hi, zw, hU⟩ := h
  exact ⟨G, Z, lab, rm, hp.fr hf (fun k hk => ⟨(hS k hk).1, fun e => (hS k hk).2 ((hU k).2 (.inl e))⟩), hz.fr hf (fun k hk e => (hS k e).2 ((hU k).2 (.inr (.inr hk)))) (fun k hk e => by have := (hS k e).1; omega), hx.fr hf (fun k hk e => (hS k e).2 ((hU k).2 (.inr (.inl hk)))), gl, zg, fun k hk => hi k (Nat.le_trans hf.size hk), fun k hk => ⟨(zw k hk).1, Nat.lt_of_lt_of_le (zw k hk).2 hf.size⟩, hU⟩
theorem Duo.bl (h : Duo W ll wd q L s1 s2 w U) (hb : Below w.heap.size w w') : Duo W ll wd q L s1 s2 w' U := h.fr (Fr.of_below (S := fun _ => False) hb) (fun _ e => e.elim)
theorem Duo.drawn (h : Duo W ll wd q L s1 s2 w U) (n : Nat) : Duo W ll wd q L s1 s2 (w.drewN n) U := h.fr ((Fr.refl (fun _ => False) w).drawn n) (fun _ e => e.elim)
/-- the program's part has gone on -/
theorem Duo.openP (h : Duo W ll wd q L s1 s2 w U) : ∃ G, PG W w G L ll s1 ∧ ∀ w' s1' G', PG W w' G' L ll s1' → Gk w w' G G' → ∃ U', Duo W ll wd q L s1' s2 w' U' ∧ Gk w w' U U' := by
  obtain ⟨G, Z, lab, rm, hp, hz, hx, gl, zg, hi, zw, hU⟩ := h
  refine ⟨G, hp, fun w' s1' G' hp' hk => ?_⟩
  have hg : ∀ k, k < w.heap.size → G' k → G k := fun k hk1 h1 => Classical.byContradiction fun e => hk.ne k hk1 e h1
  refine ⟨fun k => G' k ∨ Z k ∨ lab k ≠ 0, ⟨G', Z, lab, rm, hp', hz.fr hk.fr (fun k h1 h2 => h1 (gl k h2)) (fun k h1 h2 => by have := (hp.pos k h2).1; omega), hx.fr hk.fr (fun k h1 h2 => (zg k h1).1 h2), fun k h1 => ?_, fun k h1 => ⟨fun h2 => (zg k h1).1 (hg k (zw k h1).2 h2), (zg k h1).2⟩, fun k h1 => hi k (Nat.le_trans hk.fr.size h1), fun k h1 => ⟨(zw k h1).1, Nat.lt_of_lt_of_le (zw k h1).2 hk.fr.size⟩, fun _ => Iff.rfl⟩, ⟨fun b hb hn => ?_, hk.fr.mono fun k _ e => (hU k).2 (.inl e)⟩⟩
  · rcases Nat.lt_or_ge k w.heap.size with h2 | h2
    · exact gl k (hg k h2 h1)
    · exact hi k h2
  · rintro (e | e | e)
    · exact hn ((hU b).2 (.inl (hg b hb e)))
    · exact hn ((hU b).2 (.inr (.inl e)))
    · exact hn ((hU b).2 (.inr (.inr e)))
/-- the document's part has gone on -/
theorem Duo.openZ (h : Duo W ll wd q L s1 s2 w U) : ∃ lab rm, ZR W w lab q rm ll s2 ∧ ∀ w' s2' lab', ZR W w' lab' q rm ll s2' → Zk w w' lab lab' → ∃ U', Duo W ll wd q L s1 s2' w' U' ∧ Gk w w' U U' := by
  obtain ⟨G, Z, lab, rm, hp, hz, hx, gl, zg, hi, zw, hU⟩ := h
  refine ⟨lab, rm, hz, fun w' s2' lab1 hz1 hk => ?_⟩
  obtain ⟨lab', hz', ha, hw⟩ := hz1.wipe
  have hl : ∀ k, k < w.heap.size → lab' k = lab k := fun k h1 => (ha k (Nat.lt_of_lt_of_le h1 hk.fr.size)).trans (hk.ag k h1)
  refine ⟨fun k => G k ∨ Z k ∨ lab' k ≠ 0, ⟨G, Z, lab', rm, hp.fr hk.fr (fun k h1 => ⟨hz.lb k h1, fun e => h1 (gl k e)⟩), hz', hx.fr hk.fr (fun k h1 h2 => h2 (zg k h1).2), fun k h1 => by rw [hl k (hp.pos k h1).2]; exact gl k h1, fun k h1 => ⟨(zg k h1).1, by rw [hl k (zw k h1).2]; exact (zg k h1).2⟩, hw, fun k h1 => ⟨(zw k h1).1, Nat.lt_of_lt_of_le (zw k h1).2 hk.fr.size⟩, fun _ => Iff.rfl⟩, ⟨fun b hb hn => ?_, hk.fr.mono fun k _ e => (hU k).2 (.inr (.inr e))⟩⟩
  rintro (e | e | e)
  · exact hn ((hU b).2 (.inl e))
  · exact hn ((hU b).2 (.inr (.inl e)))
  · exact hn ((hU b).2 (.inr (.inr (by rw [← hl b hb]; exact e))))
theorem Duo.pickP (h : Duo W ll wd q L s1 s2 w U) (hn : Fits ll) (hs : s1.steps ≤ 40000000) (t : Int) : Calls Try.prog 25 #[.pointer (some ⟨L.rp, 0, none⟩), .int .i64 t] w fun e w' => e = .returned (.bool (!s1.idle ll t)) ∧ ∃ U', Duo W ll wd q L (s1.one ll t) s2 w' U' ∧ Gk w w' U U' := by
  obtain ⟨G, hp, k⟩ := h.openP
  refine (PPick_any hp hn hs t).mono ?_
  rintro e w' ⟨rfl, G', h1, h2⟩
  exact ⟨rfl, k _ _ _ h1 h2⟩
theorem Duo.pickZ (h : Duo W ll wd q L s1 s2 w U) (hn : Fits ll) (hs : s2.steps ≤ 40000000) (t : Int) : Calls Try.prog 26 #[.pointer (some ⟨q, 0, none⟩), .int .i64 t] w fun e w' => e = .returned (.bool (!s2.idle ll t)) ∧ ∃ U', Duo W ll wd q L s1 (s2.one ll t) w' U' ∧ Gk w w' U U' := by
  obtain ⟨lab, rm, hz, k⟩ := h.openZ
  refine (ZPick_any hz hn (by omega) t).mono ?_
  rintro e w' ⟨rfl, lab', h1, h2⟩
  exact ⟨rfl, k _ _ _ h1 h2⟩
end
end Go.Proofs.Ytkaplifhaafpdaa
end
section
/-
  The great drawn region of SameAccesses: the check that it may be walked in the text's order, in eleven parts. No condition.
-/
namespace Go.Proofs.Ytkaplifhaafpdaa
open Go Go.RowKit
set_option linter.unusedSimpArgs false
set_option linter.unusedVariables false
/-- the operations of a region, out of the code -/
def opsOf (n : Nat) : Code → Option (Array Oper)
  | .region id ops _ => if id = n then some ops else none
  | .seq a b => (opsOf n a).or (opsOf n b)
  | .loop c => opsOf n c
  | .block _ c => opsOf n c
  | .scope c => opsOf n c
  | .cond _ a b => (opsOf n a).or (opsOf n b)
  | _ => none
noncomputable def OPS : Array Oper := ((Try.f37.body.bind (opsOf 6)).getD #[])
/-- so many steps of the check -/
def lexSteps (md : Region.Mode) (ops : Array Oper) : Nat → Nat → Array Bool → Option (Nat × Array Bool)
  | 0, k, l => some (k, l)
  | n + 1, k, l => if (Region.ready md ops l).contains k && Region.free md ops l k then lexSteps md ops n (k + 1) (l.setIfInBounds k true) else none
theorem lex_steps (md : Region.Mode) (ops : Array Oper) : ∀ (n : Nat) (m k : Nat) (l : Array Bool) (k' : Nat) (l' : Array Bool), lexSteps md ops n k l = some (k', l') → Region.lexFrom md ops m k' l' = true → Region.lexFrom md ops (n + m) k l = true
  | 0, m, k, l, k', l', h, h' => by
    simp only [lexSteps, Option.some.injEq, Prod.mk.injEq] at h
    obtain ⟨rfl, rfl⟩ := h
    simpa using h'
  | n + 1, m, k, l, k', l', h, h' => by
    simp only [lexSteps] at h
    split at h
    · rename_i hc
      rw [show n + 1 + m = (n + m) + 1 from by omega]
      simp only [Region.lexFrom, hc, Bool.true_and]
      exact lex_steps md ops n m _ _ k' l' h h'
    · cases h
def bits (k n : Nat) : Array Bool := ((List.replicate k true) ++ (List.replicate (n - k) false)).toArray
theorem ops_size : OPS.size = 103 := by kernel_rfl
theorem st0 : lexSteps .any OPS 10 0 (bits 0 103) = some (10, bits 10 103) := by kernel_rfl
theorem st1 : lexSteps .any OPS 10 10 (bits 10 103) = some (20, bits 20 103) := by kernel_rfl
theorem st2 : lexSteps .any OPS 10 20 (bits 20 103) = some (30, bits 30 103) := by kernel_rfl
theorem st3 : lexSteps .any OPS 10 30 (bits 30 103) = some (40, bits 40 103) := by kernel_rfl
theorem st4 : lexSteps .any OPS 10 40 (bits 40 103) = some (50, bits 50 103) := by kernel_rfl
theorem st5 : lexSteps .any OPS 10 50 (bits 50 103) = some (60, bits 60 103) := by kernel_rfl
theorem st6 : lexSteps .any OPS 10 60 (bits 60 103) = some (70, bits 70 103) := by kernel_rfl
theorem st7 : lexSteps .any OPS 10 70 (bits 70 103) = some (80, bits 80 103) := by kernel_rfl
theorem st8 : lexSteps .any OPS 10 80 (bits 80 103) = some (90, bits 90 103) := by kernel_rfl
theorem st9 : lexSteps .any OPS 10 90 (bits 90 103) = some (100, bits 100 103) := by kernel_rfl
theorem st10 : lexSteps .any OPS 3 100 (bits 100 103) = some (103, bits 103 103) := by kernel_rfl
theorem st_end : Region.lexFrom .any OPS 0 103 (bits 103 103) = true := by kernel_rfl
theorem no_select : Region.noSelect OPS = true := by kernel_rfl
theorem start : Array.replicate OPS.size false = bits 0 103 := by rw [ops_size]; kernel_rfl
theorem lex_ok : Region.lexB .any OPS = true := by
  rw [Region.lexB, no_select, start, ops_size, Bool.true_and]
  exact (lex_steps .any OPS 10 93 0 _ _ _ st0 (lex_steps .any OPS 10 83 10 _ _ _ st1 (lex_steps .any OPS 10 73 20 _ _ _ st2 (lex_steps .any OPS 10 63 30 _ _ _ st3 (lex_steps .any OPS 10 53 40 _ _ _ st4 (lex_steps .any OPS 10 43 50 _ _ _ st5 (lex_steps .any OPS 10 33 60 _ _ _ st6 (lex_steps .any OPS 10 23 70 _ _ _ st7 (lex_steps .any OPS 10 13 80 _ _ _ st8 (lex_steps .any OPS 10 3 90 _ _ _ st9 (lex_steps .any OPS 3 0 100 _ _ _ st10 st_end)))))))))))
end Go.Proofs.Ytkaplifhaafpdaa
end

/-
  StZF, StDuo, LexS, SameTr, StSame: the texts of the proof, merged. No condition.
-/
import Derived.Test.YtkaplifhaafpdaaGreatM26
import Derived.Test.YtkaplifhaafpdaaGreatM27
import Derived.Test.YtkaplifhaafpdaaGreatM25
import Derived.Test.YtkaplifhaafpdaaGreatM02
import Derived.Test.YtkaplifhaafpdaaGreatM16
import Derived.Test.YtkaplifhaafpdaaGreatM07
section
/-
  The document's runner: in turn to the end. No condition.
-/
namespace Go.Proofs.YtkaplifhaafpdaaGreat
open Go Go.RowKit
set_option linter.unusedSimpArgs false
set_option linter.unusedVariables false
section
variable {w0 w w1 : World} {lab : Nat → Nat} {q rm t : Nat} {ll : List (List Plan)} {s : St}
theorem ZPick_any (h : ZR w0 w lab q rm ll s) (hn : Fits ll) (hs : s.steps ≤ 100000000) (t : Int) : Calls Tryz.prog 7 #[.pointer (some ⟨q, 0, none⟩), .int .i64 t] w fun e w' => e = .returned (.bool (!s.idle ll t)) ∧ ∃ lab', ZR w0 w' lab' q rm ll (s.one ll t) ∧ Zk w w' lab lab' := by
  cases hi : s.idle ll t
  · obtain ⟨k, x, p, rfl, h1, h2⟩ := idle_false hi
    rw [h2]
    exact ZPick_go h hn hs k h1
  · rw [idle_true hi]
    exact ZPick_idle h hn hs t hi
end
end Go.Proofs.YtkaplifhaafpdaaGreat
end
section
/-
  The program's runner and the document's, each at a state: picks. No condition.
-/
namespace Go.Proofs.YtkaplifhaafpdaaGreat
open Go Go.RowKit
set_option linter.unusedSimpArgs false
set_option linter.unusedVariables false
/-- both, the program's at s1, the document's at s2; all that is theirs is U -/
structure Duo (W : World) (ll : List (List Plan)) (wd q : Nat) (L : Lay) (s1 s2 : St) (w : World) (U : Nat → Prop) : Prop where
  ex : ∃ G Z lab rm, PG W w G L ll s1 ∧ ZR W w lab q rm ll s2 ∧ WX w Z wd L.bm (.pointer (some ⟨L.rp, 0, none⟩)) L.lays ∧ (∀ k, G k → lab k = 0) ∧ (∀ k, Z k → ¬ G k ∧ lab k = 0) ∧ (∀ k, w.heap.size ≤ k → lab k = 0) ∧ (∀ k, Z k → W.heap.size ≤ k ∧ k < w.heap.size) ∧ ∀ k, U k ↔ G k ∨ Z k ∨ lab k ≠ 0
section
variable {W w w' w1 : World} {ll : List (List Plan)} {wd q : Nat} {L : Lay} {s s1 s2 : St} {U U' S : Nat → Prop}
theorem BothX.duo (h : BothX W w w' ll wd q s) (hW : W.heap.size ≤ w.heap.size) : ∃ L U, L.OK ll ∧ Duo W ll wd q L s s w' U ∧ (∀ k, U k → w.heap.size ≤ k) ∧ Below w.heap.size w w' := by
  obtain ⟨L, G, Z, lab, rm, hl, hb⟩ := h
  exact ⟨L, fun k => G k ∨ Z k ∨ lab k ≠ 0, hl, ⟨G, Z, lab, rm, hb.pg, hb.zr, hb.wx, hb.gl, hb.zg, hb.hi, fun k hk => ⟨Nat.le_trans hW (hb.pos k (.inr (.inl hk))), hb.zlt k hk⟩, fun _ => Iff.rfl⟩, hb.pos, hb.bel⟩
theorem Duo.pos (h : Duo W ll wd q L s1 s2 w U) : ∀ k, U k → W.heap.size ≤ k ∧ k < w.heap.size := by
  obtain ⟨G, Z, lab, rm, hp, hz, hx, gl, zg, hi, zw, hU⟩ := h
  intro k hk
  rcases (hU k).1 hk with e | e | e
  · exact hp.pos k e
  · exact zw k e
  · refine ⟨hz.lb k e, ?_⟩
    rcases Nat.lt_or_ge k w.heap.size with h | h
    · exact h
    · exact absurd (hi k h) e
theorem Duo.bel (h : Duo W ll wd q L s1 s2 w U) : Below W.heap.size W w := by
  obtain ⟨G, Z, lab, rm, hp, _⟩ := h
  exact hp.bel
theorem Duo.fr (h : Duo W ll wd q L s1 s2 w U) (hf : Fr S w w') (hS : ∀ k, S k → W.heap.size ≤ k ∧ ¬ U k) : Duo W ll wd q L s1 s2 w' U := by
  obtain ⟨G, Z, lab, rm, hp, hz, hx, gl, zg, hi, zw, hU⟩ := h
  exact ⟨G, Z, lab, rm, hp.fr hf (fun k hk => ⟨(hS k hk).1, fun e => (hS k hk).2 ((hU k).2 (.inl e))⟩), hz.fr hf (fun k hk e => (hS k e).2 ((hU k).2 (.inr (.inr hk)))) (fun k hk e => by have := (hS k e).1; omega), hx.fr hf (fun k hk e => (hS k e).2 ((hU k).2 (.inr (.inl hk)))), gl, zg, fun k hk => hi k (Nat.le_trans hf.size hk), fun k hk => ⟨(zw k hk).1, Nat.lt_of_lt_of_le (zw k hk).2 hf.size⟩, hU⟩
theorem Duo.bl (h : Duo W ll wd q L s1 s2 w U) (hb : Below w.heap.size w w') : Duo W ll wd q L s1 s2 w' U := h.fr (Fr.of_below (S := fun _ => False) hb) (fun _ e => e.elim)
theorem Duo.drawn (h : Duo W ll wd q L s1 s2 w U) (n : Nat) : Duo W ll wd q L s1 s2 (w.drewN n) U := h.fr ((Fr.refl (fun _ => False) w).drawn n) (fun _ e => e.elim)
/-- the program's part has gone on -/
theorem Duo.openP (h : Duo W ll wd q L s1 s2 w U) : ∃ G, PG W w G L ll s1 ∧ ∀ w' s1' G', PG W w' G' L ll s1' → Gk w w' G G' → ∃ U', Duo W ll wd q L s1' s2 w' U' ∧ Gk w w' U U' := by
  obtain ⟨G, Z, lab, rm, hp, hz, hx, gl, zg, hi, zw, hU⟩ := h
  refine ⟨G, hp, fun w' s1' G' hp' hk => ?_⟩
  have hg : ∀ k, k < w.heap.size → G' k → G k := fun k hk1 h1 => Classical.byContradiction fun e => hk.ne k hk1 e h1
  refine ⟨fun k => G' k ∨ Z k ∨ lab k ≠ 0, ⟨G', Z, lab, rm, hp', hz.fr hk.fr (fun k h1 h2 => h1 (gl k h2)) (fun k h1 h2 => by have := (hp.pos k h2).1; omega), hx.fr hk.fr (fun k h1 h2 => (zg k h1).1 h2), fun k h1 => ?_, fun k h1 => ⟨fun h2 => (zg k h1).1 (hg k (zw k h1).2 h2), (zg k h1).2⟩, fun k h1 => hi k (Nat.le_trans hk.fr.size h1), fun k h1 => ⟨(zw k h1).1, Nat.lt_of_lt_of_le (zw k h1).2 hk.fr.size⟩, fun _ => Iff.rfl⟩, ⟨fun b hb hn => ?_, hk.fr.mono fun k _ e => (hU k).2 (.inl e)⟩⟩
  · rcases Nat.lt_or_ge k w.heap.size with h2 | h2
    · exact gl k (hg k h2 h1)
    · exact hi k h2
  · rintro (e | e | e)
    · exact hn ((hU b).2 (.inl (hg b hb e)))
    · exact hn ((hU b).2 (.inr (.inl e)))
    · exact hn ((hU b).2 (.inr (.inr e)))
/-- the document's part has gone on -/
theorem Duo.openZ (h : Duo W ll wd q L s1 s2 w U) : ∃ lab rm, ZR W w lab q rm ll s2 ∧ ∀ w' s2' lab', ZR W w' lab' q rm ll s2' → Zk w w' lab lab' → ∃ U', Duo W ll wd q L s1 s2' w' U' ∧ Gk w w' U U' := by
  obtain ⟨G, Z, lab, rm, hp, hz, hx, gl, zg, hi, zw, hU⟩ := h
  refine ⟨lab, rm, hz, fun w' s2' lab1 hz1 hk => ?_⟩
  obtain ⟨lab', hz', ha, hw⟩ := hz1.wipe
  have hl : ∀ k, k < w.heap.size → lab' k = lab k := fun k h1 => (ha k (Nat.lt_of_lt_of_le h1 hk.fr.size)).trans (hk.ag k h1)
  refine ⟨fun k => G k ∨ Z k ∨ lab' k ≠ 0, ⟨G, Z, lab', rm, hp.fr hk.fr (fun k h1 => ⟨hz.lb k h1, fun e => h1 (gl k e)⟩), hz', hx.fr hk.fr (fun k h1 h2 => h2 (zg k h1).2), fun k h1 => by rw [hl k (hp.pos k h1).2]; exact gl k h1, fun k h1 => ⟨(zg k h1).1, by rw [hl k (zw k h1).2]; exact (zg k h1).2⟩, hw, fun k h1 => ⟨(zw k h1).1, Nat.lt_of_lt_of_le (zw k h1).2 hk.fr.size⟩, fun _ => Iff.rfl⟩, ⟨fun b hb hn => ?_, hk.fr.mono fun k _ e => (hU k).2 (.inr (.inr e))⟩⟩
  rintro (e | e | e)
  · exact hn ((hU b).2 (.inl e))
  · exact hn ((hU b).2 (.inr (.inl e)))
  · exact hn ((hU b).2 (.inr (.inr (by rw [← hl b hb]; exact e))))
theorem Duo.pickP (h : Duo W ll wd q L s1 s2 w U) (hn : Fits ll) (hs : s1.steps ≤ 40000000) (t : Int) : Calls Tryz.prog 6 #[.pointer (some ⟨L.rp, 0, none⟩), .int .i64 t] w fun e w' => e = .returned (.bool (!s1.idle ll t)) ∧ ∃ U', Duo W ll wd q L (s1.one ll t) s2 w' U' ∧ Gk w w' U U' := by
  obtain ⟨G, hp, k⟩ := h.openP
  refine (PPick_any hp hn hs t).mono ?_
  rintro e w' ⟨rfl, G', h1, h2⟩
  exact ⟨rfl, k _ _ _ h1 h2⟩
theorem Duo.pickZ (h : Duo W ll wd q L s1 s2 w U) (hn : Fits ll) (hs : s2.steps ≤ 40000000) (t : Int) : Calls Tryz.prog 7 #[.pointer (some ⟨q, 0, none⟩), .int .i64 t] w fun e w' => e = .returned (.bool (!s2.idle ll t)) ∧ ∃ U', Duo W ll wd q L s1 (s2.one ll t) w' U' ∧ Gk w w' U U' := by
  obtain ⟨lab, rm, hz, k⟩ := h.openZ
  refine (ZPick_any hz hn (by omega) t).mono ?_
  rintro e w' ⟨rfl, lab', h1, h2⟩
  exact ⟨rfl, k _ _ _ h1 h2⟩
end
end Go.Proofs.YtkaplifhaafpdaaGreat
end
section
/-
  The great drawn region of SameAccesses: the check that it may be walked in the text's order, in eleven parts. No condition.
-/
namespace Go.Proofs.YtkaplifhaafpdaaGreat
open Go Go.RowKit
set_option linter.unusedSimpArgs false
set_option linter.unusedVariables false
/-- the operations of a region, out of the code -/
def opsOf (n : Nat) : Code → Option (Array Oper)
  | .region id ops _ => if id = n then some ops else none
  | .seq a b => (opsOf n a).or (opsOf n b)
  | .loop c => opsOf n c
  | .block _ c => opsOf n c
  | .scope c => opsOf n c
  | .cond _ a b => (opsOf n a).or (opsOf n b)
  | _ => none
noncomputable def OPS : Array Oper := ((Tryz.f61.body.bind (opsOf 6)).getD #[])
/-- so many steps of the check -/
def lexSteps (md : Region.Mode) (ops : Array Oper) : Nat → Nat → Array Bool → Option (Nat × Array Bool)
  | 0, k, l => some (k, l)
  | n + 1, k, l => if (Region.ready md ops l).contains k && Region.free md ops l k then lexSteps md ops n (k + 1) (l.setIfInBounds k true) else none
theorem lex_steps (md : Region.Mode) (ops : Array Oper) : ∀ (n : Nat) (m k : Nat) (l : Array Bool) (k' : Nat) (l' : Array Bool), lexSteps md ops n k l = some (k', l') → Region.lexFrom md ops m k' l' = true → Region.lexFrom md ops (n + m) k l = true
  | 0, m, k, l, k', l', h, h' => by
    simp only [lexSteps, Option.some.injEq, Prod.mk.injEq] at h
    obtain ⟨rfl, rfl⟩ := h
    simpa using h'
  | n + 1, m, k, l, k', l', h, h' => by
    simp only [lexSteps] at h
    split at h
    · rename_i hc
      rw [show n + 1 + m = (n + m) + 1 from by omega]
      simp only [Region.lexFrom, hc, Bool.true_and]
      exact lex_steps md ops n m _ _ k' l' h h'
    · cases h
def bits (k n : Nat) : Array Bool := ((List.replicate k true) ++ (List.replicate (n - k) false)).toArray
theorem ops_size : OPS.size = 103 := by kernel_rfl
theorem st0 : lexSteps .any OPS 10 0 (bits 0 103) = some (10, bits 10 103) := by kernel_rfl
theorem st1 : lexSteps .any OPS 10 10 (bits 10 103) = some (20, bits 20 103) := by kernel_rfl
theorem st2 : lexSteps .any OPS 10 20 (bits 20 103) = some (30, bits 30 103) := by kernel_rfl
theorem st3 : lexSteps .any OPS 10 30 (bits 30 103) = some (40, bits 40 103) := by kernel_rfl
theorem st4 : lexSteps .any OPS 10 40 (bits 40 103) = some (50, bits 50 103) := by kernel_rfl
theorem st5 : lexSteps .any OPS 10 50 (bits 50 103) = some (60, bits 60 103) := by kernel_rfl
theorem st6 : lexSteps .any OPS 10 60 (bits 60 103) = some (70, bits 70 103) := by kernel_rfl
theorem st7 : lexSteps .any OPS 10 70 (bits 70 103) = some (80, bits 80 103) := by kernel_rfl
theorem st8 : lexSteps .any OPS 10 80 (bits 80 103) = some (90, bits 90 103) := by kernel_rfl
theorem st9 : lexSteps .any OPS 10 90 (bits 90 103) = some (100, bits 100 103) := by kernel_rfl
theorem st10 : lexSteps .any OPS 3 100 (bits 100 103) = some (103, bits 103 103) := by kernel_rfl
theorem st_end : Region.lexFrom .any OPS 0 103 (bits 103 103) = true := by kernel_rfl
theorem no_select : Region.noSelect OPS = true := by kernel_rfl
theorem start : Array.replicate OPS.size false = bits 0 103 := by rw [ops_size]; kernel_rfl
theorem lex_ok : Region.lexB .any OPS = true := by
  rw [Region.lexB, no_select, start, ops_size, Bool.true_and]
  exact (lex_steps .any OPS 10 93 0 _ _ _ st0 (lex_steps .any OPS 10 83 10 _ _ _ st1 (lex_steps .any OPS 10 73 20 _ _ _ st2 (lex_steps .any OPS 10 63 30 _ _ _ st3 (lex_steps .any OPS 10 53 40 _ _ _ st4 (lex_steps .any OPS 10 43 50 _ _ _ st5 (lex_steps .any OPS 10 33 60 _ _ _ st6 (lex_steps .any OPS 10 23 70 _ _ _ st7 (lex_steps .any OPS 10 13 80 _ _ _ st8 (lex_steps .any OPS 10 3 90 _ _ _ st9 (lex_steps .any OPS 3 0 100 _ _ _ st10 st_end)))))))))))
end Go.Proofs.YtkaplifhaafpdaaGreat
end
section
/-
  Two told lists that are the same: SameUint64s, SameAccesses say so. No condition.
-/
namespace Go.Proofs.YtkaplifhaafpdaaGreat
open Go Go.RowKit
set_option linter.unusedSimpArgs false
set_option linter.unusedVariables false
section
variable {w w' : World} {F G S : Nat → Prop} {u v : Value} {rows rows' : List (Acc × Value)} {vs : List Int}
theorem VR.drawn (h : VR w v vs) (n : Nat) : VR (w.drewN n) v vs := by
  rcases h with h | ⟨g, c, rfl, hl, hc⟩
  · exact .inl h
  · exact .inr ⟨g, c, rfl, hl, fun j u hu => hc j u hu⟩
theorem SameU_yes (hu : VR w u vs) (hv : VR w v vs) (hn : vs.length ≤ 1000000000) : Calls Tryz.prog 63 #[u, v] w fun e w' => e = .returned (.bool true) ∧ ∃ n, w' = w.drewN n := by
  by_cases h0 : vs = []
  · subst h0
    obtain ⟨p, c, rfl⟩ : ∃ p c, u = .slice p 0 c := by rcases hu with ⟨p, c, rfl, _⟩ | ⟨g, c, rfl, _⟩; exact ⟨_, _, rfl⟩; exact ⟨_, _, rfl⟩
    obtain ⟨p', c', rfl⟩ : ∃ p c, v = .slice p 0 c := by rcases hv with ⟨p, c, rfl, _⟩ | ⟨g, c, rfl, _⟩; exact ⟨_, _, rfl⟩; exact ⟨_, _, rfl⟩
    clear hu hv hn
    go_enter Tryz.func63, Tryz.ntmps63
    go_wp2
    go_loop [5] (fun i => i = .int .i64 0) (fun i => 0)
    case atStart => rfl
    case round =>
      obtain rfl := hrel
      go_wp2
      go_ret
      exact ⟨rfl, 0, rfl⟩
  · obtain ⟨g, c, rfl, _, hc⟩ : ∃ g c, u = .slice (some ⟨g, 0, none⟩) vs.length c ∧ g < w.heap.size ∧ ∀ j x, (us vs)[j]? = some x → w.cell? ⟨g, j, none⟩ = some x := by
      rcases hu with ⟨p, c, rfl, e⟩ | h; exact absurd e h0; exact h
    obtain ⟨g', c', rfl, _, hc'⟩ : ∃ g c, v = .slice (some ⟨g, 0, none⟩) vs.length c ∧ g < w.heap.size ∧ ∀ j x, (us vs)[j]? = some x → w.cell? ⟨g, j, none⟩ = some x := by
      rcases hv with ⟨p, c, rfl, e⟩ | h; exact absurd e h0; exact h
    have hat : ∀ j, j < vs.length → (us vs)[j]? = some (.int .u64 (vs.getD j 0)) := by
      intro j hj; simp [us, hj, List.getD_eq_getElem?_getD]
    have H1 := Lib.hid (fun j hj => hc j _ (hat j hj))
    have H2 := Lib.hid (fun j hj => hc' j _ (hat j hj))
    clear hc hc' hat h0
    generalize hm : vs.length = m at *
    clear hm
    go_enter Tryz.func63, Tryz.ntmps63
    go_wp2
    go_loopw [5] (fun i wr => ∃ k : Nat, i = .int .i64 k ∧ k ≤ m ∧ ∃ d, wr = w.drewN d) (fun i _ => m - (intOf i).toNat)
    case atStart => exact ⟨0, rfl, Nat.zero_le _, 0, rfl⟩
    case round =>
      obtain ⟨k, rfl, hk, d, rfl⟩ := hrel
      by_cases hlt : k < m
      · have e1 : (w.drewN d).cell? ⟨g, k, none⟩ = some (.int .u64 (vs.getD k 0)) := H1.out k hlt
        have e2 : (w.drewN d).cell? ⟨g', k, none⟩ = some (.int .u64 (vs.getD k 0)) := H2.out k hlt
        generalize vs.getD k 0 = x at *
        generalize hwd : w.drewN d = wd at *
        have HW := Lib.hid hwd
        clear hwd
        go_wp2
        go_quiet (fail)
        go_wp2
        go_roundw
        case rel => exact ⟨k + 1, by go_num, by omega, _, by rw [← HW.out, World.drewN_drewN]⟩
        case measure => simp [intOf]; omega
      · go_wp2
        go_ret
        exact ⟨rfl, d, rfl⟩
/-- a value reads as this trace -/
def TL (w : World) (v : Value) (tr : List Acc) : Prop :=
  ∃ p c, v = .slice p tr.length c ∧ ∃ rows : List (Acc × Value), rows.map (·.1) = tr ∧ TR w p rows ∧ ∀ x ∈ rows, VR w x.2 x.1.vals
theorem TL_of {B : Nat} {p : Option Addr} {c : Nat} {tr : List Acc} {rows : List (Acc × Value)} (hf : rows.map (·.1) = tr) (ho : w.ownsRow B 152 8 (.slice p rows.length c) rows.length (rows.flatMap accC)) (hv : ∀ x ∈ rows, VR w x.2 x.1.vals) : TL w (.slice p tr.length c) tr := by
  refine ⟨p, c, rfl, rows, hf, TR_own (w := w) (n := rows.length) (c := c) ?_, hv⟩
  rcases ho.2 with h | ⟨g, cap, cur, h1, _, h2⟩
  · exact ⟨ho.1, .inl h⟩
  · exact ⟨ho.1, .inr ⟨g, cap, cur, h1, Nat.zero_le _, h2⟩⟩
theorem Told.tl {B : Nat} {v : Value} {tr : List Acc} (h : Told w B v tr) : TL w v tr := by
  obtain ⟨rows, hf, ho, hv⟩ := h.out
  have hl : rows.length = tr.length := by rw [← hf]; simp
  obtain ⟨p, c, rfl⟩ : ∃ p c, v = .slice p rows.length c := by
    rcases ho.2 with ⟨rfl, h0⟩ | ⟨g', cap', cur', rfl, _⟩
    · exact ⟨none, 0, by rw [h0]⟩
    · exact ⟨_, _, rfl⟩
  have := TL_of hf ho hv
  rwa [← hl] at this
set_option maxHeartbeats 8000000 in
set_option maxRecDepth 100000 in
theorem SameAccesses_yes {tr : List Acc} (hu : TL w u tr) (hv : TL w v tr) (hn : tr.length ≤ 1000000000) (hvs : ∀ x ∈ tr, x.vals.length ≤ 1000000000) :
    Calls Tryz.prog 61 #[u, v] w fun e w' => e = .returned (.bool true) ∧ ∃ n, w' = w.drewN n := by
  obtain ⟨p, c, rfl, ra, hfa, hta, hva⟩ := hu
  obtain ⟨p', c', rfl, rb, hfb, htb, hvb⟩ := hv
  have hla : ra.length = tr.length := by rw [← hfa]; simp
  have hlb : rb.length = tr.length := by rw [← hfb]; simp
  have at_ : ∀ k, k < tr.length → ∃ g g' x ua ub, p = some ⟨g, 0, none⟩ ∧ p' = some ⟨g', 0, none⟩ ∧ (∀ j y, (accC (x, ua))[j]? = some y → w.cell? ⟨g, k * 8 + j, none⟩ = some y) ∧ (∀ j y, (accC (x, ub))[j]? = some y → w.cell? ⟨g', k * 8 + j, none⟩ = some y) ∧ VR w ua x.vals ∧ VR w ub x.vals ∧ x.vals.length ≤ 1000000000 := by
    intro k hk
    have ea : ra[k]? = some ra[k] := List.getElem?_eq_getElem (by omega)
    have eb : rb[k]? = some rb[k] := List.getElem?_eq_getElem (by omega)
    have e1 : (ra[k]).1 = tr[k] := by
      have h1 : (ra.map (·.1))[k]? = tr[k]? := by rw [hfa]
      rw [List.getElem?_map, ea, List.getElem?_eq_getElem hk] at h1
      injection h1
    have e2 : (rb[k]).1 = tr[k] := by
      have h1 : (rb.map (·.1))[k]? = tr[k]? := by rw [hfb]
      rw [List.getElem?_map, eb, List.getElem?_eq_getElem hk] at h1
      injection h1
    rcases hta with rfl | ⟨g, rfl, _, ca⟩
    · simp at hla; omega
    rcases htb with rfl | ⟨g', rfl, _, cb⟩
    · simp at hlb; omega
    have va := hva _ (List.getElem_mem (show k < ra.length by omega))
    have vb := hvb _ (List.getElem_mem (show k < rb.length by omega))
    have ca' := ca k _ ea
    have cb' := cb k _ eb
    generalize ra[k] = xa at *
    generalize rb[k] = xb at *
    obtain ⟨xa, ua⟩ := xa
    obtain ⟨xb, ub⟩ := xb
    simp only at e1 e2
    subst e1
    subst e2
    exact ⟨g, g', _, ua, ub, rfl, rfl, ca', cb', va, vb, hvs _ (List.getElem_mem hk)⟩
  have HA := Lib.hid at_
  clear at_ hfa hta hva hfb htb hvb hla hlb hvs
  generalize tr.length = m at *
  go_enter Tryz.func61, Tryz.ntmps61
  go_wp2
  go_loopw [5] (fun i wr => ∃ k : Nat, i = .int .i64 k ∧ k ≤ m ∧ ∃ d, wr = w.drewN d) (fun i _ => m - (intOf i).toNat)
  case atStart => exact ⟨0, rfl, Nat.zero_le _, 0, rfl⟩
  case round =>
    obtain ⟨k, rfl, hk, d, rfl⟩ := hrel
    by_cases hlt : k < m
    · obtain ⟨g, g', x, ua, ub, rfl, rfl, ca, cb, va, vb, hl⟩ := HA.out k hlt
      have a0 : (w.drewN d).cell? ⟨g, k * 8, none⟩ = some (.int .i64 x.thread) := ca 0 _ rfl
      have a1 : (w.drewN d).cell? ⟨g, k * 8 + 1, none⟩ = some (.int .u8 x.kind) := ca 1 _ rfl
      have a2 : (w.drewN d).cell? ⟨g, k * 8 + 2, none⟩ = some (.int .u64 x.addr) := ca 2 _ rfl
      have a3 : (w.drewN d).cell? ⟨g, k * 8 + 3, none⟩ = some (.int .u64 x.a) := ca 3 _ rfl
      have a4 : (w.drewN d).cell? ⟨g, k * 8 + 4, none⟩ = some (.int .u64 x.b) := ca 4 _ rfl
      have a5 : (w.drewN d).cell? ⟨g, k * 8 + 5, none⟩ = some ua := ca 5 _ rfl
      have a6 : (w.drewN d).cell? ⟨g, k * 8 + 6, none⟩ = some (.int .u64 x.got) := ca 6 _ rfl
      have a7 : (w.drewN d).cell? ⟨g, k * 8 + 7, none⟩ = some (.bool x.ok) := ca 7 _ rfl
      have b0 : (w.drewN d).cell? ⟨g', k * 8, none⟩ = some (.int .i64 x.thread) := cb 0 _ rfl
      have b1 : (w.drewN d).cell? ⟨g', k * 8 + 1, none⟩ = some (.int .u8 x.kind) := cb 1 _ rfl
      have b2 : (w.drewN d).cell? ⟨g', k * 8 + 2, none⟩ = some (.int .u64 x.addr) := cb 2 _ rfl
      have b3 : (w.drewN d).cell? ⟨g', k * 8 + 3, none⟩ = some (.int .u64 x.a) := cb 3 _ rfl
      have b4 : (w.drewN d).cell? ⟨g', k * 8 + 4, none⟩ = some (.int .u64 x.b) := cb 4 _ rfl
      have b5 : (w.drewN d).cell? ⟨g', k * 8 + 5, none⟩ = some ub := cb 5 _ rfl
      have b6 : (w.drewN d).cell? ⟨g', k * 8 + 6, none⟩ = some (.int .u64 x.got) := cb 6 _ rfl
      have b7 : (w.drewN d).cell? ⟨g', k * 8 + 7, none⟩ = some (.bool x.ok) := cb 7 _ rfl
      have HC := Lib.hid (fun n => SameU_yes ((va.drawn d).drawn n) ((vb.drawn d).drawn n) hl)
      clear ca cb va vb hl
      generalize hwd : w.drewN d = wd at *
      have HW := Lib.hid hwd
      clear hwd
      go_wp2
      refine wp_region_quiet_lit (by kernel_rfl) lex_ok ?_
      repeat (quiet_step ((go_at_call 63; exact Calls.quiet_of (HC.out _))))
      refine wpQuiet_nil ?_
      intro _ hw'
      obtain ⟨nq, hw''⟩ := hw'
      subst hw''
      go_wp2
      go_roundw
      case rel => exact ⟨k + 1, by go_num, by omega, _, by rw [← HW.out, World.drewN_drewN]⟩
      case measure => simp [intOf]; omega
    · go_wp2
      go_ret
      exact ⟨rfl, d, rfl⟩
end
end Go.Proofs.YtkaplifhaafpdaaGreat
end
section
/-
  Two told lists of numbers, of events, that are the same: SameInts, SameEvents say so. No condition.
-/
namespace Go.Proofs.YtkaplifhaafpdaaGreat
open Go Go.RowKit
set_option linter.unusedSimpArgs false
set_option linter.unusedVariables false
/-- a value reads as these events -/
def ReadsE (w : World) (v : Value) (l : List Ev) : Prop := ∃ p c, v = .slice p l.length c ∧ ∀ (i : Nat) x, l[i]? = some x → ∃ g, p = some ⟨g, 0, none⟩ ∧ g < w.heap.size ∧ w.cell? ⟨g, i * 4, none⟩ = some (.int .i64 x.step) ∧ w.cell? ⟨g, i * 4 + 1, none⟩ = some (.int .i64 x.thread) ∧ w.cell? ⟨g, i * 4 + 2, none⟩ = some (.int .i64 x.index) ∧ w.cell? ⟨g, i * 4 + 3, none⟩ = some (.bool x.ret)
def ReadsI (w : World) (v : Value) (l : List Int) : Prop := ∃ p c, v = .slice p l.length c ∧ ∀ (i : Nat) x, l[i]? = some x → ∃ g, p = some ⟨g, 0, none⟩ ∧ g < w.heap.size ∧ w.cell? ⟨g, i, none⟩ = some (.int .i64 x)
section
variable {w w' : World} {u v : Value} {l : List Int} {evs : List Ev}
theorem ev_at : ∀ (l : List Ev) (i j : Nat) (x : Ev), l[i]? = some x → j < 4 → (l.flatMap evC)[i * 4 + j]? = (evC x)[j]?
  | [], i, j, x, h, _ => by simp at h
  | y :: l, 0, j, x, h, hj => by
    obtain rfl : y = x := by simpa using h
    rw [List.flatMap_cons, List.getElem?_append_left (by simp [evC]; omega)]
    simp
  | y :: l, i + 1, j, x, h, hj => by
    have h' : l[i]? = some x := by simpa using h
    rw [List.flatMap_cons, List.getElem?_append_right (by simp [evC]; omega), ← ev_at l i j x h' hj]
    congr 1
    simp [evC]; omega
theorem ReadsE.own {B : Nat} (h : w.ownsRow B 97 4 v evs.length (evs.flatMap evC)) : ReadsE w v evs := by
  obtain ⟨p, c, rfl⟩ := bk_form h
  refine ⟨p, c, rfl, fun i x hx => ?_⟩
  have hi := (List.getElem?_eq_some_iff.1 hx).1
  obtain ⟨g, c', e, _, _⟩ := bk_form1 h (by omega)
  injection e with e1 e2 e3
  subst e1 e3
  have f := fun j (hj : j < 4) => own_cell h ((ev_at evs i j x hx hj).trans (List.getElem?_eq_getElem (show j < (evC x).length from hj)))
  exact ⟨g, rfl, own_lt h rfl, f 0 (by decide), f 1 (by decide), f 2 (by decide), f 3 (by decide)⟩
theorem ReadsI.own {B : Nat} (h : w.ownsRow B 3 1 v l.length (is64 l)) : ReadsI w v l := by
  obtain ⟨p, c, rfl⟩ := bk_form h
  refine ⟨p, c, rfl, fun i x hx => ?_⟩
  have hi := (List.getElem?_eq_some_iff.1 hx).1
  obtain ⟨g, c', e, _, _⟩ := bk_form1 h (by omega)
  injection e with e1 e2 e3
  subst e1 e3
  exact ⟨g, rfl, own_lt h rfl, own_cell h (by simp [is64, hx])⟩
theorem ReadsE.below (h : ReadsE w v evs) (hb : Below w.heap.size w w') : ReadsE w' v evs := by
  obtain ⟨p, c, e, hc⟩ := h
  refine ⟨p, c, e, fun i x hx => ?_⟩
  obtain ⟨g, e1, hl, a, b, c, d⟩ := hc i x hx
  exact ⟨g, e1, Nat.lt_of_lt_of_le hl hb.size, (hb.cell (p := ⟨g, _, none⟩) hl).trans a, (hb.cell (p := ⟨g, _, none⟩) hl).trans b, (hb.cell (p := ⟨g, _, none⟩) hl).trans c, (hb.cell (p := ⟨g, _, none⟩) hl).trans d⟩
theorem ReadsI.below (h : ReadsI w v l) (hb : Below w.heap.size w w') : ReadsI w' v l := by
  obtain ⟨p, c, e, hc⟩ := h
  refine ⟨p, c, e, fun i x hx => ?_⟩
  obtain ⟨g, e1, hl, a⟩ := hc i x hx
  exact ⟨g, e1, Nat.lt_of_lt_of_le hl hb.size, (hb.cell (p := ⟨g, _, none⟩) hl).trans a⟩
set_option maxRecDepth 100000 in
theorem SameI_yes (hu : ReadsI w u l) (hv : ReadsI w v l) (hn : l.length ≤ 1000000000) : Calls Tryz.prog 57 #[u, v] w fun e w' => e = .returned (.bool true) ∧ ∃ n, w' = w.drewN n := by
  obtain ⟨p, c, rfl, hc⟩ := hu
  obtain ⟨p', c', rfl, hc'⟩ := hv
  have H1 := Lib.hid hc
  have H2 := Lib.hid hc'
  clear hc hc'
  go_enter Tryz.func57, Tryz.ntmps57
  go_wp2
  go_loopw [5] (fun i wr => ∃ k : Nat, i = .int .i64 k ∧ k ≤ l.length ∧ ∃ d, wr = w.drewN d) (fun i _ => l.length - (intOf i).toNat)
  case atStart => exact ⟨0, rfl, Nat.zero_le _, 0, rfl⟩
  case round =>
    obtain ⟨k, rfl, hk, d, rfl⟩ := hrel
    by_cases hlt : k < l.length
    · obtain ⟨x, hx⟩ : ∃ x, l[k]? = some x := ⟨_, List.getElem?_eq_getElem hlt⟩
      obtain ⟨g, rfl, -, c1⟩ := H1.out k x hx
      obtain ⟨g', rfl, -, c2⟩ := H2.out k x hx
      have e1 : (w.drewN d).cell? ⟨g, k, none⟩ = some (.int .i64 x) := c1
      have e2 : (w.drewN d).cell? ⟨g', k, none⟩ = some (.int .i64 x) := c2
      clear c1 c2 hx
      generalize hwd : w.drewN d = wd at *
      have HW := Lib.hid hwd
      clear hwd
      go_wp2
      go_quiet (fail)
      go_wp2
      go_roundw
      case rel => exact ⟨k + 1, by go_num, by omega, _, by rw [← HW.out, World.drewN_drewN]⟩
      case measure => simp [intOf]; omega
    · go_wp2
      go_ret
      exact ⟨rfl, d, rfl⟩
set_option maxRecDepth 100000 in
theorem SameE_yes (hu : ReadsE w u evs) (hv : ReadsE w v evs) (hn : evs.length ≤ 1000000000) : Calls Tryz.prog 54 #[u, v] w fun e w' => e = .returned (.bool true) ∧ ∃ n, w' = w.drewN n := by
  obtain ⟨p, c, rfl, hc⟩ := hu
  obtain ⟨p', c', rfl, hc'⟩ := hv
  have H1 := Lib.hid hc
  have H2 := Lib.hid hc'
  clear hc hc'
  go_enter Tryz.func54, Tryz.ntmps54
  go_wp2
  go_loopw [5] (fun i wr => ∃ k : Nat, i = .int .i64 k ∧ k ≤ evs.length ∧ ∃ d, wr = w.drewN d) (fun i _ => evs.length - (intOf i).toNat)
  case atStart => exact ⟨0, rfl, Nat.zero_le _, 0, rfl⟩
  case round =>
    obtain ⟨k, rfl, hk, d, rfl⟩ := hrel
    by_cases hlt : k < evs.length
    · obtain ⟨x, hx⟩ : ∃ x, evs[k]? = some x := ⟨_, List.getElem?_eq_getElem hlt⟩
      obtain ⟨g, rfl, -, a0, a1, a2, a3⟩ := H1.out k x hx
      obtain ⟨g', rfl, -, b0, b1, b2, b3⟩ := H2.out k x hx
      have a0 : (w.drewN d).cell? ⟨g, k * 4, none⟩ = some (.int .i64 x.step) := a0
      have a1 : (w.drewN d).cell? ⟨g, k * 4 + 1, none⟩ = some (.int .i64 x.thread) := a1
      have a2 : (w.drewN d).cell? ⟨g, k * 4 + 2, none⟩ = some (.int .i64 x.index) := a2
      have a3 : (w.drewN d).cell? ⟨g, k * 4 + 3, none⟩ = some (.bool x.ret) := a3
      have b0 : (w.drewN d).cell? ⟨g', k * 4, none⟩ = some (.int .i64 x.step) := b0
      have b1 : (w.drewN d).cell? ⟨g', k * 4 + 1, none⟩ = some (.int .i64 x.thread) := b1
      have b2 : (w.drewN d).cell? ⟨g', k * 4 + 2, none⟩ = some (.int .i64 x.index) := b2
      have b3 : (w.drewN d).cell? ⟨g', k * 4 + 3, none⟩ = some (.bool x.ret) := b3
      clear hx
      generalize x.step = y0 at *
      generalize x.thread = y1 at *
      generalize x.index = y2 at *
      generalize x.ret = y3 at *
      generalize hwd : w.drewN d = wd at *
      have HW := Lib.hid hwd
      clear hwd
      go_wp2
      go_quiet (fail)
      go_wp2
      go_roundw
      case rel => exact ⟨k + 1, by go_num, by omega, _, by rw [← HW.out, World.drewN_drewN]⟩
      case measure => simp [intOf]; omega
    · go_wp2
      go_ret
      exact ⟨rfl, d, rfl⟩
end
end Go.Proofs.YtkaplifhaafpdaaGreat
end

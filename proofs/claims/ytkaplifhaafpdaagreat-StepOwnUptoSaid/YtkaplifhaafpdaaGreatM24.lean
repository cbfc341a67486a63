/-
  StBoth, StBothC: the texts of the proof, merged. No condition.
-/
import Derived.Test.YtkaplifhaafpdaaGreatM18
import Derived.Test.YtkaplifhaafpdaaGreatM22
import Derived.Test.YtkaplifhaafpdaaGreatM23
section
/-
  both: the program's runner and the document's, over the same plans. No condition.
-/
namespace Go.Proofs.YtkaplifhaafpdaaGreat
open Go Go.RowKit
set_option linter.unusedSimpArgs false
set_option linter.unusedVariables false
theorem New_many (w : World) (bm n c : Nat) (p : Option Addr) (h : 64 < n) : Calls Tryz.prog 16 #[.pointer (some ⟨bm, 0, none⟩), .slice p n c] w fun e w' => e = .returned (.tuple #[.pointer none, .int .i64 6]) ∧ w = w' := by
  have h1 : decide ((64 : Int) < (n : Int)) = true := by simp; omega
  go_enter Tryz.func16, Tryz.ntmps16
  go_wp2
  go_ret2
  exact ⟨rfl, rfl⟩
theorem New_deep {w : World} {ps : List (List Value)} {p : Option Addr} {c : Nat} (bm : Nat) (h : Reads2 w (.slice p ps.length c) ps) (hn : ps.length ≤ 64) (hl : tooLong ps = true) : Calls Tryz.prog 16 #[.pointer (some ⟨bm, 0, none⟩), .slice p ps.length c] w fun e w' => e = .returned (.tuple #[.pointer none, .int .i64 6]) ∧ w = w' := by
  have HW := within_any h (by omega)
  rw [hl] at HW
  have HW := Lib.hid HW
  have h1 : decide ((64 : Int) < (ps.length : Int)) = false := by simp; omega
  clear h hl
  go_enter Tryz.func16, Tryz.ntmps16
  go_wp2_with fail
  refine HW.out.mono ?_
  rintro e w1 ⟨rfl, rfl⟩
  go_wp2
  go_ret2
  exact ⟨rfl, rfl⟩
/-- the law's own record: memory, runner, procs -/
structure WX (w : World) (Z : Nat → Prop) (wd bm : Nat) (rv : Value) (lays : List (List (Option Nat))) : Prop where
  ex : ∃ (mv : Value) (ms : List Value), Blk w wd 56 #[.pointer (some ⟨bm, 0, none⟩), rv, mv] ∧ w.ownsRow 0 120 1 mv lays.length ms ∧
    (∀ (i : Nat) lay m, lays[i]? = some lay → ms[i]? = some m → w.ownsRow 0 123 1 m (mptrs lay).length (mptrs lay) ∧ ∀ g, m.ownBlock = some g → Z g) ∧ Z wd ∧ ∀ g, mv.ownBlock = some g → Z g
section
variable {W w w' w1 : World} {Z S : Nat → Prop} {wd bm : Nat} {rv : Value} {lays : List (List (Option Nat))}
theorem WX.fr (h : WX w Z wd bm rv lays) (hf : Fr S w w') (hS : ∀ k, Z k → ¬ S k) : WX w' Z wd bm rv lays := by
  obtain ⟨mv, ms, a, b, c, d, e⟩ := h
  exact ⟨mv, ms, a.fr hf (hS _ d), own_fr b hf (fun g hg => hS g (e g hg)), fun i lay m h1 h2 => ⟨own_fr (c i lay m h1 h2).1 hf (fun g hg => hS g ((c i lay m h1 h2).2 g hg)), (c i lay m h1 h2).2⟩, d, e⟩
end
/-- the memory of both, at first -/
def mem0 : Mem := (Mem.made 200).store 9 50 3
theorem mem_first (n : Nat) : ((Mem.made n).store 9 50 3).cells.length = n ∧ ((Mem.made n).store 9 50 3).trace.length = 1 ∧ ((Mem.made n).store 9 50 3).next = 1 := by
  refine ⟨?_, ?_, ?_⟩ <;> simp [Mem.store, Mem.note, Mem.put, Mem.made]
theorem mem0_fit : mem0.Fit ∧ mem0.trace.length = 1 := by
  obtain ⟨a, b, c⟩ := mem_first 200
  unfold mem0
  exact ⟨⟨by omega, by omega, by omega⟩, b⟩
section
variable {W w w1 w2 w3 : World} {ll : List (List Plan)} {lays : List (List (Option Nat))} {av mv tv : Value} {rs ms : List Value} {bm rp : Nat} {F : Nat → Prop}
theorem row_inj : ∀ {la : List (Option Nat)}, (la.filterMap id).Nodup → ∀ {k k' pb : Nat}, la[k]? = some (some pb) → la[k']? = some (some pb) → k = k'
  | [], _, k, k', pb, a, _ => by simp at a
  | y :: la, n1, k, k', pb, a, b => by
    have n2 : (la.filterMap id).Nodup := by
      rw [List.filterMap_cons] at n1
      cases y with
      | none => exact n1
      | some z => simp only [id] at n1; exact (List.nodup_cons.1 n1).2
    have no : ∀ {j : Nat}, y = some pb → la[j]? = some (some pb) → False := fun {j} e h => by
      subst e
      have hm : pb ∈ la.filterMap id := List.mem_filterMap.2 ⟨some pb, List.mem_of_getElem? h, rfl⟩
      rw [List.filterMap_cons] at n1
      exact (List.nodup_cons.1 n1).1 hm
    match k, k' with
    | 0, 0 => rfl
    | 0, k' + 1 => exact (no (by simpa using a) (by simpa using b)).elim
    | k + 1, 0 => exact (no (by simpa using b) (by simpa using a)).elim
    | k + 1, k' + 1 => rw [row_inj n2 (k := k) (k' := k') (pb := pb) (by simpa using a) (by simpa using b)]
theorem flat_inj : ∀ {lays : List (List (Option Nat))}, (lays.flatten.filterMap id).Nodup → ∀ {t k t' k' pb : Nat}, layAt lays t k = some (some pb) → layAt lays t' k' = some (some pb) → t = t' ∧ k = k'
  | [], _, t, k, t', k', pb, h, _ => by simp [layAt] at h
  | la :: lays, hn, t, k, t', k', pb, h, h' => by
    rw [List.flatten_cons, List.filterMap_append, List.nodup_append] at hn
    obtain ⟨n1, n2, n3⟩ := hn
    have up : ∀ {t k : Nat}, layAt (la :: lays) (t + 1) k = layAt lays t k := rfl
    have m0 : ∀ {k : Nat}, layAt (la :: lays) 0 k = some (some pb) → pb ∈ la.filterMap id := fun {k} h => List.mem_filterMap.2 ⟨some pb, List.mem_of_getElem? (show la[k]? = some (some pb) from h), rfl⟩
    have m1 : ∀ {t k : Nat}, layAt lays t k = some (some pb) → pb ∈ lays.flatten.filterMap id := fun {t k} h => by
      unfold layAt at h
      split at h
      · rename_i lb hlb
        exact List.mem_filterMap.2 ⟨some pb, List.mem_flatten.2 ⟨lb, List.mem_of_getElem? hlb, List.mem_of_getElem? h⟩, rfl⟩
      · cases h
    match t, t' with
    | 0, 0 => exact ⟨rfl, row_inj n1 (show la[k]? = some (some pb) from h) (show la[k']? = some (some pb) from h')⟩
    | 0, t' + 1 => exact absurd rfl (n3 pb (m0 h) pb (m1 (up ▸ h')))
    | t + 1, 0 => exact absurd rfl (n3 pb (m0 h') pb (m1 (up ▸ h)))
    | t + 1, t' + 1 =>
      obtain ⟨e1, e2⟩ := flat_inj n2 (up ▸ h) (up ▸ h')
      exact ⟨by rw [e1], e2⟩
theorem OutP.layok (h : OutP W w w1 ll lays av mv rs ms) (hl : lays.length = ll.length) : LayOK ll lays := by
  refine ⟨hl, fun t la l h1 h2 => ?_, fun t k la l p h1 h2 h3 => ⟨fun hp => ?_, fun hp => ?_⟩, fun t k t' k' pb => flat_inj h.nd⟩
  · obtain ⟨l', r, m, a, b, _⟩ := h.row t la h1
    rw [h2] at a; injection a with a; subst a
    exact b.symm
  · obtain ⟨l', r, m, a, b, _, _, _, _, e3⟩ := h.row t la h1
    rw [h2] at a; injection a with a; subst a
    have hk := (List.getElem?_eq_some_iff.1 h3).1
    obtain ⟨y, hy⟩ : ∃ y, la[k]? = some y := ⟨_, List.getElem?_eq_getElem (by omega)⟩
    cases y with
    | none => exact hy
    | some pb =>
      obtain ⟨x, q1, _, q2, _⟩ := e3.pr k pb hy
      rw [h3] at q1; injection q1 with q1; subst q1
      rw [hp] at q2; cases q2
  · obtain ⟨l', r, m, a, b, _, _, _, _, e3⟩ := h.row t la h1
    rw [h2] at a; injection a with a; subst a
    obtain ⟨x, q1, q2⟩ := e3.no k hp
    rw [h3] at q1; injection q1 with q1; subst q1
    exact q2
theorem OutP.reads (h : OutP W w w1 ll lays av mv rs ms) : Reads2 w1 av (lays.map fun la => la.map pval) := by
  have form : ∀ {v : Value} {n : Nat} {xs : List Value} {b e : Nat}, w1.ownsRow b e 1 v n xs → xs.length = n → Reads w1 v xs := by
    intro v n xs b e ho hl
    rcases id ho.2 with ⟨rfl, h2⟩ | ⟨g, cap, cur, rfl, -, hb, -⟩
    · subst h2
      exact ⟨none, 0, by rw [hl], fun _ => rfl, fun j x hx => by have := (List.getElem?_eq_some_iff.1 hx).1; omega⟩
    · exact ⟨some ⟨g, 0, none⟩, cap, by rw [hl], (by intro e; cases e), fun j x hx => ⟨g, 0, rfl, own_lt ho rfl, by rw [Nat.zero_add]; exact own_cell ho hx⟩⟩
  refine ⟨rs, form h.oa rfl, by simp [h.rl], fun j u l hu hl => ?_⟩
  rw [List.getElem?_map] at hl
  cases hla : lays[j]? with
  | none => rw [hla] at hl; cases hl
  | some la =>
    rw [hla] at hl
    injection hl with hl
    subst hl
    obtain ⟨l', r, m, a, b, c, d, e1, e2, e3⟩ := h.row j la hla
    rw [hu] at c; injection c with c; subst c
    exact form e1 (by simp)
/-- the env of procs that have not begun -/
theorem EnvI.start {L : Lay} {T : List Thr} {cs : Array Value} {tv' : Value} {F : Nat → Prop} (hO : OutP W w w1 ll L.lays av mv rs ms) (hl : L.OK ll) (hN : NewAt w1 w2 L.rp L.bm (L.lays.map fun la => la.map pval) ll.length T L.vws cs tv') (hf : Fr (fun _ => False) w2 w3) (hM : PM w3 F L.bm mem0) (hF : ∀ k, F k → W.heap.size ≤ k ∧ k < w.heap.size) (hW : W.heap.size ≤ w.heap.size) (hb : Below W.heap.size W w3) (hOb : Below w1.heap.size w1 w3) :
    EnvI W L.bm L.vws ll L.lays (St.start ll mem0) (fun k => k < W.heap.size ∨ F k ∨ k ∈ L.vws ∨ ∃ t j, layAt L.lays t j = some (some k)) w3 := by
  have hsz := hO.bel.size
  have hsz3 := hOb.size
  have pos : ∀ t j pb, layAt L.lays t j = some (some pb) → ∃ x, w.heap.size ≤ pb ∧ pb < w1.heap.size ∧ ∃ l p lv, ll[t]? = some l ∧ l[j]? = some p ∧ p = x ∧ DosAt W lv p.l ∧ Blk w1 pb 122 #[lv, .int .i64 0, .slice none 0 0] := by
    intro t j pb h
    unfold layAt at h
    split at h
    · rename_i la hla
      obtain ⟨l, r, m, a, _, _, _, _, _, e3⟩ := hO.row t la hla
      obtain ⟨x, q1, lv, q2, q3, q4, q5⟩ := e3.pr j pb h
      exact ⟨x, q5, q4.lt, l, x, lv, a, q1, rfl, q3, q4⟩
    · cases h
  have hv : ∀ v ∈ L.vws, w1.heap.size ≤ v ∧ v < w3.heap.size := by
    intro v hv
    obtain ⟨i, hi⟩ := List.getElem?_of_mem hv
    have := hN.vw i v hi
    exact ⟨this.2, Nat.lt_of_lt_of_le this.1.lt hf.size⟩
  refine ⟨F, fun _ => .slice none 0 0, hM, fun k hk => .inr (.inl hk), fun t v hvt => ?_, fun t k pb x l p h1 h2 h3 h4 => ?_, fun _ _ _ _ _ _ g _ _ h => (by cases h), fun k hk => ?_, fun k hk => .inl hk, fun k hk => (hF k hk).1, fun t k pb h => ⟨?_, fun g hg => (by cases hg)⟩, fun v hvv => ?_, hb⟩
  · have hm := List.mem_of_getElem? hvt
    have h0 := hv v hm
    refine ⟨⟨0, (hN.vw t v hvt).1.fr hf (fun e => e), Int.le_refl _, Int.le_refl _⟩, fun e => ?_, .inr (.inr (.inl hm))⟩
    have := hF v e; omega
  · obtain ⟨x', a1, a2, l', p', lv, a3, a4, rfl, a5, a6⟩ := pos t k pb h1
    rw [h3] at a3; injection a3 with a3; subst a3
    rw [h4] at a4; injection a4 with a4; subst a4
    simp only [St.start, List.getElem?_map, h3] at h2
    injection h2 with h2
    subst h2
    have hg : ∀ j, (List.replicate l.length ([] : List Int)).getD j [] = [] := fun j => by
      simp only [List.getD_eq_getElem?_getD, List.getElem?_replicate]
      split <;> rfl
    refine ⟨⟨lv, ?_, a5⟩, ?_, fun e => ?_, .inr (.inr (.inr ⟨t, k, h1⟩)), fun g hg => (by cases hg)⟩
    · have ht : (⟨0, 0, List.replicate l.length []⟩ : TS).took k p = 0 := by unfold TS.took; simp
      rw [ht]
      exact a6.below hOb
    · show w3.ownsRow 0 _ 1 _ ((List.replicate l.length ([] : List Int)).getD k []).length (us ((List.replicate l.length ([] : List Int)).getD k []))
      rw [hg k]
      exact World.ownsRow_nil _ _ _ _
    · have := hF pb e; omega
  · rcases hk with e | e | e | ⟨t, j, e⟩
    · have := hb.size; omega
    · have := (hF k e).2; omega
    · exact (hv k e).2
    · obtain ⟨_, _, a2, _⟩ := pos t j k e; omega
  · obtain ⟨_, a1, _⟩ := pos t k pb h; omega
  · have := (hv v hvv).1; omega
theorem thrs_start {L : Lay} {T : List Thr} {cs : Array Value} {tv' : Value} (hl : L.OK ll) (hN : NewAt w1 w2 L.rp L.bm (L.lays.map fun la => la.map pval) ll.length T L.vws cs tv') (hP : L.PV = (T.map Thr.pv).zip lays) (hL : lays = L.lays) : thrs L.PV (St.start ll mem0).th = T := by
  have hlt := hN.lt
  apply List.ext_getElem?
  intro i
  unfold thrs
  rw [List.getElem?_zipWith]
  by_cases hi : i < ll.length
  · obtain ⟨x, hx⟩ : ∃ x, T[i]? = some x := ⟨_, List.getElem?_eq_getElem (by omega)⟩
    obtain ⟨a, ha, ha2⟩ := lay_at hl hi
    obtain ⟨l, hll⟩ : ∃ l, ll[i]? = some l := ⟨_, List.getElem?_eq_getElem hi⟩
    have h1 : a.1 = x.pv := by
      have := ha
      rw [hP, List.getElem?_zip_eq_some] at this
      have h2 := this.1
      rw [List.getElem?_map, hx] at h2
      injection h2 with h2
      exact h2.symm
    obtain ⟨q1, q2, q3⟩ := hN.th i x hx
    rw [List.getElem?_map, ha2] at q1
    injection q1 with q1
    rw [ha, hx]
    simp only [St.start, List.getElem?_map, hll, Option.map_some]
    unfold thrAt
    cases x
    simp_all
  · have h1 : T[i]? = none := List.getElem?_eq_none (by omega)
    have h2 : L.PV[i]? = none := List.getElem?_eq_none (by rw [hl.pl]; omega)
    rw [h1, h2]
theorem PG.start {L : Lay} {T : List Thr} {cs : Array Value} {tv' : Value} {F : Nat → Prop} (hO : OutP W w w1 ll L.lays av mv rs ms) (hl : L.OK ll) (hN : NewAt w1 w2 L.rp L.bm (L.lays.map fun la => la.map pval) ll.length T L.vws cs tv') (hP : L.PV = (T.map Thr.pv).zip L.lays) (hf : Fr (fun _ => False) w2 w3) (hM : PM w3 F L.bm mem0) (hF : ∀ k, F k → W.heap.size ≤ k ∧ k < w.heap.size) (hW : W.heap.size ≤ w.heap.size) (hb : Below W.heap.size W w3) (hOb : Below w1.heap.size w1 w3) :
    ∃ G, PG W w3 G L ll (St.start ll mem0) ∧ ∀ k, G k → F k ∨ (∃ t j, layAt L.lays t j = some (some k)) ∨ (w1.heap.size ≤ k ∧ k < w2.heap.size) := by
  have hE := EnvI.start hO hl hN hf hM hF hW hb hOb
  have hR := (hN.ro (w0 := nul W) (Nat.zero_le _)).fr hf (fun _ _ e => e)
  have hT := thrs_start hl hN hP rfl
  have hsz := hO.bel.size
  have hlay : ∀ t j k, layAt L.lays t j = some (some k) → w.heap.size ≤ k ∧ k < w1.heap.size := by
    intro t j k h
    unfold layAt at h
    split at h
    · rename_i la hla
      obtain ⟨l, r, m, a, _, _, _, _, _, e3⟩ := hO.row t la hla
      obtain ⟨x, q1, lv, q2, q3, q4, q5⟩ := e3.pr j k h
      exact ⟨q5, q4.lt⟩
    · cases h
  have j : PJ (nul W) w3 (fun b => w1.heap.size ≤ b ∧ b < w2.heap.size ∧ b ∉ L.vws) (fun k => k < W.heap.size ∨ F k ∨ k ∈ L.vws ∨ ∃ t j, layAt L.lays t j = some (some k)) (EnvI W L.bm L.vws ll L.lays (St.start ll mem0)) L.rp L.bm L.vws (thrs L.PV (St.start ll mem0).th) 0 [] [] := by
    rw [hT]
    refine ⟨hR, hE, fun k hk hr => ?_, Nat.zero_le _⟩
    rcases hk with e | e | e | ⟨t, j, e⟩
    · omega
    · have := hF k e; omega
    · exact hr.2.2 e
    · have := hlay t j k e; omega
  refine ⟨_, PG.make j ?_ hl (start_ok mem0_fit.1 (by rw [mem0_fit.2]; exact Nat.le_refl _)), fun k hk => ?_⟩
  · show ([] : List Int) ++ List.replicate (mem0.trace.length - 0) (-1) = List.replicate mem0.trace.length (-1)
    simp
  · obtain ⟨h1, h2⟩ := hk
    rcases h1 with e | e | e | e | ⟨t, j, e⟩
    · exact .inr (.inr ⟨e.1, e.2.1⟩)
    · omega
    · exact .inl e
    · obtain ⟨i, hi⟩ := List.getElem?_of_mem e
      have := hN.vw i k hi
      exact .inr (.inr ⟨this.2, this.1.lt⟩)
    · exact .inr (.inl ⟨t, j, e⟩)
end
end Go.Proofs.YtkaplifhaafpdaaGreat
end
section
/-
  The lists that were handed in are cleared: what that may write. No condition.
-/
namespace Go.Proofs.YtkaplifhaafpdaaGreat
open Go Go.RowKit
set_option linter.unusedSimpArgs false
set_option linter.unusedVariables false
/-- lists from i on are as they came, and k procs of list i are cleared -/
structure Clr (w0 w : World) (av : Value) (rs : List Value) (ls : List Nat) (i : Nat) : Prop where
  oa : ∃ us, w.ownsRow 0 73 1 av rs.length us ∧ ∀ j, i ≤ j → us[j]? = rs[j]?
  row : ∀ (j : Nat) r n, i ≤ j → rs[j]? = some r → ls[j]? = some n → ∃ xs, w.ownsRow 0 88 1 r n xs
  fr : Fr (fun k => av.ownBlock = some k ∨ ∃ r ∈ rs, r.ownBlock = some k) w0 w
section
variable {w0 w : World} {av : Value} {rs : List Value} {ls : List Nat} {i k : Nat} {r : Value} {n : Nat}
theorem own_put0 {w : World} {base : Nat} {e : TypeId} {n g c j : Nat} {xs : List Value} (h : w.ownsRow base e 1 (.slice (some ⟨g, 0, none⟩) n c) n xs) (hj : j < n) (u : Value) :
    (w.setCell ⟨g, j, none⟩ u).ownsRow base e 1 (.slice (some ⟨g, 0, none⟩) n c) n (xs.set j u) := own_put h (by omega) u
/-- a proc of list i is cleared -/
theorem Clr.inner (h : Clr w0 w av rs ls i) (hd : ∀ (i j : Nat) (r r' : Value) g, rs[i]? = some r → rs[j]? = some r' → r.ownBlock = some g → r'.ownBlock = some g → i = j) (hr : rs[i]? = some r) (hn : ls[i]? = some n) (hk : k < n) (u : Value) :
    ∃ g c, r = .slice (some ⟨g, 0, none⟩) n c ∧ (∃ x, w.cell? ⟨g, k, none⟩ = some x) ∧ w.frozen? ⟨g, k, none⟩ = false ∧ Clr w0 (w.setCell ⟨g, k, none⟩ u) av rs ls i := by
  obtain ⟨xs, hx⟩ := h.row i r n (Nat.le_refl _) hr hn
  obtain ⟨g, c, rfl, _, _⟩ := bk_form1 hx (by omega)
  have hxl : xs.length = n := by have := hx.1; omega
  obtain ⟨x, hx2⟩ : ∃ x, xs[k]? = some x := ⟨_, List.getElem?_eq_getElem (by omega)⟩
  refine ⟨g, c, rfl, ⟨x, own_cell hx hx2⟩, bk_cold hx k, ?_⟩
  have f : Fr (fun b => b = g) w (w.setCell ⟨g, k, none⟩ u) := (Fr.refl (fun b => b = g) w).put (p := ⟨g, k, none⟩) (.inl rfl) _
  obtain ⟨us, h1, h2⟩ := h.oa
  obtain ⟨cs, hb⟩ := bk_blk hx rfl
  refine ⟨⟨us, own_fr h1 f (fun g' e e2 => own_ne h1 hb (by decide) (e2 ▸ e)), h2⟩, fun j r' m hj hr' hm => ?_, h.fr.put (p := ⟨g, k, none⟩) (.inl (.inr ⟨_, List.mem_of_getElem? hr, rfl⟩)) _⟩
  by_cases e : j = i
  · subst e
    rw [hr] at hr'; injection hr' with hr'; subst hr'
    rw [hn] at hm; injection hm with hm; subst hm
    exact ⟨_, own_put0 hx hk u⟩
  · obtain ⟨ys, hy⟩ := h.row j r' m hj hr' hm
    exact ⟨ys, own_fr hy f (fun g' e1 e2 => e (hd j i r' _ g' hr' hr e1 (by rw [e2]; rfl)))⟩
/-- list i is dropped -/
theorem Clr.outer (h : Clr w0 w av rs ls i) (hi : i < rs.length) (u : Value) : ∃ g c, av = .slice (some ⟨g, 0, none⟩) rs.length c ∧ (∃ x, w.cell? ⟨g, i, none⟩ = some x) ∧ w.frozen? ⟨g, i, none⟩ = false ∧ Clr w0 (w.setCell ⟨g, i, none⟩ u) av rs ls (i + 1) := by
  obtain ⟨us, h1, h2⟩ := h.oa
  obtain ⟨g, c, rfl, _, _⟩ := bk_form1 h1 (by omega)
  have hul : us.length = rs.length := by have := h1.1; omega
  obtain ⟨x, hx2⟩ : ∃ x, us[i]? = some x := ⟨_, List.getElem?_eq_getElem (by omega)⟩
  have f : Fr (fun b => b = g) w (w.setCell ⟨g, i, none⟩ u) := (Fr.refl (fun b => b = g) w).put (p := ⟨g, i, none⟩) (.inl rfl) _
  obtain ⟨cs, hb⟩ := bk_blk h1 rfl
  refine ⟨g, c, rfl, ⟨x, own_cell h1 hx2⟩, bk_cold h1 i, ⟨us.set i u, own_put0 h1 hi u, fun j hj => ?_⟩, fun j r n hj hr hn => ?_, h.fr.put (p := ⟨g, i, none⟩) (.inl (.inl rfl)) _⟩
  · rw [List.getElem?_set_ne (by omega)]
    exact h2 j (by omega)
  · obtain ⟨xs, hx⟩ := h.row j r n (by omega) hr hn
    exact ⟨xs, own_fr hx f (fun g' e e2 => own_ne hx hb (by decide) (e2 ▸ e))⟩
theorem Clr.cell (h : Clr w0 w av rs ls i) (hi : i < rs.length) : ∃ g c r, av = .slice (some ⟨g, 0, none⟩) rs.length c ∧ rs[i]? = some r ∧ w.cell? ⟨g, i, none⟩ = some r := by
  obtain ⟨us, h1, h2⟩ := h.oa
  obtain ⟨g, c, rfl, _, _⟩ := bk_form1 h1 (by omega)
  obtain ⟨r, hr⟩ : ∃ r, rs[i]? = some r := ⟨_, List.getElem?_eq_getElem hi⟩
  exact ⟨g, c, r, rfl, hr, own_cell h1 ((h2 i (Nat.le_refl _)).trans hr)⟩
end
end Go.Proofs.YtkaplifhaafpdaaGreat
end

/-
  step.New: a runner over copies of the threads' procs, and a view for each. No condition.
-/
import Derived.Test.YtenlgfagfpaenaaStN
namespace Go.Proofs.Ytenlgfagfpaenaa
open Go Go.RowKit
set_option linter.unusedSimpArgs false
set_option linter.unusedVariables false
section
variable {w0 w w' w1 w2 : World} {R S G E E' U : Nat → Prop} {rp bm n : Nat} {vws : List Nat} {T T' : List Thr} {x : Thr} {t steps : Nat} {evs : List Ev} {ats : List Int} {cs : Array Value} {tv ev av v : Value} {l : List Value} {ps : List (List Value)}
theorem RC.putV (h : RC cs bm tv vws steps ev av) (hn : vws.length < 64) (v : Nat) : RC (cs.setIfInBounds (2 + vws.length) (.pointer (some ⟨v, 0, none⟩))) bm tv (vws ++ [v]) steps ev av := by
  obtain ⟨a, b, c, d, nv, e, f, g⟩ := h
  refine ⟨by simpa using a, ?_, ?_, fun t u hu => ?_, by simp; omega, ?_, ?_, ?_⟩ <;> rw [Array.getElem?_setIfInBounds]
  · rw [if_neg (by omega)]; exact b
  · rw [if_neg (by omega)]; exact c
  · by_cases e : t < vws.length
    · rw [List.getElem?_append_left e] at hu
      rw [if_neg (by omega)]; exact d t u hu
    · have h2 := (List.getElem?_eq_some_iff.1 hu).1
      simp at h2
      obtain rfl : t = vws.length := by omega
      simp at hu
      subst hu
      rw [if_pos rfl, if_pos (by omega)]
  · rw [if_neg (by omega)]; exact e
  · rw [if_neg (by omega)]; exact f
  · rw [if_neg (by omega)]; exact g
theorem RX.putV (h : RX w R rp bm vws T steps evs ats cs tv ev av) (hn : vws.length < 64) (v : Nat) : RX (w.setCell ⟨rp, 2 + vws.length, none⟩ (.pointer (some ⟨v, 0, none⟩))) R rp bm (vws ++ [v]) T steps evs ats (cs.setIfInBounds (2 + vws.length) (.pointer (some ⟨v, 0, none⟩))) tv ev av ∧ Fr (fun b => b = rp) w (w.setCell ⟨rp, 2 + vws.length, none⟩ (.pointer (some ⟨v, 0, none⟩))) := by
  have f : Fr (fun b => b = rp) w (w.setCell ⟨rp, 2 + vws.length, none⟩ (.pointer (some ⟨v, 0, none⟩))) := (Fr.refl (fun b => b = rp) w).put (p := ⟨rp, 2 + vws.length, none⟩) (.inl rfl) _
  refine ⟨⟨h.blk.put (2 + vws.length) _, h.rc.putV hn v, own_fr h.thr f ?_, fun x hx => ⟨own_fr (h.prc x hx).1 f ?_, (h.prc x hx).2⟩, own_fr h.evo f ?_, own_fr h.avo f ?_, h.fR, h.fT, h.fE, h.fA⟩, f⟩
  · rintro g e rfl; exact own_ne h.thr h.blk (by decide) e
  · rintro g e rfl; exact own_ne (h.prc x hx).1 h.blk (by decide) e
  · rintro g e rfl; exact own_ne h.evo h.blk (by decide) e
  · rintro g e rfl; exact own_ne h.avo h.blk (by decide) e
/-- one thread more -/
theorem RX.pushT (h : RX w R rp bm vws T steps evs ats cs tv ev av) {wy : World} (hy : Fr (fun _ => False) w wy) {g c : Nat} (hprc : wy.ownsRow 0 141 1 x.pv x.procs.length x.procs) (hpR : ∀ g, x.pv.ownBlock = some g → w.heap.size ≤ g) (hown : w1.ownsRow 0 179 3 (.slice (some ⟨g, 0, none⟩) (T.length + 1) c) (T.length + 1) (T.flatMap thrC ++ thrC x)) (hgrow : wy.grownBy w1 tv.ownBlock) (hat : tv.ownBlock = some g ∨ w.heap.size ≤ g) :
    RX (w1.setCell ⟨rp, 1, none⟩ (.slice (some ⟨g, 0, none⟩) (T.length + 1) c)) (Ext R w) rp bm vws (T ++ [x]) steps evs ats (cs.setIfInBounds 1 (.slice (some ⟨g, 0, none⟩) (T.length + 1) c)) (.slice (some ⟨g, 0, none⟩) (T.length + 1) c) ev av ∧ Fr (fun b => tv.ownBlock = some b ∨ b = rp) w (w1.setCell ⟨rp, 1, none⟩ (.slice (some ⟨g, 0, none⟩) (T.length + 1) c)) ∧
      w1.cell? ⟨rp, 1, none⟩ = some tv ∧ w1.frozen? ⟨rp, 1, none⟩ = false := by
  have f1 : Fr (fun b => tv.ownBlock = some b) w w1 := (hy.mono (fun _ _ e => e.elim)).grown hgrow (fun k e => .inl e)
  have f2 : Fr (fun b => tv.ownBlock = some b ∨ b = rp) w (w1.setCell ⟨rp, 1, none⟩ (.slice (some ⟨g, 0, none⟩) (T.length + 1) c)) := (f1.mono (fun _ _ e => .inl e)).put (p := ⟨rp, 1, none⟩) (.inl (.inr rfl)) _
  have g1 : Fr (fun b => tv.ownBlock = some b ∨ b = rp) wy (w1.setCell ⟨rp, 1, none⟩ (.slice (some ⟨g, 0, none⟩) (T.length + 1) c)) := ((Fr.refl (fun b => tv.ownBlock = some b ∨ b = rp) wy).grown hgrow (fun k e => .inl (.inl e))).put (p := ⟨rp, 1, none⟩) (.inl (.inr rfl)) _
  have hrp : ¬ tv.ownBlock = some rp := own_ne h.thr h.blk (by decide)
  have hb1 := h.blk.fr f1 hrp
  have hgr : g ≠ rp := fun e => own_ne hown hb1 (by decide) (by rw [e]; rfl)
  have hS : ∀ {e : TypeId} {n size : Nat} {v : Value} {xs : List Value}, w.ownsRow 0 e size v n xs → e ≠ 179 → e ≠ 176 → (w1.setCell ⟨rp, 1, none⟩ (.slice (some ⟨g, 0, none⟩) (T.length + 1) c)).ownsRow 0 e size v n xs := by
    intro e n size v xs hv h1 h2
    refine own_fr hv f2 ?_
    rintro k hk (e2 | rfl)
    · obtain ⟨cs1, b1⟩ := bk_blk h.thr e2
      exact own_ne hv b1 h1 hk
    · exact own_ne hv h.blk h2 hk
  refine ⟨⟨hb1.put 1 _, h.rc.put1 _, ?_, fun z hz => ?_, hS h.evo (by decide) (by decide), hS h.avo (by decide) (by decide), .inl h.fR, fun g' e => ?_, fun g e => .inl (h.fE g e), fun g e => .inl (h.fA g e)⟩, f2, (hb1.cell 1).trans h.rc.c1, hb1.cold 1⟩
  · have := own_fr hown ((Fr.refl (fun b => b = rp) w1).put (p := ⟨rp, 1, none⟩) (.inl rfl) (.slice (some ⟨g, 0, none⟩) (T.length + 1) c)) (by intro g' e; simp [Value.ownBlock] at e; subst e; exact hgr)
    simpa using this
  · rcases List.mem_append.1 hz with hz | hz
    · exact ⟨hS (h.prc z hz).1 (by decide) (by decide), fun g e => .inl ((h.prc z hz).2 g e)⟩
    · rw [List.mem_singleton] at hz
      subst hz
      refine ⟨own_fr hprc g1 ?_, fun g e => .inr (hpR g e)⟩
      rintro k hk (e2 | rfl)
      · obtain ⟨cs1, b1⟩ := bk_blk h.thr e2
        exact own_ne hprc (b1.fr hy (fun e => e)) (by decide) hk
      · exact own_ne hprc (h.blk.fr hy (fun e => e)) (by decide) hk
  · have e : g = g' := by simpa [Value.ownBlock] using e
    subst e
    rcases hat with hat | hat
    · exact .inl (h.fT g hat)
    · right; exact hat
/-- so many threads are made -/
structure NewAt (w wr : World) (rp bm : Nat) (ps : List (List Value)) (k : Nat) (T : List Thr) (vws : List Nat) (cs : Array Value) (tv : Value) : Prop where
  rx : RX wr (fun b => w.heap.size ≤ b) rp bm vws T 0 [] [] cs tv (.slice none 0 0) (.slice none 0 0)
  lt : T.length = k
  lv : vws.length = k
  th : ∀ (i : Nat) (x : Thr), T[i]? = some x → ps[i]? = some x.procs ∧ x.pos = 0 ∧ x.op = false
  vw : ∀ (i v : Nat), vws[i]? = some v → VW wr v bm i 0 ∧ w.heap.size ≤ v
  bel : Below w.heap.size w wr
/-- a thread more, its view not yet -/
structure NewMid (w wr : World) (rp bm : Nat) (ps : List (List Value)) (k : Nat) (T : List Thr) (vws : List Nat) (cs : Array Value) (tv : Value) : Prop where
  rx : RX wr (fun b => w.heap.size ≤ b) rp bm vws T 0 [] [] cs tv (.slice none 0 0) (.slice none 0 0)
  lt : T.length = k + 1
  lv : vws.length = k
  th : ∀ (i : Nat) (x : Thr), T[i]? = some x → ps[i]? = some x.procs ∧ x.pos = 0 ∧ x.op = false
  vw : ∀ (i v : Nat), vws[i]? = some v → VW wr v bm i 0 ∧ w.heap.size ≤ v
  bel : Below w.heap.size w wr
theorem NewAt.mid {k : Nat} (h : NewAt w w1 rp bm ps k T vws cs tv) (hl : ps[k]? = some l) {v' : Value} {wa : World} (hv : wa.ownsRow w1.drew.heap.size 141 1 v' l.length l) (hb : Below w1.drew.heap.size w1.drew wa) :
    wa.cell? ⟨rp, 1, none⟩ = some tv ∧ (∀ o, (wa.alloc o).cell? ⟨rp, 1, none⟩ = some tv) ∧
      Hid ((wa.alloc (.cells #[v', .int .i64 0, .bool false] 179)).ownsRow 0 179 3 tv k (T.flatMap thrC) ∧
        ∀ g c w5, w5.ownsRow 0 179 3 (.slice (some ⟨g, 0, none⟩) (k + 1) c) (k + 1) (T.flatMap thrC ++ [v', .int .i64 0, .bool false]) → (wa.alloc (.cells #[v', .int .i64 0, .bool false] 179)).grownBy w5 tv.ownBlock → (tv.ownBlock = some g ∨ g = (wa.alloc (.cells #[v', .int .i64 0, .bool false] 179)).heap.size) →
          w5.cell? ⟨rp, 1, none⟩ = some tv ∧ w5.frozen? ⟨rp, 1, none⟩ = false ∧ Hid (∃ T' cs' tv', NewMid w (w5.setCell ⟨rp, 1, none⟩ (.slice (some ⟨g, 0, none⟩) (k + 1) c)) rp bm ps k T' vws cs' tv')) := by
  have hy : Fr (fun _ => False) w1 wa := ((Fr.refl (fun _ => False) w1).drawn 1).trans (Fr.of_below hb)
  have hy2 : Fr (fun _ => False) w1 (wa.alloc (.cells #[v', .int .i64 0, .bool false] 179)) := hy.alloc _
  have hw : w.heap.size ≤ w1.heap.size := h.bel.size
  have hk := h.lt
  subst hk
  refine ⟨((h.rx.blk.fr hy id).cell 1).trans h.rx.rc.c1, fun o => ((h.rx.blk.fr (hy.alloc o) id).cell 1).trans h.rx.rc.c1, own_fr h.rx.thr hy2 (fun _ _ e => e), ?_⟩
  intro g c w5 hown hgrow hat
  have hge : tv.ownBlock = some g ∨ w1.heap.size ≤ g := hat.imp id fun e => by rw [e]; exact hy2.size
  have hpv : ∀ g, v'.ownBlock = some g → w1.heap.size ≤ g := by
    intro g hg
    rcases hv.2 with ⟨e, _⟩ | ⟨g', cap, cur, e, hb', _⟩
    · subst e; cases hg
    · subst e
      obtain rfl : g' = g := by simpa [Value.ownBlock] using hg
      exact hb'
  have hv0 : (wa.alloc (.cells #[v', .int .i64 0, .bool false] 179)).ownsRow 0 141 1 v' l.length l := own_fr (S := fun _ => False) (base := 0) ⟨hv.1, hv.2.imp id fun ⟨g, cap, cur, a, b, c⟩ => ⟨g, cap, cur, a, Nat.zero_le _, c⟩⟩ ((Fr.refl _ wa).alloc _) (fun _ _ e => e)
  obtain ⟨r1, r2, r3, r4⟩ := h.rx.pushT (x := ⟨v', l, 0, false⟩) hy2 hv0 hpv (w1 := w5) hown hgrow hge
  refine ⟨r3, r4, T ++ [⟨v', l, 0, false⟩], _, _, r1.wide ?_, by simp, h.lv, ?_, ?_, ?_⟩
  · rintro k (e | e)
    · exact e
    · exact Nat.le_trans hw e
  · intro i x hx
    by_cases hi : i < T.length
    · rw [List.getElem?_append_left hi] at hx
      exact h.th i x hx
    · have h2 := (List.getElem?_eq_some_iff.1 hx).1
      simp at h2
      obtain rfl : i = T.length := by omega
      simp at hx
      subst hx
      exact ⟨hl, rfl, rfl⟩
  · intro i v hv
    obtain ⟨a, b⟩ := h.vw i v hv
    refine ⟨Blk.fr a r2 ?_, b⟩
    rintro (e | e)
    · exact own_ne h.rx.thr a (by decide) e
    · subst e; exact Blk.ne a h.rx.blk (by decide) rfl
  · refine h.bel.trans (r2.to_below hw ?_)
    rintro k hk (e | e)
    · exact absurd (h.rx.fT k e) (by omega)
    · subst e; exact absurd h.rx.fR (by omega)
theorem NewMid.view {k : Nat} (h : NewMid w w1 rp bm ps k T vws cs tv) (hk : k < 64) : ∃ cs', NewAt w (((w1.setCell ⟨rp, 2 + k, none⟩ (.pointer (some ⟨w1.heap.size, 0, none⟩))).alloc (.cells #[.pointer (some ⟨bm, 0, none⟩), .int .i64 k, .int .i64 0] 119)).drew) rp bm ps (k + 1) T (vws ++ [w1.heap.size]) cs' tv := by
  have hv := h.lv
  subst hv
  obtain ⟨h1, f2⟩ := h.rx.putV hk w1.heap.size
  have f1 : Fr (fun _ => False) (w1.setCell ⟨rp, 2 + vws.length, none⟩ (.pointer (some ⟨w1.heap.size, 0, none⟩))) (((w1.setCell ⟨rp, 2 + vws.length, none⟩ (.pointer (some ⟨w1.heap.size, 0, none⟩))).alloc (.cells #[.pointer (some ⟨bm, 0, none⟩), .int .i64 (vws.length : Nat), .int .i64 0] 119)).drew) := ((Fr.refl (fun _ => False) _).alloc _).drawn 1
  refine ⟨_, h1.fr f1 (fun _ _ e => e), h.lt, by simp, h.th, ?_, ?_⟩
  · intro i v hv
    by_cases hi : i < vws.length
    · rw [List.getElem?_append_left hi] at hv
      obtain ⟨a, b⟩ := h.vw i v hv
      refine ⟨Blk.fr (Blk.fr a f2 ?_) f1 id, b⟩
      intro e
      subst e; exact Blk.ne a h.rx.blk (by decide) rfl
    · have h2 := (List.getElem?_eq_some_iff.1 hv).1
      simp at h2
      obtain rfl : i = vws.length := by omega
      simp at hv
      subst hv
      refine ⟨?_, h.bel.size⟩
      have := Blk.made (w1.setCell ⟨rp, 2 + vws.length, none⟩ (.pointer (some ⟨w1.heap.size, 0, none⟩))) 119 #[.pointer (some ⟨bm, 0, none⟩), .int .i64 (vws.length : Nat), .int .i64 0]
      rw [World.size_setCell] at this
      exact this
  · refine (h.bel.trans (f2.to_below h.bel.size ?_)).trans (f1.to_below (Nat.le_trans h.bel.size f2.size) (fun _ _ e => e))
    intro k hk e
    have : w.heap.size ≤ rp := h.rx.fR
    omega
set_option maxRecDepth 100000 in
theorem new_rc (bm : Nat) : RC #[Value.pointer (some ⟨bm, 0, none⟩), Value.slice none 0 0, Value.pointer none, Value.pointer none, Value.pointer none, Value.pointer none, Value.pointer none, Value.pointer none, Value.pointer none, Value.pointer none, Value.pointer none, Value.pointer none, Value.pointer none, Value.pointer none, Value.pointer none, Value.pointer none, Value.pointer none, Value.pointer none, Value.pointer none, Value.pointer none, Value.pointer none, Value.pointer none, Value.pointer none, Value.pointer none, Value.pointer none, Value.pointer none, Value.pointer none, Value.pointer none, Value.pointer none, Value.pointer none, Value.pointer none, Value.pointer none, Value.pointer none, Value.pointer none, Value.pointer none, Value.pointer none, Value.pointer none, Value.pointer none, Value.pointer none, Value.pointer none, Value.pointer none, Value.pointer none, Value.pointer none, Value.pointer none, Value.pointer none, Value.pointer none, Value.pointer none, Value.pointer none, Value.pointer none, Value.pointer none, Value.pointer none, Value.pointer none, Value.pointer none, Value.pointer none, Value.pointer none, Value.pointer none, Value.pointer none, Value.pointer none, Value.pointer none, Value.pointer none, Value.pointer none, Value.pointer none, Value.pointer none, Value.pointer none, Value.pointer none, Value.pointer none, Value.int .i64 0, Value.slice none 0 0, Value.slice none 0 0] bm (.slice none 0 0) [] 0 (.slice none 0 0) (.slice none 0 0) :=
  ⟨by rfl, by rfl, by rfl, fun t v hv => by simp at hv, by decide, by rfl, by rfl, by rfl⟩
theorem new_at (w : World) (bm : Nat) (ps : List (List Value)) : NewAt w (w.alloc (.cells #[Value.pointer (some ⟨bm, 0, none⟩), Value.slice none 0 0, Value.pointer none, Value.pointer none, Value.pointer none, Value.pointer none, Value.pointer none, Value.pointer none, Value.pointer none, Value.pointer none, Value.pointer none, Value.pointer none, Value.pointer none, Value.pointer none, Value.pointer none, Value.pointer none, Value.pointer none, Value.pointer none, Value.pointer none, Value.pointer none, Value.pointer none, Value.pointer none, Value.pointer none, Value.pointer none, Value.pointer none, Value.pointer none, Value.pointer none, Value.pointer none, Value.pointer none, Value.pointer none, Value.pointer none, Value.pointer none, Value.pointer none, Value.pointer none, Value.pointer none, Value.pointer none, Value.pointer none, Value.pointer none, Value.pointer none, Value.pointer none, Value.pointer none, Value.pointer none, Value.pointer none, Value.pointer none, Value.pointer none, Value.pointer none, Value.pointer none, Value.pointer none, Value.pointer none, Value.pointer none, Value.pointer none, Value.pointer none, Value.pointer none, Value.pointer none, Value.pointer none, Value.pointer none, Value.pointer none, Value.pointer none, Value.pointer none, Value.pointer none, Value.pointer none, Value.pointer none, Value.pointer none, Value.pointer none, Value.pointer none, Value.pointer none, Value.int .i64 0, Value.slice none 0 0, Value.slice none 0 0] 176)) w.heap.size bm ps 0 [] [] #[Value.pointer (some ⟨bm, 0, none⟩), Value.slice none 0 0, Value.pointer none, Value.pointer none, Value.pointer none, Value.pointer none, Value.pointer none, Value.pointer none, Value.pointer none, Value.pointer none, Value.pointer none, Value.pointer none, Value.pointer none, Value.pointer none, Value.pointer none, Value.pointer none, Value.pointer none, Value.pointer none, Value.pointer none, Value.pointer none, Value.pointer none, Value.pointer none, Value.pointer none, Value.pointer none, Value.pointer none, Value.pointer none, Value.pointer none, Value.pointer none, Value.pointer none, Value.pointer none, Value.pointer none, Value.pointer none, Value.pointer none, Value.pointer none, Value.pointer none, Value.pointer none, Value.pointer none, Value.pointer none, Value.pointer none, Value.pointer none, Value.pointer none, Value.pointer none, Value.pointer none, Value.pointer none, Value.pointer none, Value.pointer none, Value.pointer none, Value.pointer none, Value.pointer none, Value.pointer none, Value.pointer none, Value.pointer none, Value.pointer none, Value.pointer none, Value.pointer none, Value.pointer none, Value.pointer none, Value.pointer none, Value.pointer none, Value.pointer none, Value.pointer none, Value.pointer none, Value.pointer none, Value.pointer none, Value.pointer none, Value.pointer none, Value.int .i64 0, Value.slice none 0 0, Value.slice none 0 0] (.slice none 0 0) := by
  have h := new_rc bm
  generalize #[Value.pointer (some ⟨bm, 0, none⟩), Value.slice none 0 0, Value.pointer none, Value.pointer none, Value.pointer none, Value.pointer none, Value.pointer none, Value.pointer none, Value.pointer none, Value.pointer none, Value.pointer none, Value.pointer none, Value.pointer none, Value.pointer none, Value.pointer none, Value.pointer none, Value.pointer none, Value.pointer none, Value.pointer none, Value.pointer none, Value.pointer none, Value.pointer none, Value.pointer none, Value.pointer none, Value.pointer none, Value.pointer none, Value.pointer none, Value.pointer none, Value.pointer none, Value.pointer none, Value.pointer none, Value.pointer none, Value.pointer none, Value.pointer none, Value.pointer none, Value.pointer none, Value.pointer none, Value.pointer none, Value.pointer none, Value.pointer none, Value.pointer none, Value.pointer none, Value.pointer none, Value.pointer none, Value.pointer none, Value.pointer none, Value.pointer none, Value.pointer none, Value.pointer none, Value.pointer none, Value.pointer none, Value.pointer none, Value.pointer none, Value.pointer none, Value.pointer none, Value.pointer none, Value.pointer none, Value.pointer none, Value.pointer none, Value.pointer none, Value.pointer none, Value.pointer none, Value.pointer none, Value.pointer none, Value.pointer none, Value.pointer none, Value.int .i64 0, Value.slice none 0 0, Value.slice none 0 0] = cs at *
  exact ⟨⟨Blk.made w _ _, h, World.ownsRow_nil _ _ _ _, (by intro x hx; cases hx), World.ownsRow_nil _ _ _ _, World.ownsRow_nil _ _ _ _, Nat.le_refl _, (by intro g e; cases e), (by intro g e; cases e), (by intro g e; cases e)⟩, rfl, rfl, fun i x hx => by simp at hx, fun i v hv => by simp at hv, (Below.refl _ w).alloc (Nat.le_refl _) _⟩
set_option maxHeartbeats 4000000 in
set_option maxRecDepth 100000 in
theorem New_ok {p : Option Addr} {c : Nat} (h : Reads2 w (.slice p ps.length c) ps) (hn : ps.length ≤ 64) (hl : tooLong ps = false) (h1 : ∀ l ∈ ps, ∀ x ∈ l, x.oneCell' = true) :
    Calls Try.prog 62 #[.pointer (some ⟨bm, 0, none⟩), .slice p ps.length c] w fun e w' => ∃ rp, e = .returned (.tuple #[.pointer (some ⟨rp, 0, none⟩), .int .i64 0]) ∧ Hid (∃ T vws cs tv, NewAt w w' rp bm ps ps.length T vws cs tv) := by
  have HW := within_any h (by omega)
  rw [hl] at HW
  have HW := Lib.hid HW
  have H := Lib.hid h
  have HL : Hid (∀ l ∈ ps, l.length ≤ 4096) := by
    intro l hl2
    unfold tooLong at hl
    rw [List.any_eq_false] at hl
    have := hl l hl2
    simp at this
    omega
  have H1 := Lib.hid h1
  clear h hl h1
  obtain ⟨i0, hi0, hz0, hz1, hz2⟩ := info_parts infoTh
  go_enter Try.func62, Try.ntmps62
  go_wp2_with fail
  refine HW.out.mono ?_
  rintro e w1 ⟨rfl, rfl⟩
  go_wp2_with fail
  have HNEW : Hid (∃ cs, cs = #[Value.pointer (some ⟨bm, 0, none⟩), Value.slice none 0 0, Value.pointer none, Value.pointer none, Value.pointer none, Value.pointer none, Value.pointer none, Value.pointer none, Value.pointer none, Value.pointer none, Value.pointer none, Value.pointer none, Value.pointer none, Value.pointer none, Value.pointer none, Value.pointer none, Value.pointer none, Value.pointer none, Value.pointer none, Value.pointer none, Value.pointer none, Value.pointer none, Value.pointer none, Value.pointer none, Value.pointer none, Value.pointer none, Value.pointer none, Value.pointer none, Value.pointer none, Value.pointer none, Value.pointer none, Value.pointer none, Value.pointer none, Value.pointer none, Value.pointer none, Value.pointer none, Value.pointer none, Value.pointer none, Value.pointer none, Value.pointer none, Value.pointer none, Value.pointer none, Value.pointer none, Value.pointer none, Value.pointer none, Value.pointer none, Value.pointer none, Value.pointer none, Value.pointer none, Value.pointer none, Value.pointer none, Value.pointer none, Value.pointer none, Value.pointer none, Value.pointer none, Value.pointer none, Value.pointer none, Value.pointer none, Value.pointer none, Value.pointer none, Value.pointer none, Value.pointer none, Value.pointer none, Value.pointer none, Value.pointer none, Value.pointer none, Value.int .i64 0, Value.slice none 0 0, Value.slice none 0 0] ∧ NewAt w (w.alloc (.cells cs 176)) w.heap.size bm ps 0 [] [] cs (.slice none 0 0)) := ⟨_, rfl, new_at w bm ps⟩
  obtain ⟨cs0, e0, HN0⟩ := HNEW.out
  subst e0
  have HN := Lib.hid HN0
  clear HNEW HN0
  go_loopw [23] (fun s23 wr => ∃ (k : Nat) (T : List Thr) (vws : List Nat) (cs : Array Value) (tv : Value), s23 = (.int .i64 (k : Int)) ∧ k ≤ ps.length ∧ Hid (NewAt w wr w.heap.size bm ps k T vws cs tv)) (fun i _ => ps.length - (intOf i).toNat)
  case atStart => exact ⟨0, [], [], _, _, by rfl, Nat.zero_le _, HN⟩
  case round =>
    obtain ⟨k, T, vws, cs, tv, rfl, hk, HN1⟩ := hrel
    clear HN
    generalize wr = w1 at *
    by_cases hlt : k < ps.length
    · obtain ⟨l, hl⟩ : ∃ l, ps[k]? = some l := ⟨_, List.getElem?_eq_getElem hlt⟩
      obtain ⟨vs, ⟨p', c', e, -, hc⟩, hvl, hr⟩ := H.out.below (HN1.out.bel)
      obtain ⟨u, hu⟩ : ∃ u, vs[k]? = some u := ⟨_, List.getElem?_eq_getElem (by omega)⟩
      injection e with e1 e2 e3
      subst e1 e3
      obtain ⟨b, o, rfl, hbl, c1⟩ := hc k u hu
      have hru := hr k u l hu hl
      obtain ⟨q, d, rfl, -, -⟩ := id hru
      have hl2 := HL.out l (List.mem_of_getElem? hl)
      have HC := Lib.hid (CloneP_own (w := w1.drew) (hru.below (((Fr.refl (fun _ => False) w1).drawn 1).below (fun _ _ e => e))) (by omega) (H1.out l (List.mem_of_getElem? hl)))
      have HA := Lib.hid (fun v' wa => HN1.out.mid (v' := v') (wa := wa) hl)
      clear hc hr hu hl hvl e2 hru
      go_upto_region 9 with fail
      have c2 : w1.cell? ⟨w.heap.size, 1, none⟩ = some tv := (HN1.out.rx.blk.cell 1).trans HN1.out.rx.rc.c1
      go_cut [] (fun wx => Hid (∃ T' cs' tv', NewMid w wx w.heap.size bm ps k T' vws cs' tv'))
      case first =>
        refine wp_region_held_drew (S := (fun _ => True)) (by kernel_rfl) trivial (fun hHeld => ?_)
        refine wpAnyH_take (i := 0) (v := ?vvn1) rfl (by kernel_rfl) (by kernel_rfl) (by kernel_rfl) (fun _ _ _ h => h) (Or.inl ⟨by rfl, ?hyn1⟩) hHeld ?restn1
        case hyn1 => first | (intro w hSw; go_simp; done) | (intro w hSw; go_simp; with_reducible rfl)
        try simp only [Act.put, List.setIfInBounds_toArray, List.set_cons_zero, List.set_cons_succ]
        refine wpAnyH_take (i := 1) (v := ?vvn2) rfl (by kernel_rfl) (by kernel_rfl) (by kernel_rfl) (fun _ _ _ h => h) (Or.inl ⟨by rfl, ?hyn2⟩) hHeld ?restn2
        case hyn2 => first | (intro w hSw; go_simp; done) | (intro w hSw; go_simp; with_reducible rfl)
        try simp only [Act.put, List.setIfInBounds_toArray, List.set_cons_zero, List.set_cons_succ]
        refine wpAnyH_take (i := 2) (v := ?vvn3) rfl (by kernel_rfl) (by kernel_rfl) (by kernel_rfl) (fun _ _ _ h => h) (Or.inl ⟨by rfl, ?hyn3⟩) hHeld ?restn3
        case hyn3 => first | (intro w hSw; go_simp; done) | (intro w hSw; go_simp; with_reducible rfl)
        try simp only [Act.put, List.setIfInBounds_toArray, List.set_cons_zero, List.set_cons_succ]
        refine wpAnyH_take (i := 3) (v := ?vvn4) rfl (by kernel_rfl) (by kernel_rfl) (by kernel_rfl) (fun _ _ _ h => h) (Or.inl ⟨by rfl, ?hyn4⟩) hHeld ?restn4
        case hyn4 => first | (intro w hSw; go_simp; done) | (intro w hSw; go_simp; with_reducible rfl)
        try simp only [Act.put, List.setIfInBounds_toArray, List.set_cons_zero, List.set_cons_succ]
        refine wpAnyH_take (i := 5) (v := ?vvn5) rfl (by kernel_rfl) (by kernel_rfl) (by kernel_rfl) (fun _ _ _ h => h) (Or.inl ⟨by rfl, ?hyn5⟩) hHeld ?restn5
        case hyn5 => first | (intro w hSw; go_simp; done) | (intro w hSw; go_simp; with_reducible rfl)
        try simp only [Act.put, List.setIfInBounds_toArray, List.set_cons_zero, List.set_cons_succ]
        refine wpAnyH_ready (rs := [4, 6]) (by kernel_rfl) (by simp) ?_
        refine AllReadyH.cons rfl (fun K hK => ?_) (AllReadyH.cons rfl (fun K hK => ?_) AllReadyH.nil)
        · go_simp
          refine hK.out _ _ trivial (fun hHeld => ?_)
          clear hK K
          refine wpAnyH_ready (rs := [6]) (by kernel_rfl) (by simp) ?_
          refine AllReadyH.cons rfl (fun K hK => ?_) AllReadyH.nil
          go_simp
          refine HC.out.mono ?_
          rintro e wa ⟨v', rfl, hv', hba⟩
          obtain ⟨vp, vc, rfl⟩ := bk_form hv'
          obtain ⟨a1, a2, HE⟩ := HA.out _ _ hv' hba
          clear hv' hba
          refine hK.out _ _ trivial (fun hHeld => ?_)
          clear hK K
          refine wpAnyH_take (i := 7) (v := ?vvn6) rfl (by kernel_rfl) (by kernel_rfl) (by kernel_rfl) (fun _ _ _ h => h) (Or.inl ⟨by rfl, ?hyn6⟩) hHeld ?restn6
          case hyn6 => first | (intro w hSw; go_simp; done) | (intro w hSw; go_simp; with_reducible rfl)
          try simp only [Act.put, List.setIfInBounds_toArray, List.set_cons_zero, List.set_cons_succ]
          refine wpAnyH_ready (rs := [8]) (by kernel_rfl) (by simp) ?_
          refine AllReadyH.cons rfl (fun K hK => ?_) AllReadyH.nil
          go_simp
          refine hK.out _ _ trivial (fun hHeld => ?_)
          clear hK K
          refine wpAnyH_ready (rs := [9]) (by kernel_rfl) (by simp) ?_
          refine AllReadyH.cons rfl (fun K hK => ?_) AllReadyH.nil
          refine step_append_lies _ rfl _ _ 172 rfl 0 179 i0 _ 3 40 Try.underlying172 hi0 hz0 hz1 hz2 rfl (by decide) _ k _ rfl HE.out.1 ⟨wa.heap.size, 0, none⟩ 1 1 [.slice vp l.length vc, .int .i64 0, .bool false] rfl rfl (World.news_of_block (heap_alloc_new _ _)) (by simp [Value.oneCell']) (by decide) (by unfold maxLen; omega) (by omega) (Nat.zero_le _) _ rfl ?_
          intro g cap w5 hown5 hgrow5 hat5 hlt5
          obtain ⟨q1, q2, HQ⟩ := HE.out.2 g cap w5 hown5 hgrow5 hat5
          clear hown5 hgrow5 hat5 hlt5
          refine hK.out _ _ trivial (fun hHeld => ?_)
          clear hK K
          refine wpAnyH_take (i := 10) (v := ?vvn7) rfl (by kernel_rfl) (by kernel_rfl) (by kernel_rfl) (fun _ _ _ h => h) (Or.inl ⟨by rfl, ?hyn7⟩) hHeld ?restn7
          case hyn7 => first | (intro w hSw; go_simp; done) | (intro w hSw; go_simp; with_reducible rfl)
          try simp only [Act.put, List.setIfInBounds_toArray, List.set_cons_zero, List.set_cons_succ]
          refine wpAnyH_take (i := 11) (v := ?vvn8) rfl (by kernel_rfl) (by kernel_rfl) (by kernel_rfl) (fun _ _ _ h => h) (Or.inl ⟨by rfl, ?hyn8⟩) hHeld ?restn8
          case hyn8 => first | (intro w hSw; go_simp; done) | (intro w hSw; go_simp; with_reducible rfl)
          try simp only [Act.put, List.setIfInBounds_toArray, List.set_cons_zero, List.set_cons_succ]
          refine wpAnyH_ready (rs := [12]) (by kernel_rfl) (by simp) ?_
          refine AllReadyH.cons rfl (fun K hK => ?_) AllReadyH.nil
          go_simp
          refine hK.out _ _ trivial (fun hHeld => ?_)
          clear hK K
          refine wpAnyH_done (by kernel_rfl) ?_ _
          go_wp2_with fail
          go_meet
          exact HQ
        · go_simp
          refine HC.out.mono ?_
          rintro e wa ⟨v', rfl, hv', hba⟩
          obtain ⟨vp, vc, rfl⟩ := bk_form hv'
          obtain ⟨a1, a2, HE⟩ := HA.out _ _ hv' hba
          clear hv' hba
          refine hK.out _ _ trivial (fun hHeld => ?_)
          clear hK K
          refine wpAnyH_take (i := 7) (v := ?vvn9) rfl (by kernel_rfl) (by kernel_rfl) (by kernel_rfl) (fun _ _ _ h => h) (Or.inl ⟨by rfl, ?hyn9⟩) hHeld ?restn9
          case hyn9 => first | (intro w hSw; go_simp; done) | (intro w hSw; go_simp; with_reducible rfl)
          try simp only [Act.put, List.setIfInBounds_toArray, List.set_cons_zero, List.set_cons_succ]
          refine wpAnyH_ready (rs := [4, 8]) (by kernel_rfl) (by simp) ?_
          refine AllReadyH.cons rfl (fun K hK => ?_) (AllReadyH.cons rfl (fun K hK => ?_) AllReadyH.nil)
          · go_simp
            refine hK.out _ _ trivial (fun hHeld => ?_)
            clear hK K
            refine wpAnyH_ready (rs := [8]) (by kernel_rfl) (by simp) ?_
            refine AllReadyH.cons rfl (fun K hK => ?_) AllReadyH.nil
            go_simp
            refine hK.out _ _ trivial (fun hHeld => ?_)
            clear hK K
            refine wpAnyH_ready (rs := [9]) (by kernel_rfl) (by simp) ?_
            refine AllReadyH.cons rfl (fun K hK => ?_) AllReadyH.nil
            refine step_append_lies _ rfl _ _ 172 rfl 0 179 i0 _ 3 40 Try.underlying172 hi0 hz0 hz1 hz2 rfl (by decide) _ k _ rfl HE.out.1 ⟨wa.heap.size, 0, none⟩ 1 1 [.slice vp l.length vc, .int .i64 0, .bool false] rfl rfl (World.news_of_block (heap_alloc_new _ _)) (by simp [Value.oneCell']) (by decide) (by unfold maxLen; omega) (by omega) (Nat.zero_le _) _ rfl ?_
            intro g cap w5 hown5 hgrow5 hat5 hlt5
            obtain ⟨q1, q2, HQ⟩ := HE.out.2 g cap w5 hown5 hgrow5 hat5
            clear hown5 hgrow5 hat5 hlt5
            refine hK.out _ _ trivial (fun hHeld => ?_)
            clear hK K
            refine wpAnyH_take (i := 10) (v := ?vvn10) rfl (by kernel_rfl) (by kernel_rfl) (by kernel_rfl) (fun _ _ _ h => h) (Or.inl ⟨by rfl, ?hyn10⟩) hHeld ?restn10
            case hyn10 => first | (intro w hSw; go_simp; done) | (intro w hSw; go_simp; with_reducible rfl)
            try simp only [Act.put, List.setIfInBounds_toArray, List.set_cons_zero, List.set_cons_succ]
            refine wpAnyH_take (i := 11) (v := ?vvn11) rfl (by kernel_rfl) (by kernel_rfl) (by kernel_rfl) (fun _ _ _ h => h) (Or.inl ⟨by rfl, ?hyn11⟩) hHeld ?restn11
            case hyn11 => first | (intro w hSw; go_simp; done) | (intro w hSw; go_simp; with_reducible rfl)
            try simp only [Act.put, List.setIfInBounds_toArray, List.set_cons_zero, List.set_cons_succ]
            refine wpAnyH_ready (rs := [12]) (by kernel_rfl) (by simp) ?_
            refine AllReadyH.cons rfl (fun K hK => ?_) AllReadyH.nil
            go_simp
            refine hK.out _ _ trivial (fun hHeld => ?_)
            clear hK K
            refine wpAnyH_done (by kernel_rfl) ?_ _
            go_wp2_with fail
            go_meet
            exact HQ
          · go_simp
            refine hK.out _ _ trivial (fun hHeld => ?_)
            clear hK K
            refine wpAnyH_ready (rs := [4]) (by kernel_rfl) (by simp) ?_
            refine AllReadyH.cons rfl (fun K hK => ?_) AllReadyH.nil
            go_simp
            refine hK.out _ _ trivial (fun hHeld => ?_)
            clear hK K
            refine wpAnyH_ready (rs := [9]) (by kernel_rfl) (by simp) ?_
            refine AllReadyH.cons rfl (fun K hK => ?_) AllReadyH.nil
            refine step_append_lies _ rfl _ _ 172 rfl 0 179 i0 _ 3 40 Try.underlying172 hi0 hz0 hz1 hz2 rfl (by decide) _ k _ rfl HE.out.1 ⟨wa.heap.size, 0, none⟩ 1 1 [.slice vp l.length vc, .int .i64 0, .bool false] rfl rfl (World.news_of_block (heap_alloc_new _ _)) (by simp [Value.oneCell']) (by decide) (by unfold maxLen; omega) (by omega) (Nat.zero_le _) _ rfl ?_
            intro g cap w5 hown5 hgrow5 hat5 hlt5
            obtain ⟨q1, q2, HQ⟩ := HE.out.2 g cap w5 hown5 hgrow5 hat5
            clear hown5 hgrow5 hat5 hlt5
            refine hK.out _ _ trivial (fun hHeld => ?_)
            clear hK K
            refine wpAnyH_take (i := 10) (v := ?vvn12) rfl (by kernel_rfl) (by kernel_rfl) (by kernel_rfl) (fun _ _ _ h => h) (Or.inl ⟨by rfl, ?hyn12⟩) hHeld ?restn12
            case hyn12 => first | (intro w hSw; go_simp; done) | (intro w hSw; go_simp; with_reducible rfl)
            try simp only [Act.put, List.setIfInBounds_toArray, List.set_cons_zero, List.set_cons_succ]
            refine wpAnyH_take (i := 11) (v := ?vvn13) rfl (by kernel_rfl) (by kernel_rfl) (by kernel_rfl) (fun _ _ _ h => h) (Or.inl ⟨by rfl, ?hyn13⟩) hHeld ?restn13
            case hyn13 => first | (intro w hSw; go_simp; done) | (intro w hSw; go_simp; with_reducible rfl)
            try simp only [Act.put, List.setIfInBounds_toArray, List.set_cons_zero, List.set_cons_succ]
            refine wpAnyH_ready (rs := [12]) (by kernel_rfl) (by simp) ?_
            refine AllReadyH.cons rfl (fun K hK => ?_) AllReadyH.nil
            go_simp
            refine hK.out _ _ trivial (fun hHeld => ?_)
            clear hK K
            refine wpAnyH_done (by kernel_rfl) ?_ _
            go_wp2_with fail
            go_meet
            exact HQ
      case rest =>
        obtain ⟨T2, cs2, tv2, HM⟩ := hcut.out
        obtain ⟨z, hz⟩ : ∃ z, cs2[2 + k]? = some z := ⟨_, Array.getElem?_eq_getElem (by rw [HM.rx.rc.size]; omega)⟩
        have c6 : wc.cell? ⟨w.heap.size, 2 + k, none⟩ = some z := (HM.rx.blk.cell _).trans hz
        have f6 := HM.rx.blk.cold (2 + k)
        have l6 : w.heap.size < wc.heap.size := HM.rx.blk.lt
        have n6 : ∀ o, (wc.alloc o).cell? ⟨w.heap.size, 2 + k, none⟩ = some z := fun o => (World.cell?_alloc_lt wc o _ l6).trans c6
        have m6 : ∀ o, (wc.alloc o).frozen? ⟨w.heap.size, 2 + k, none⟩ = false := fun o => by have := (HM.rx.blk.fr (((Fr.refl (fun _ => False) wc).alloc o)) id).cold (2 + k); exact this
        have HX := Lib.hid HM.view
        have hk0 : (0 : Int) ≤ (k : Int) := by omega
        have hk1 : (k : Int) < 64 := by omega
        clear HN1 HC HA c1 c2 HM hz
        go_upto_region 10 with fail
        go_region_held3 (fun _ => True) (exact trivial) (first | ((with_reducible refine (View_any _ _ _).mono ?_); rintro e w4 ⟨rfl, rfl⟩))
        all_goals
          obtain ⟨cs3, HX3⟩ := HX.out (by omega)
          go_wp2_with fail
          go_round
          case rel => exact ⟨k + 1, T2, _, cs3, tv2, by go_num, by omega, Lib.hid HX3⟩
          case measure => simp [intOf]; omega
    · obtain rfl : k = ps.length := by omega
      go_wp2
      go_ret2
      exact ⟨_, rfl, T, vws, cs, tv, HN1.out⟩
end
end Go.Proofs.Ytenlgfagfpaenaa

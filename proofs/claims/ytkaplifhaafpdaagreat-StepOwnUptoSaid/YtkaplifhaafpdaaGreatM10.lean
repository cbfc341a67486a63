/-
  The law's own proc: what it is in the heap, what an access leaves of it. No condition.
-/
import Derived.Test.YtkaplifhaafpdaaGreatM09
import Derived.Test.YtkaplifhaafpdaaGreatM07
namespace Go.Proofs.YtkaplifhaafpdaaGreat
open Go Go.RowKit
set_option linter.unusedSimpArgs false
set_option linter.unusedVariables false
/-- a proc at pb with its view, on a memory -/
structure PSt (w : World) (F : Nat → Prop) (bm v pb : Nat) (th made : Int) (A : Mem) (lv : Value) (at_ : Nat) (gv : Value) (got : List Int) : Prop where
  pm : PM w F bm A
  vw : VW w v bm th made
  pr : Blk w pb 122 #[lv, .int .i64 at_, gv]
  own : w.ownsRow 0 72 1 gv got.length (us got)
  fv : ¬ F v
  fp : ¬ F pb
  fg : ∀ g, gv.ownBlock = some g → ¬ F g
  lt : ∀ k, F k → k < w.heap.size
section
variable {w w' w1 w2 w3 w4 w5 : World} {F F' G S : Nat → Prop} {bm v pb : Nat} {th made : Int} {A A' : Mem} {lv gv : Value} {at_ : Nat} {got : List Int}
theorem PSt.fr (h : PSt w F bm v pb th made A lv at_ gv got) (hf : Fr S w w') (h1 : ∀ k, F k → ¬ S k) (h2 : ¬ S v) (h3 : ¬ S pb) (h4 : ∀ g, gv.ownBlock = some g → ¬ S g) : PSt w' F bm v pb th made A lv at_ gv got :=
  ⟨h.pm.fr hf h1, h.vw.fr hf h2, h.pr.fr hf h3, own_fr h.own hf h4, h.fv, h.fp, h.fg, fun k hk => Nat.lt_of_lt_of_le (h.lt k hk) hf.size⟩
theorem PSt.bel (h : PSt w F bm v pb th made A lv at_ gv got) (hb : Below w.heap.size w w') : PSt w' F bm v pb th made A lv at_ gv got := h.fr (Fr.of_below (S := fun _ => False) hb) (fun _ _ e => e) (fun e => e) (fun e => e) (fun _ _ e => e)
theorem PSt.next (h : PSt w F bm v pb th made A lv at_ gv got) : PSt (w.setCell ⟨pb, 1, none⟩ (.int .i64 ((at_ : Int) + 1))) F bm v pb th made A lv (at_ + 1) gv got ∧ Fr (fun k => k = pb) w (w.setCell ⟨pb, 1, none⟩ (.int .i64 ((at_ : Int) + 1))) := by
  have f : Fr (fun k => k = pb) w (w.setCell ⟨pb, 1, none⟩ (.int .i64 ((at_ : Int) + 1))) := (Fr.refl (fun k => k = pb) w).put (p := ⟨pb, 1, none⟩) (.inl rfl) _
  refine ⟨⟨h.pm.fr f (fun k hk e => h.fp (e ▸ hk)), h.vw.fr f (fun e => Blk.ne h.pr (e ▸ h.vw) (by decide) rfl), (h.pr.put 1 _).eq (by simp), own_fr h.own f (fun g e e2 => own_ne h.own h.pr (by decide) (e2 ▸ e)), h.fv, h.fp, h.fg, fun k hk => Nat.lt_of_lt_of_le (h.lt k hk) f.size⟩, f⟩
theorem PSt.did (h : PSt w F bm v pb th made A lv at_ gv got) (hD : Did w w' F bm v th made A') : PSt w' (fun k => Ext F w k ∧ k < w'.heap.size) bm v pb th (made + 1) A' lv at_ gv got ∧ Fr (fun b => F b ∨ b = v) w w' := by
  obtain ⟨hm, hv, hf⟩ := hD
  have hvl : v < w.heap.size := Blk.lt h.vw
  have hpl : pb < w.heap.size := Blk.lt h.pr
  have hpv : pb ≠ v := fun e => Blk.ne h.pr (e ▸ h.vw) (by decide) rfl
  refine ⟨⟨hm.tight, hv, h.pr.fr hf ?_, own_fr h.own hf ?_, ?_, ?_, ?_, fun k hk => hk.2⟩, hf⟩
  · rintro (e | e)
    · exact h.fp e
    · exact hpv e
  · rintro g e (e2 | e2)
    · exact h.fg g e e2
    · exact own_ne h.own h.vw (by decide) (e2 ▸ e)
  · rintro ⟨e | e, _⟩
    · exact h.fv e
    · have e : w.heap.size ≤ v := e; omega
  · rintro ⟨e | e, _⟩
    · exact h.fp e
    · have e : w.heap.size ≤ pb := e; omega
  · rintro g e ⟨e2 | e2, _⟩
    · exact h.fg g e e2
    · have := own_lt h.own e
      have e2 : w.heap.size ≤ g := e2; omega
theorem PSt.push (h : PSt w F bm v pb th made A lv at_ gv got) {wy : World} (hy : Fr (fun _ => False) w wy) {x : Int} {g c : Nat} (hown : w1.ownsRow 0 72 1 (.slice (some ⟨g, 0, none⟩) (got.length + 1) c) (got.length + 1) (us got ++ [.int .u64 x])) (hgrow : wy.grownBy w1 gv.ownBlock) (hat : gv.ownBlock = some g ∨ w.heap.size ≤ g) :
    w1.cell? ⟨pb, 2, none⟩ = some gv ∧ w1.frozen? ⟨pb, 2, none⟩ = false ∧ Hid (PSt (w1.setCell ⟨pb, 2, none⟩ (.slice (some ⟨g, 0, none⟩) (got.length + 1) c)) F bm v pb th made A lv at_ (.slice (some ⟨g, 0, none⟩) (got.length + 1) c) (got ++ [x]) ∧ Fr (fun k => k = pb ∨ gv.ownBlock = some k) w (w1.setCell ⟨pb, 2, none⟩ (.slice (some ⟨g, 0, none⟩) (got.length + 1) c))) := by
  have f1 : Fr (fun b => gv.ownBlock = some b) w w1 := (hy.mono (fun _ _ e => e.elim)).grown hgrow (fun k e => .inl e)
  have f2 : Fr (fun k => k = pb ∨ gv.ownBlock = some k) w (w1.setCell ⟨pb, 2, none⟩ (.slice (some ⟨g, 0, none⟩) (got.length + 1) c)) := (f1.mono (fun _ _ e => .inr e)).put (p := ⟨pb, 2, none⟩) (.inl (.inl rfl)) _
  have hpb := h.pr.fr f1 (own_ne h.own h.pr (by decide))
  have hgp : g ≠ pb := fun e => own_ne hown hpb (by decide) (by rw [e]; rfl)
  refine ⟨hpb.cell 2, hpb.cold 2, ⟨h.pm.fr f2 ?_, h.vw.fr f2 ?_, (hpb.put 2 _).eq (by simp), ?_, h.fv, h.fp, ?_, fun k hk => Nat.lt_of_lt_of_le (h.lt k hk) f2.size⟩, f2⟩
  · rintro k hk (rfl | e)
    · exact h.fp hk
    · exact h.fg k e hk
  · rintro (e | e)
    · exact Blk.ne h.pr (e ▸ h.vw) (by decide) rfl
    · exact own_ne h.own h.vw (by decide) e
  · have := own_fr hown ((Fr.refl (fun b => b = pb) w1).put (p := ⟨pb, 2, none⟩) (.inl rfl) (.slice (some ⟨g, 0, none⟩) (got.length + 1) c)) (by intro g' e; simp [Value.ownBlock] at e; subst e; exact hgp)
    simpa [us] using this
  · intro g' e hF
    have e : g = g' := by simpa [Value.ownBlock] using e
    subst e
    rcases hat with hat | hat
    · exact h.fg g hat hF
    · have := h.lt g hF; omega
/-- what a proc's step leaves -/
def QRel (w w' : World) (F : Nat → Prop) (bm v pb : Nat) (th made : Int) (A : Mem) (lv : Value) (at_ : Nat) (gv : Value) (got : List Int) : Prop :=
  ∃ F' gv', PSt w' F' bm v pb th made A lv at_ gv' got ∧ (∀ k, F' k → Ext F w k) ∧ (∀ g, gv'.ownBlock = some g → gv.ownBlock = some g ∨ w.heap.size ≤ g) ∧ Fr (fun k => F k ∨ k = v ∨ k = pb ∨ gv.ownBlock = some k) w w'
/-- the step's box is as it was -/
def SX (bx : Nat) (x a : Int) (w : World) : Prop := w.cell? ⟨bx, 1, none⟩ = some (.int .u64 x) ∧ w.cell? ⟨bx, 2, none⟩ = some (.int .u64 a)
theorem PSt.tell (h0 : Fr (fun k => k = pb) w w3) (h : PSt w3 F bm v pb th made A lv at_ gv got) {bx : Nat} {dc : Array Value} (hbx : Blk w3 bx 109 dc) (hbF : ¬ F bx) {x a : Int} (hx : dc[1]? = some (.int .u64 x)) (ha : dc[2]? = some (.int .u64 a)) (y : Int) (w4 : World) (hD : Did w3 w4 F bm v th made A') :
    w4.cell? ⟨pb, 2, none⟩ = some gv ∧ (∀ o, (w4.alloc o).cell? ⟨pb, 2, none⟩ = some gv) ∧ SX bx x a w4 ∧ (∀ o, SX bx x a (w4.alloc o)) ∧
      Hid ((w4.alloc (.cells #[.int .u64 y] 72)).ownsRow 0 72 1 gv got.length (us got) ∧
        ∀ g c w5, w5.ownsRow 0 72 1 (.slice (some ⟨g, 0, none⟩) (got.length + 1) c) (got.length + 1) (us got ++ [.int .u64 y]) → (w4.alloc (.cells #[.int .u64 y] 72)).grownBy w5 gv.ownBlock → (gv.ownBlock = some g ∨ g = (w4.alloc (.cells #[.int .u64 y] 72)).heap.size) →
          w5.cell? ⟨pb, 2, none⟩ = some gv ∧ w5.frozen? ⟨pb, 2, none⟩ = false ∧ SX bx x a w5 ∧ SX bx x a (w5.setCell ⟨pb, 2, none⟩ (.slice (some ⟨g, 0, none⟩) (got.length + 1) c)) ∧
            Hid (QRel w (w5.setCell ⟨pb, 2, none⟩ (.slice (some ⟨g, 0, none⟩) (got.length + 1) c)) F bm v pb th (made + 1) A' lv at_ gv (got ++ [y]))) := by
  obtain ⟨h4, f4⟩ := h.did hD
  have hb4 : Blk w4 bx 109 dc := hbx.fr f4 (by rintro (e | e); exact hbF e; exact Blk.ne hbx (e ▸ h.vw) (by decide) rfl)
  have sx : ∀ {W : World}, Blk W bx 109 dc → SX bx x a W := fun hb => ⟨(Blk.cell hb 1).trans hx, (Blk.cell hb 2).trans ha⟩
  have hy : Fr (fun _ => False) w4 (w4.alloc (.cells #[.int .u64 y] 72)) := (Fr.refl _ w4).alloc _
  refine ⟨h4.pr.cell 2, fun o => (h4.pr.alloc o).cell 2, sx hb4, fun o => sx (hb4.alloc o), own_fr h4.own hy (fun _ _ e => e), ?_⟩
  intro g c w5 hown hgrow hat
  have hat2 : gv.ownBlock = some g ∨ w4.heap.size ≤ g := hat.imp id fun e => by rw [e]; simp
  obtain ⟨r1, r2, r3⟩ := h4.push hy hown hgrow hat2
  obtain ⟨r3, f5⟩ := r3.out
  have hb5 : Blk w5 bx 109 dc := hb4.fr ((hy.mono (fun _ _ e => e.elim)).grown hgrow (fun k e => .inl e) : Fr (fun b => gv.ownBlock = some b) w4 w5) (own_ne h4.own hb4 (by decide))
  have hbp : bx ≠ pb := fun e => Blk.ne hb4 (e ▸ h4.pr) (by decide) rfl
  have hs3 := h0.size
  have hs4 := f4.size
  refine ⟨r1, r2, sx hb5, sx (hb5.far (p := ⟨pb, 2, none⟩) hbp _), _, _, r3, ?_, ?_, ?_⟩
  · rintro k ⟨e | e, _⟩
    · exact .inl e
    · have e : w3.heap.size ≤ k := e
      exact .inr (by show w.heap.size ≤ k; omega)
  · intro g' e
    have e : g = g' := by simpa [Value.ownBlock] using e
    subst e
    exact hat2.imp id (fun e => by omega)
  · refine ((h0.mono (fun k _ e => .inr (.inr (.inl e)))).trans (f4.mono ?_)).trans (f5.mono ?_)
    · rintro k _ (e | e)
      · exact .inl e
      · exact .inr (.inl e)
    · rintro k _ (e | e)
      · exact .inr (.inr (.inl e))
      · exact .inr (.inr (.inr e))
theorem PSt.tellB (h0 : Fr (fun k => k = pb) w w3) (h : PSt w3 F bm v pb th made A lv at_ gv got) {bx : Nat} {dc : Array Value} (hbx : Blk w3 bx 109 dc) (hbF : ¬ F bx) (y : Int) (w4 : World) (hD : Did w3 w4 F bm v th made A') :
    w4.cell? ⟨pb, 2, none⟩ = some gv ∧ (∀ o, (w4.alloc o).cell? ⟨pb, 2, none⟩ = some gv) ∧ Blk w4 bx 109 dc ∧ (∀ o, Blk (w4.alloc o) bx 109 dc) ∧
      Hid ((w4.alloc (.cells #[.int .u64 y] 72)).ownsRow 0 72 1 gv got.length (us got) ∧
        ∀ g c w5, w5.ownsRow 0 72 1 (.slice (some ⟨g, 0, none⟩) (got.length + 1) c) (got.length + 1) (us got ++ [.int .u64 y]) → (w4.alloc (.cells #[.int .u64 y] 72)).grownBy w5 gv.ownBlock → (gv.ownBlock = some g ∨ g = (w4.alloc (.cells #[.int .u64 y] 72)).heap.size) →
          w5.cell? ⟨pb, 2, none⟩ = some gv ∧ w5.frozen? ⟨pb, 2, none⟩ = false ∧ Blk w5 bx 109 dc ∧ Blk (w5.setCell ⟨pb, 2, none⟩ (.slice (some ⟨g, 0, none⟩) (got.length + 1) c)) bx 109 dc ∧
            Hid (QRel w (w5.setCell ⟨pb, 2, none⟩ (.slice (some ⟨g, 0, none⟩) (got.length + 1) c)) F bm v pb th (made + 1) A' lv at_ gv (got ++ [y]))) := by
  obtain ⟨h4, f4⟩ := h.did hD
  have hb4 : Blk w4 bx 109 dc := hbx.fr f4 (by rintro (e | e); exact hbF e; exact Blk.ne hbx (e ▸ h.vw) (by decide) rfl)
  have hy : Fr (fun _ => False) w4 (w4.alloc (.cells #[.int .u64 y] 72)) := (Fr.refl _ w4).alloc _
  refine ⟨h4.pr.cell 2, fun o => (h4.pr.alloc o).cell 2, hb4, fun o => hb4.alloc o, own_fr h4.own hy (fun _ _ e => e), ?_⟩
  intro g c w5 hown hgrow hat
  have hat2 : gv.ownBlock = some g ∨ w4.heap.size ≤ g := hat.imp id fun e => by rw [e]; simp
  obtain ⟨r1, r2, r3⟩ := h4.push hy hown hgrow hat2
  obtain ⟨r3, f5⟩ := r3.out
  have hb5 : Blk w5 bx 109 dc := hb4.fr ((hy.mono (fun _ _ e => e.elim)).grown hgrow (fun k e => .inl e) : Fr (fun b => gv.ownBlock = some b) w4 w5) (own_ne h4.own hb4 (by decide))
  have hbp : bx ≠ pb := fun e => Blk.ne hb4 (e ▸ h4.pr) (by decide) rfl
  have hs3 := h0.size
  have hs4 := f4.size
  refine ⟨r1, r2, hb5, hb5.far (p := ⟨pb, 2, none⟩) hbp _, _, _, r3, ?_, ?_, ?_⟩
  · rintro k ⟨e | e, _⟩
    · exact .inl e
    · have e : w3.heap.size ≤ k := e
      exact .inr (by show w.heap.size ≤ k; omega)
  · intro g' e
    have e : g = g' := by simpa [Value.ownBlock] using e
    subst e
    exact hat2.imp id (fun e => by omega)
  · refine ((h0.mono (fun k _ e => .inr (.inr (.inl e)))).trans (f4.mono ?_)).trans (f5.mono ?_)
    · rintro k _ (e | e)
      · exact .inl e
      · exact .inr (.inl e)
    · rintro k _ (e | e)
      · exact .inr (.inr (.inl e))
      · exact .inr (.inr (.inr e))
theorem step_app_u64 {ops : Array Oper} {o : Oper} {a : Act} {K : Act → World → Prop} {Q : Exit → Act → World → Prop} {E : Prop} (hgd : o.guard = none) (s x : Operand)
    (ho : o.op = .call { callee := .builtin .append, args := #[s, x], argTypes := #[107, 107] }) (base : Nat) (v : Value) (n : Nat) (xs : List Value) (hs : a.eval s = v) (hown : w.ownsRow base 72 1 v n xs)
    (ao : Option Addr) (m c : Nat) (hx : a.eval x = .slice ao m c) (news : List Value) (hl : news.length = m) (hnone : ao = none → m = 0 ∧ c = 0) (hc : ∀ ad, ao = some ad → ∀ j u, news[j]? = some u → w.cell? (ad.add j) = some u) (h1 : ∀ u ∈ news, u.oneCell' = true)
    (hb : n + m ≤ 2000000000) (hbase : base ≤ w.heap.size) (h : ∀ up uc w', w'.ownsRow base 72 1 (.slice up (n + m) uc) (n + m) (xs ++ news) → w.grownBy w' v.ownBlock → K (a.put o.dst (.slice up (n + m) uc)) w') :
    if Region.wanted o (yielded ops a.tmps) = true then Oper.wp Tryz.prog o a w K Q else E := by
  have hw : Region.wanted o (yielded ops a.tmps) = true := by simp [Region.wanted, hgd]
  rw [if_pos hw]
  obtain ⟨i0, hi, hz0, hz1, hz2⟩ := info_parts infoU
  cases ao with
  | some ad =>
    refine wp_append_own w s x 107 ho base 72 i0 _ 1 8 Tryz.underlying107 hi hz0 hz1 hz2 rfl (by decide) _ n xs hs hown ad m c news hx (by omega) (hc ad rfl) h1 (by unfold maxLen; omega) (by omega) hbase ?_
    intro v' w' h1 h2 _
    obtain ⟨up, uc, rfl⟩ := r_form h1
    exact h up uc w' h1 h2
  | none =>
    obtain ⟨rfl, rfl⟩ := hnone rfl
    have hnews : news = [] := List.eq_nil_of_length_eq_zero hl
    subst hnews
    obtain ⟨up, uc, rfl⟩ := r_form hown
    have hrun := run_append_owned_none (P := Tryz.prog) w base 107 o.type 72 i0 1 Tryz.underlying107 hi _ n xs hown
    unfold Oper.wp
    simp [execOp, ho, resolve, invoke, builtin, hs, hx, hrun, Result.andThen]
    have h2 : K (a.put o.dst (.slice up n uc)) w := by simpa using h up uc w (by simpa using hown) ⟨rfl, rfl, rfl, Nat.le_refl _, fun _ _ _ => rfl⟩
    exact h2
end
end Go.Proofs.YtkaplifhaafpdaaGreat

/-
  A book of what the program's runner told, beside both runners. No condition.
-/
import Derived.Test.YtkaplifhaafpdaaGreatMStCom
import Derived.Test.YtkaplifhaafpdaaGreatMBookAloneIE
namespace Go.Proofs.YtkaplifhaafpdaaGreat
open Go Go.RowKit
set_option linter.unusedSimpArgs false
set_option linter.unusedVariables false
/-- the book's blocks -/
def KS (bk : Nat) (lvI lvE : Value) (LI LE : List Value) (k : Nat) : Prop := k = bk ∨ lvI.ownBlock = some k ∨ lvE.ownBlock = some k ∨ inL LI k ∨ inL LE k
def bookC (lvI lvE : Value) : Array Value := #[.slice none 0 0, .slice none 0 0, lvI, .slice none 0 0, .slice none 0 0, lvE, .slice none 0 0, .slice none 0 0, .slice none 0 0, .slice none 0 0, .slice none 0 0, .slice none 0 0, .slice none 0 0, .slice none 0 0, .slice none 0 0, .slice none 0 0, .slice none 0 0, .slice none 0 0, .slice none 0 0, .slice none 0 0]
structure KB (W w : World) (U : Nat → Prop) (bk nI nE : Nat) (lvI lvE : Value) (LI LE : List Value) (CI : Nat → List Value) (NE : Nat → Nat) (CE : Nat → List Value) (labI labE : Nat → Nat) : Prop where
  blk : Blk w bk 51 (bookC lvI lvE)
  rowI : w.ownsRow W.heap.size 23 1 lvI LI.length LI
  rowE : w.ownsRow W.heap.size 59 1 lvE LE.length LE
  pI : Pcs w 3 W.heap.size labI LI CI
  pE : Pcz w 97 4 W.heap.size labE LE NE CE
  lI : LI.length = nI
  lE : LE.length = nE
  cI : ∀ j, (CI j).length ≤ 1000000000
  cE : ∀ j, NE j ≤ 1000000000
  pos : W.heap.size ≤ bk
  off : ∀ k, KS bk lvI lvE LI LE k → ¬ U k
def KBo (W w : World) (U : Nat → Prop) (bk nI nE : Nat) : Prop := ∃ lvI lvE LI LE CI NE CE labI labE, KB W w U bk nI nE lvI lvE LI LE CI NE CE labI labE
def KD (W : World) (ll : List (List Plan)) (wd q : Nat) (L : Lay) (s1 s2 : St) (bk nI nE : Nat) (w : World) : Prop := ∃ U, Duo W ll wd q L s1 s2 w U ∧ KBo W w U bk nI nE
section
variable {W w w' w1 : World} {ll : List (List Plan)} {wd q bk nI nE n c : Nat} {L : Lay} {s s1 s2 : St} {U U' S : Nat → Prop} {lvI lvE v : Value} {LI LE xs : List Value} {CI CE : Nat → List Value} {NE labI labE : Nat → Nat} {p : Option Addr}
theorem KB.start (hU : ∀ k, U k → k < w.heap.size) (hW : W.heap.size ≤ w.heap.size) : KBo W (w.alloc (.cells (bookC (.slice none 0 0) (.slice none 0 0)) 51)) U w.heap.size 0 0 := by
  refine ⟨.slice none 0 0, .slice none 0 0, [], [], fun _ => [], fun _ => 0, fun _ => [], fun _ => 0, fun _ => 0, Blk.made _ _ _, World.ownsRow_nil _ _ _ _, World.ownsRow_nil _ _ _ _, ⟨fun j v hj => by simp at hj, fun j v g hj => by simp at hj⟩, ⟨fun j v hj => by simp at hj, fun j v g hj => by simp at hj⟩, rfl, rfl, fun _ => by simp, fun _ => by simp, hW, ?_⟩
  rintro k (e | e | e | ⟨v, hv, _⟩ | ⟨v, hv, _⟩) hk
  · have := hU k hk; omega
  · simp [Value.ownBlock] at e
  · simp [Value.ownBlock] at e
  · simp at hv
  · simp at hv
theorem KB.lt (h : KB W w U bk nI nE lvI lvE LI LE CI NE CE labI labE) : ∀ k, KS bk lvI lvE LI LE k → W.heap.size ≤ k ∧ k < w.heap.size := by
  rintro k (e | e | e | ⟨v, hv, e⟩ | ⟨v, hv, e⟩)
  · subst e; exact ⟨h.pos, h.blk.lt⟩
  · exact h.rowI.lt k e
  · exact h.rowE.lt k e
  · obtain ⟨j, hj, rfl⟩ := List.getElem_of_mem hv
    exact (h.pI.own j _ (List.getElem?_eq_getElem hj)).lt k e
  · obtain ⟨j, hj, rfl⟩ := List.getElem_of_mem hv
    exact (h.pE.own j _ (List.getElem?_eq_getElem hj)).lt k e
theorem KB.fr (h : KB W w U bk nI nE lvI lvE LI LE CI NE CE labI labE) (hf : Fr S w w') (hS : ∀ k, KS bk lvI lvE LI LE k → ¬ S k) : KB W w' U bk nI nE lvI lvE LI LE CI NE CE labI labE :=
  ⟨h.blk.fr hf (hS bk (.inl rfl)), own_fr h.rowI hf (fun g e => hS g (.inr (.inl e))), own_fr h.rowE hf (fun g e => hS g (.inr (.inr (.inl e)))), h.pI.fr hf (fun k hk => hS k (.inr (.inr (.inr (.inl hk))))), h.pE.fr hf (fun k hk => hS k (.inr (.inr (.inr (.inr hk))))), h.lI, h.lE, h.cI, h.cE, h.pos, h.off⟩
theorem KBo.gk (h : KBo W w U bk nI nE) (hg : Gk w w' U U') : KBo W w' U' bk nI nE := by
  obtain ⟨lvI, lvE, LI, LE, CI, NE, CE, labI, labE, h⟩ := h
  have h2 := h.fr hg.fr h.off
  exact ⟨lvI, lvE, LI, LE, CI, NE, CE, labI, labE, h2.blk, h2.rowI, h2.rowE, h2.pI, h2.pE, h2.lI, h2.lE, h2.cI, h2.cE, h2.pos, fun k hk => hg.ne k (h.lt k hk).2 (h.off k hk)⟩
theorem KBo.bl (h : KBo W w U bk nI nE) (hb : Below w.heap.size w w') : KBo W w' U bk nI nE := by
  obtain ⟨lvI, lvE, LI, LE, CI, NE, CE, labI, labE, h⟩ := h
  exact ⟨lvI, lvE, LI, LE, CI, NE, CE, labI, labE, h.fr (Fr.of_below (S := fun _ => False) hb) (fun _ _ e => e)⟩
theorem set2 (lvI lvE lv' : Value) : (bookC lvI lvE).setIfInBounds 2 lv' = bookC lv' lvE := by simp [bookC]
theorem set5 (lvI lvE lv' : Value) : (bookC lvI lvE).setIfInBounds 5 lv' = bookC lvI lv' := by simp [bookC]
theorem KB.takeI (h : KB W w U bk nI nE lvI lvE LI LE CI NE CE labI labE) (hU : ∀ k, U k → k < w.heap.size) (hb : Below w.heap.size w w1) (hW : W.heap.size ≤ w.heap.size) (hv : w1.ownsRow w.heap.size 3 1 (.slice p n c) n xs) (hx : xs.length ≤ 1000000000) (hn : nI ≤ 10000000) :
    Calls Tryz.prog 10 #[.pointer (some ⟨bk, 0, none⟩), .slice p n c] w1 fun e w' => e = .returned (.tuple #[]) ∧ KBo W w' U bk (nI + 1) nE ∧ Fr (fun k => W.heap.size ≤ k ∧ ¬ U k) w1 w' := by
  have h1 := h.fr (Fr.of_below (S := fun _ => False) hb) (fun _ _ e => e)
  have hn1 : n = xs.length := by have := hv.1; omega
  have hs := hb.size
  refine (_root_.Go.Proofs.YtkaplifhaafpdaaGreat.takeI (lv := lvI) h1.blk rfl h1.rowI (Nat.le_trans hW hs) p n c (by rw [h.lI]; exact hn)).mono ?_
  rintro e w' ⟨rfl, lv', b2, r2, f2, g2⟩
  rw [set2] at b2
  obtain ⟨lab', hp⟩ := (h.pI.congr (C' := fun j => if j = LI.length then xs else CI j) (fun j hj => if_neg (by omega))).snoc (v := .slice p n c) (n := n) hb hW (by simpa using hv)
  refine ⟨rfl, ⟨lv', lvE, LI ++ [.slice p n c], LE, _, NE, CE, lab', labE, b2, by simpa using r2, own_fr h1.rowE f2 ?_, hp.take h1.blk h1.rowI (by decide) (by decide) f2, h1.pE.fr f2 ?_, by simp [h.lI], h.lE, fun j => ?_, h.cE, h.pos, ?_⟩, f2.mono ?_⟩
  · rintro g e (e2 | e2)
    · subst e2; exact own_ne h1.rowE h1.blk (by decide) e
    · obtain ⟨cs, hb2⟩ := bk_blk h1.rowI e2
      exact own_ne h1.rowE hb2 (by decide) e
  · rintro k ⟨u, hu, e⟩ (e2 | e2)
    · subst e2
      obtain ⟨j, hj, rfl⟩ := List.getElem_of_mem hu
      exact own_ne (h1.pE.own j _ (List.getElem?_eq_getElem hj)) h1.blk (by decide) e
    · obtain ⟨j, hj, rfl⟩ := List.getElem_of_mem hu
      obtain ⟨cs, hb2⟩ := bk_blk h1.rowI e2
      exact own_ne (h1.pE.own j _ (List.getElem?_eq_getElem hj)) hb2 (by decide) e
  · try simp only
    split
    · exact hx
    · exact h.cI j
  · rintro k (e | e | e | ⟨u, hu, e⟩ | e) hk
    · exact h.off k (.inl e) hk
    · rcases g2 k e with e2 | e2
      · exact h.off k (.inr (.inl e2)) hk
      · have := hU k hk; omega
    · exact h.off k (.inr (.inr (.inl e))) hk
    · rcases List.mem_append.1 hu with hu | hu
      · exact h.off k (.inr (.inr (.inr (.inl ⟨u, hu, e⟩)))) hk
      · rw [List.mem_singleton] at hu
        subst hu
        have := (hv.lt k e).1
        have := hU k hk
        omega
    · exact h.off k (.inr (.inr (.inr (.inr e)))) hk
  · rintro k hk (e | e)
    · exact ⟨by rw [e]; exact h.pos, h.off k (.inl e)⟩
    · exact ⟨(h.rowI.lt k e).1, h.off k (.inr (.inl e))⟩
theorem KB.takeE (h : KB W w U bk nI nE lvI lvE LI LE CI NE CE labI labE) (hU : ∀ k, U k → k < w.heap.size) (hb : Below w.heap.size w w1) (hW : W.heap.size ≤ w.heap.size) (hv : w1.ownsRow w.heap.size 97 4 (.slice p n c) n xs) (hx : n ≤ 1000000000) (hn : nE ≤ 10000000) :
    Calls Tryz.prog 8 #[.pointer (some ⟨bk, 0, none⟩), .slice p n c] w1 fun e w' => e = .returned (.tuple #[]) ∧ KBo W w' U bk nI (nE + 1) ∧ Fr (fun k => W.heap.size ≤ k ∧ ¬ U k) w1 w' := by
  have h1 := h.fr (Fr.of_below (S := fun _ => False) hb) (fun _ _ e => e)
  have hs := hb.size
  refine (_root_.Go.Proofs.YtkaplifhaafpdaaGreat.takeE (lv := lvE) h1.blk rfl h1.rowE (Nat.le_trans hW hs) p n c (by rw [h.lE]; exact hn)).mono ?_
  rintro e w' ⟨rfl, lv', b2, r2, f2, g2⟩
  rw [set5] at b2
  have hN : Pcz w 97 4 W.heap.size labE LE (fun j => if j = LE.length then n else NE j) (fun j => if j = LE.length then xs else CE j) := ⟨fun j v hj => by
    have hj2 := (List.getElem?_eq_some_iff.1 hj).1
    try simp only
    rw [if_neg (by omega), if_neg (by omega)]
    exact h.pE.own j v hj, h.pE.lab⟩
  obtain ⟨lab', hp⟩ := hN.snoc (v := .slice p n c) hb hW (by simpa using hv)
  refine ⟨rfl, ⟨lvI, lv', LI, LE ++ [.slice p n c], CI, _, _, labI, lab', b2, own_fr h1.rowI f2 ?_, by simpa using r2, h1.pI.fr f2 ?_, hp.take h1.blk h1.rowE (by decide) (by decide) f2, h.lI, by simp [h.lE], h.cI, fun j => ?_, h.pos, ?_⟩, f2.mono ?_⟩
  · rintro g e (e2 | e2)
    · subst e2; exact own_ne h1.rowI h1.blk (by decide) e
    · obtain ⟨cs, hb2⟩ := bk_blk h1.rowE e2
      exact own_ne h1.rowI hb2 (by decide) e
  · rintro k ⟨u, hu, e⟩ (e2 | e2)
    · subst e2
      obtain ⟨j, hj, rfl⟩ := List.getElem_of_mem hu
      exact own_ne (h1.pI.own j _ (List.getElem?_eq_getElem hj)) h1.blk (by decide) e
    · obtain ⟨j, hj, rfl⟩ := List.getElem_of_mem hu
      obtain ⟨cs, hb2⟩ := bk_blk h1.rowE e2
      exact own_ne (h1.pI.own j _ (List.getElem?_eq_getElem hj)) hb2 (by decide) e
  · try simp only
    split
    · exact hx
    · exact h.cE j
  · rintro k (e | e | e | e | ⟨u, hu, e⟩) hk
    · exact h.off k (.inl e) hk
    · exact h.off k (.inr (.inl e)) hk
    · rcases g2 k e with e2 | e2
      · exact h.off k (.inr (.inr (.inl e2))) hk
      · have := hU k hk; omega
    · exact h.off k (.inr (.inr (.inr (.inl e)))) hk
    · rcases List.mem_append.1 hu with hu | hu
      · exact h.off k (.inr (.inr (.inr (.inr ⟨u, hu, e⟩)))) hk
      · rw [List.mem_singleton] at hu
        subst hu
        have := (hv.lt k e).1
        have := hU k hk
        omega
  · rintro k hk (e | e)
    · exact ⟨by rw [e]; exact h.pos, h.off k (.inl e)⟩
    · exact ⟨(h.rowE.lt k e).1, h.off k (.inr (.inr (.inl e)))⟩
/-- a list that was told, and may be taken -/
def TkE (W : World) (ll : List (List Plan)) (wd q : Nat) (L : Lay) (s1 s2 : St) (bk nI nE : Nat) (v : Value) (w : World) : Prop := Calls Tryz.prog 8 #[.pointer (some ⟨bk, 0, none⟩), v] w fun e w' => e = .returned (.tuple #[]) ∧ Hid (KD W ll wd q L s1 s2 bk nI (nE + 1) w')
def TkI (W : World) (ll : List (List Plan)) (wd q : Nat) (L : Lay) (s1 s2 : St) (bk nI nE : Nat) (v : Value) (w : World) : Prop := Calls Tryz.prog 10 #[.pointer (some ⟨bk, 0, none⟩), v] w fun e w' => e = .returned (.tuple #[]) ∧ Hid (KD W ll wd q L s1 s2 bk (nI + 1) nE w')
theorem KD.tkI (h : KD W ll wd q L s1 s2 bk nI nE w) (hb : Below w.heap.size w w1) (hv : w1.ownsRow w.heap.size 3 1 v xs.length xs) (hx : xs.length ≤ 1000000000) (hn : nI ≤ 10000000) : ∃ p c, v = .slice p xs.length c ∧ Hid (TkI W ll wd q L s1 s2 bk nI nE v w1) := by
  obtain ⟨U, hd, lvI, lvE, LI, LE, CI, NE, CE, labI, labE, h⟩ := h
  obtain ⟨p, c, rfl⟩ := bk_form hv
  refine ⟨p, c, rfl, ?_⟩
  refine (h.takeI (fun k hk => (hd.pos k hk).2) hb hd.bel.size hv hx hn).mono ?_
  rintro e w' ⟨rfl, hk, hf⟩
  exact ⟨rfl, U, (hd.bl hb).fr hf (fun k e => e), hk⟩
theorem KD.tkE (h : KD W ll wd q L s1 s2 bk nI nE w) (hb : Below w.heap.size w w1) (hv : w1.ownsRow w.heap.size 97 4 v n xs) (hx : n ≤ 1000000000) (hn : nE ≤ 10000000) : ∃ p c, v = .slice p n c ∧ Hid (TkE W ll wd q L s1 s2 bk nI nE v w1) := by
  obtain ⟨U, hd, lvI, lvE, LI, LE, CI, NE, CE, labI, labE, h⟩ := h
  obtain ⟨p, c, rfl⟩ := bk_form hv
  refine ⟨p, c, rfl, ?_⟩
  refine (h.takeE (fun k hk => (hd.pos k hk).2) hb hd.bel.size hv hx hn).mono ?_
  rintro e w' ⟨rfl, hk, hf⟩
  exact ⟨rfl, U, (hd.bl hb).fr hf (fun k e => e), hk⟩
theorem KD.events (h : KD W ll wd q L s1 s2 bk nI nE w) (hs : s1.steps ≤ 40000000) (hn : nE ≤ 10000000) : Calls Tryz.prog 9 #[.pointer (some ⟨L.rp, 0, none⟩)] w fun e w1 => ∃ p n c, e = .returned (.slice p n c) ∧ Hid (TkE W ll wd q L s1 s2 bk nI nE (.slice p n c) w1) := by
  obtain ⟨U, hd, hk⟩ := id h
  obtain ⟨R, ats, cs, tv, ev, av, hx, _⟩ := hd.rx
  have := hd.oks.2.1.el
  refine (Events_any hx (by omega)).mono ?_
  rintro e w' ⟨v, rfl, h1, h2⟩
  obtain ⟨p, c, rfl, ht⟩ := h.tkE h2 h1 (by omega) hn
  exact ⟨p, _, c, rfl, ht⟩
theorem KD.at (h : KD W ll wd q L s1 s2 bk nI nE w) (hs : s1.steps ≤ 40000000) (hn : nI ≤ 10000000) : Calls Tryz.prog 11 #[.pointer (some ⟨L.rp, 0, none⟩)] w fun e w1 => ∃ p n c, e = .returned (.slice p n c) ∧ Hid (TkI W ll wd q L s1 s2 bk nI nE (.slice p n c) w1) := by
  obtain ⟨U, hd, hk⟩ := id h
  obtain ⟨R, ats, cs, tv, ev, av, hx, ha⟩ := hd.rx
  obtain ⟨F, qq, r, tv2, rows, hm⟩ := hd.pm
  have htr := hd.oks.2.1.tr
  have hwl := hd.oks.2.1.wl
  have hal : ats.length + (s1.A.trace.length - ats.length) = s1.wh.length := by rw [← ha]; simp
  refine (At_any hx (made := s1.A.trace.length) (by omega) (by omega) (Live_any hm) (fun w1 hb => ?_)).mono ?_
  · exact Made_any (hm.fr (Fr.of_below (S := fun _ => False) hb) (fun _ _ e => e))
  · rintro e w' ⟨v, rfl, h1, h2⟩
    rw [hal, ha] at h1
    have hl : s1.wh.length = (is64 s1.wh).length := by simp [is64]
    rw [hl] at h1
    obtain ⟨p, c, rfl, ht⟩ := h.tkI h2 h1 (by omega) hn
    exact ⟨p, _, c, rfl, ht⟩
theorem KD.pending (h : KD W ll wd q L s1 s2 bk nI nE w) (hf : Fits ll) (hn : nI ≤ 10000000) : Calls Tryz.prog 12 #[.pointer (some ⟨L.rp, 0, none⟩)] w fun e w1 => ∃ p n c, e = .returned (.slice p n c) ∧ Hid (TkI W ll wd q L s1 s2 bk nI nE (.slice p n c) w1) := by
  obtain ⟨U, hd, hk⟩ := id h
  obtain ⟨R, ats, cs, tv, ev, av, hx, _⟩ := hd.rx
  have hl := thrs_len hd.oks.1 hd.oks.2.1
  have hn1 := hf.n
  refine (PPending_any hx (by omega)).mono ?_
  rintro e w' ⟨v, rfl, h1, h2⟩
  have hle : ∀ (t : Nat) (l : List Thr), (tpend t l).length ≤ l.length := by
    intro t l
    induction l generalizing t with
    | nil => simp [tpend]
    | cons x l ih => simp only [tpend]; have := ih (t + 1); split <;> simp <;> omega
  have h3 := hle 0 (thrs L.PV s1.th)
  have hl2 : (tpend 0 (thrs L.PV s1.th)).length = (is64 (tpend 0 (thrs L.PV s1.th))).length := by simp [is64]
  rw [hl2] at h1
  obtain ⟨p, c, rfl, ht⟩ := h.tkI h2 h1 (by rw [← hl2]; omega) hn
  exact ⟨p, _, c, rfl, ht⟩
theorem KD.pickP (h : KD W ll wd q L s1 s2 bk nI nE w) (hn : Fits ll) (hs : s1.steps ≤ 40000000) (t : Int) : Calls Tryz.prog 6 #[.pointer (some ⟨L.rp, 0, none⟩), .int .i64 t] w fun e w' => e = .returned (.bool (!s1.idle ll t)) ∧ Hid (KD W ll wd q L (s1.one ll t) s2 bk nI nE w') := by
  obtain ⟨U, hd, hk⟩ := h
  refine (hd.pickP hn hs t).mono ?_
  rintro e w' ⟨rfl, U', h', g⟩
  exact ⟨rfl, U', h', hk.gk g⟩
theorem KD.pickZ (h : KD W ll wd q L s1 s2 bk nI nE w) (hn : Fits ll) (hs : s2.steps ≤ 40000000) (t : Int) : Calls Tryz.prog 7 #[.pointer (some ⟨q, 0, none⟩), .int .i64 t] w fun e w' => e = .returned (.bool (!s2.idle ll t)) ∧ Hid (KD W ll wd q L s1 (s2.one ll t) bk nI nE w') := by
  obtain ⟨U, hd, hk⟩ := h
  refine (hd.pickZ hn hs t).mono ?_
  rintro e w' ⟨rfl, U', h', g⟩
  exact ⟨rfl, U', h', hk.gk g⟩
theorem KD.bl (h : KD W ll wd q L s1 s2 bk nI nE w) (hb : Below w.heap.size w w') : KD W ll wd q L s1 s2 bk nI nE w' := by
  obtain ⟨U, hd, hk⟩ := h
  exact ⟨U, hd.bl hb, hk.bl hb⟩
theorem KD.twin (h : KD W ll wd q L s1 s2 bk nI nE w) : Twin W ll wd q L s1 s2 w := let ⟨U, hd, _⟩ := h; ⟨U, hd⟩
theorem KD.alone (h : KD W ll wd q L s1 s2 bk nI nE w) (hI : nI ≤ 10000000) (hE : nE ≤ 10000000) : Calls Tryz.prog 13 #[.pointer (some ⟨bk, 0, none⟩)] w fun e w' => e = .returned (.bool true) ∧ Hid (Twin W ll wd q L s1 s2 w') := by
  obtain ⟨U, hd, lvI, lvE, LI, LE, CI, NE, CE, labI, labE, h⟩ := h
  refine (BookAloneIE_any h.blk h.rowI h.pI (by rw [h.lI]; exact hI) h.cI h.rowE h.pE (by rw [h.lE]; exact hE) h.cE hd.bel.size).mono ?_
  rintro e w' ⟨rfl, hf⟩
  have hs : ∀ k, (k = bk ∨ inL LI k ∨ inL LE k) → KS bk lvI lvE LI LE k := by
    rintro k (e | e | e)
    · exact .inl e
    · exact .inr (.inr (.inr (.inl e)))
    · exact .inr (.inr (.inr (.inr e)))
  exact ⟨rfl, U, hd.fr hf (fun k hk => ⟨(h.lt k (hs k hk)).1, h.off k (hs k hk)⟩)⟩
end
end Go.Proofs.YtkaplifhaafpdaaGreat

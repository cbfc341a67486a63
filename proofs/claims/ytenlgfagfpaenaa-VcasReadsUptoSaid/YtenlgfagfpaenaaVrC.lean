/-
  A step of a call of vcas in the heap is the plain one. No condition.
-/
import Derived.Test.YtenlgfagfpaenaaVrP3
namespace Go.Proofs.Ytenlgfagfpaenaa
open Go Go.RowKit
set_option linter.unusedSimpArgs false
set_option linter.unusedVariables false
def pn : Value := .pointer none
def pp (i : Nat) : Value := .pointer (some ⟨i, 0, none⟩)
/-- a call's proc lies at k, its Inits at i and s -/
def VpAt (w : World) (cam : Int) (c : Cl) (k i s : Nat) : Vs → Prop
  | .new => (c.kind = 0 ∧ RdAt w k cam c.obj false false 0 pn 0 0) ∨ (c.kind = 1 ∧ CaAt w k cam c.obj false false 0 pn 0 c.a c.b 0 false pn 0) ∨ (c.kind = 2 ∧ PaAt w k cam c.obj false false 0 pn 0 c.a 0) ∨ (c.kind = 3 ∧ TkAt w k 0 cam c.a 0 0 0 false)
  | .find h a st => InitAt w i cam h a st ∧ i ≠ k ∧ ((c.kind = 0 ∧ RdAt w k cam c.obj true false h (pp i) 0 0) ∨ (c.kind = 1 ∧ CaAt w k cam c.obj true false h (pp i) 0 c.a c.b 0 false pn 0) ∨ (c.kind = 2 ∧ PaAt w k cam c.obj true false h (pp i) 0 c.a 0))
  | .load h => ∃ iv, (c.kind = 0 ∧ RdAt w k cam c.obj true false h iv 1 0) ∨ (c.kind = 1 ∧ CaAt w k cam c.obj true false h iv 1 c.a c.b 0 false pn 0) ∨ (c.kind = 2 ∧ PaAt w k cam c.obj true false h iv 1 c.a 0)
  | .make h => c.kind = 1 ∧ ∃ nn iv, CaAt w k cam c.obj true nn h iv 2 c.a c.b 0 false pn 0
  | .swap h n => c.kind = 1 ∧ ∃ nn iv, CaAt w k cam c.obj true nn h iv 3 c.a c.b n false pn 0
  | .look h n => c.kind = 1 ∧ ∃ nn iv se, CaAt w k cam c.obj true nn h iv 5 c.a c.b n false se 0
  | .settle h n sw ver a st => c.kind = 1 ∧ InitAt w s cam ver a st ∧ s ≠ k ∧ ∃ nn iv, CaAt w k cam c.obj true nn h iv 4 c.a c.b n sw (pp s) 0
  | .alook h => c.kind = 2 ∧ ∃ iv, PaAt w k cam c.obj true false h iv 5 c.a 0
  | .awalk h => c.kind = 2 ∧ ∃ iv, PaAt w k cam c.obj true false h iv 6 c.a 0
  | .loaded t => c.kind = 3 ∧ TkAt w k 1 cam c.a t 0 0 false
  | .done v sw => (c.kind = 0 ∧ ∃ bg nn h iv, RdAt w k cam c.obj bg nn h iv 7 v) ∨ (c.kind = 1 ∧ ∃ bg nn h iv n se er, CaAt w k cam c.obj bg nn h iv 7 c.a c.b n sw se er) ∨ (c.kind = 2 ∧ ∃ bg nn h iv, PaAt w k cam c.obj bg nn h iv 7 c.a v) ∨ (c.kind = 3 ∧ ∃ t sp e mv, TkAt w k 2 cam c.a t sp e mv)
/-- its blocks -/
def Vblk (k i s : Nat) : Vs → Nat → Prop
  | .find _ _ _, b => b = k ∨ b = i
  | .settle _ _ _ _ _ _, b => b = k ∨ b = s
  | _, b => b = k
theorem Vblk_k (k i s : Nat) (st : Vs) : Vblk k i s st k := by cases st <;> first | exact rfl | exact .inl rfl
/-- what a step leaves -/
def Wt (W : World) (ov : Vu) (A' : Mem) (cam : Int) (c : Cl) (k i s : Nat) (p : Nat → Prop) (w w' : World) (st st' : Vs) : Prop :=
  ∃ i' s' q, VpAt w' cam c k i' s' st' ∧ Mx W (some (ov.next A')) q w' ∧ (∀ b, p b → q b) ∧ (∀ b, Vblk k i' s' st' b → q b ∧ (Vblk k i s st b ∨ ¬ p b)) ∧ w.heap.size ≤ w'.heap.size ∧ ∀ b, p b → ¬ Vblk k i s st b → w'.heap[b]? = w.heap[b]?
section
variable {W w w' w1 w2 : World} {ov : Vu} {A' : Mem} {p q : Nat → Prop} {k i s nb : Nat} {cam : Int} {c : Cl} {st st' : Vs}
theorem VpAt.keep (h : VpAt w cam c k i s st) (hk : ∀ b, Vblk k i s st b → w'.heap[b]? = w.heap[b]?) : VpAt w' cam c k i s st := by
  have hkk := hk k (Vblk_k k i s st)
  have B : ∀ {t : TypeId} {cs : Array Value}, Blk w k t cs → Blk w' k t cs := fun h => hkk.trans h
  cases st with
  | new => exact h.imp (fun h => ⟨h.1, B h.2⟩) fun h => h.imp (fun h => ⟨h.1, B h.2⟩) fun h => h.imp (fun h => ⟨h.1, B h.2⟩) fun h => ⟨h.1, B h.2⟩
  | find x a y => exact ⟨(hk i (.inr rfl)).trans h.1, h.2.1, h.2.2.imp (fun h => ⟨h.1, B h.2⟩) fun h => h.imp (fun h => ⟨h.1, B h.2⟩) fun h => ⟨h.1, B h.2⟩⟩
  | load x => exact let ⟨iv, h⟩ := h; ⟨iv, h.imp (fun h => ⟨h.1, B h.2⟩) fun h => h.imp (fun h => ⟨h.1, B h.2⟩) fun h => ⟨h.1, B h.2⟩⟩
  | make x => exact let ⟨h1, nn, iv, h⟩ := h; ⟨h1, nn, iv, B h⟩
  | swap x n => exact let ⟨h1, nn, iv, h⟩ := h; ⟨h1, nn, iv, B h⟩
  | look x n => exact let ⟨h1, nn, iv, se, h⟩ := h; ⟨h1, nn, iv, se, B h⟩
  | settle x n sw ver a y => exact let ⟨h1, h2, h3, nn, iv, h⟩ := h; ⟨h1, (hk s (.inr rfl)).trans h2, h3, nn, iv, B h⟩
  | alook x => exact let ⟨h1, iv, h⟩ := h; ⟨h1, iv, B h⟩
  | awalk x => exact let ⟨h1, iv, h⟩ := h; ⟨h1, iv, B h⟩
  | loaded t => exact ⟨h.1, B h.2⟩
  | done v sw => exact h.imp (fun ⟨h1, bg, nn, x, iv, h⟩ => ⟨h1, bg, nn, x, iv, B h⟩) fun h => h.imp (fun ⟨h1, bg, nn, x, iv, n, se, er, h⟩ => ⟨h1, bg, nn, x, iv, n, se, er, B h⟩) fun h => h.imp (fun ⟨h1, bg, nn, x, iv, h⟩ => ⟨h1, bg, nn, x, iv, B h⟩) fun ⟨h1, t, sp, e, mv, h⟩ => ⟨h1, t, sp, e, mv, B h⟩
theorem Wt.stay (h : VpAt w' cam c k i s st') (hm : Mx W (some (ov.next A')) p w') (hk : w.heap.size ≤ w'.heap.size ∧ ∀ b, p b → ¬ Vblk k i s st b → w'.heap[b]? = w.heap[b]?) (hp : ∀ b, Vblk k i s st b → p b) (hV : ∀ b, Vblk k i s st' b → Vblk k i s st b) : Wt W ov A' cam c k i s p w w' st st' :=
  ⟨i, s, p, h, hm, fun _ h => h, fun b hb => ⟨hp b (hV b hb), .inl (hV b hb)⟩, hk⟩
theorem Kb.out (h : Kb p k w w') : w.heap.size ≤ w'.heap.size ∧ ∀ b, p b → ¬ Vblk k i s st b → w'.heap[b]? = w.heap[b]? := ⟨h.1, fun b hb hn => h.2 b ⟨hb, fun e => hn (e ▸ Vblk_k k i s st)⟩⟩
theorem Wt.newI (h : VpAt w' cam c k nb s st') (hm : Mx W (some (ov.next A')) (fun x => p x ∨ x = nb) w') (hk : Kb p k w w') (hn : ¬ p nb) (hp : p k) (hV : ∀ b, Vblk k nb s st' b → b = k ∨ b = nb) : Wt W ov A' cam c k i s p w w' st st' :=
  ⟨nb, s, _, h, hm, fun _ h => .inl h, fun b hb => (hV b hb).elim (fun e => ⟨.inl (e ▸ hp), .inl (e ▸ Vblk_k k i s st)⟩) fun e => ⟨.inr e, .inr (e ▸ hn)⟩, Kb.out hk⟩
theorem Wt.newS (h : VpAt w' cam c k i nb st') (hm : Mx W (some (ov.next A')) (fun x => p x ∨ x = nb) w') (hk : Kb p k w w') (hn : ¬ p nb) (hp : p k) (hV : ∀ b, Vblk k i nb st' b → b = k ∨ b = nb) : Wt W ov A' cam c k i s p w w' st st' :=
  ⟨i, nb, _, h, hm, fun _ h => .inl h, fun b hb => (hV b hb).elim (fun e => ⟨.inl (e ▸ hp), .inl (e ▸ Vblk_k k i s st)⟩) fun e => ⟨.inr e, .inr (e ▸ hn)⟩, Kb.out hk⟩
theorem beq_dec (y : Int) : (y == 0) = decide (y = 0) := by by_cases h : y = 0 <;> simp [h]
theorem Rd_step (hkd : c.kind = 0) (h : VpAt w cam c k i s st) (hm : Mx W (some ov) p w) (hp : ∀ b, Vblk k i s st b → p b) (may : c.may st) (hc : 0 ≤ cam) (ho : 0 ≤ c.obj) (hnf : st.fin = false) (hk : Ok (some (ov.next (c.step cam ov.th ov.A st).1))) :
    Calls Try.prog 20 #[.pointer (some ⟨k, 0, none⟩), vv (some ov)] w fun e w' => e = .returned (.bool (c.step cam ov.th ov.A st).2.fin) ∧ Wt W ov (c.step cam ov.th ov.A st).1 cam c k i s p w w' st (c.step cam ov.th ov.A st).2 := by
  have hpk := hp k (Vblk_k k i s st)
  cases st with
  | new =>
    rcases h with ⟨_, h⟩ | ⟨h1, _⟩ | ⟨h1, _⟩ | ⟨h1, _⟩
    · have e1 : c.step cam ov.th ov.A .new = (ov.A.load ov.th c.obj, if ov.A.peek c.obj ≠ 0 then .find (ov.A.peek c.obj) 0 0 else .done 0 false) := by simp [Cl.step, hkd]
      rw [e1] at hk ⊢
      refine (Read_0 (o := some ov) h hm hpk ho _ rfl hk).mono ?_
      rintro e w' ⟨rfl, nb, h1, h2, h3, h4, h5⟩
      have e2 : pk (some ov) c.obj = ov.A.peek c.obj := rfl
      rw [e2] at h1 h2 ⊢
      by_cases hy : ov.A.peek c.obj = 0
      · rw [hy] at h1
        simp only [hy, ne_eq, not_true_eq_false, if_false]
        exact ⟨rfl, Wt.newI (nb := nb) (.inl ⟨hkd, true, true, 0, _, h1⟩) h3 h4 h5 hpk fun b hb => .inl hb⟩
      · have hz : (ov.A.peek c.obj == 0) = false := by simpa using hy
        simp only [hy, ne_eq, not_false_eq_true, if_true]
        rw [hz, if_neg hy] at h1
        exact ⟨by rw [hz]; rfl, Wt.newI (nb := nb) ⟨h2, fun e => h5 (e ▸ hpk), .inl ⟨hkd, h1⟩⟩ h3 h4 h5 hpk fun b hb => hb⟩
    · omega
    · omega
    · omega
  | find x a y =>
    obtain ⟨hI, hik, h⟩ := h
    have hpi := hp i (.inr rfl)
    have ha : a ≤ 2 := may.2.2.2.1
    rcases h with ⟨_, h⟩ | ⟨h1, _⟩ | ⟨h1, _⟩
    · have hk' : Ok (some (ov.next (ist cam ov.th ov.A x a y).1)) := hk
      refine (Read_1 (at_ := 0) h (Init_s hI ha hm hpi hc hk') (fun w' hw => hw.2.2.blk h hpk (fun e => hik e.symm))).mono ?_
      rintro e w' ⟨rfl, w2, ⟨h1, h2, h3⟩, rfl⟩
      have hb2 : RdAt w2 k cam c.obj true false x (pp i) 0 0 := h3.blk h hpk (fun e => hik e.symm)
      have hK : w.heap.size ≤ w2.heap.size ∧ ∀ b, p b → ¬ Vblk k i s (.find x a y) b → w2.heap[b]? = w.heap[b]? := ⟨h3.1, fun b hb hn => h3.2 b ⟨hb, fun e => hn (.inr e)⟩⟩
      have e1 : c.step cam ov.th ov.A (.find x a y) = ((ist cam ov.th ov.A x a y).1, if (ist cam ov.th ov.A x a y).2.1 = 3 then .load x else .find x (ist cam ov.th ov.A x a y).2.1 (ist cam ov.th ov.A x a y).2.2) := by simp [Cl.step, hkd]
      rw [e1]
      by_cases hz : (ist cam ov.th ov.A x a y).2.1 = 3
      · simp only [hz, if_true, decide_true]
        have hKb : Kb p k w2 (w2.setCell ⟨k, 6, none⟩ (.int .i64 1)) := Kb.put k 6 _
        refine ⟨rfl, Wt.stay ⟨pp i, .inl ⟨hkd, (Blk.put hb2 6 (.int .i64 1)).eq (by simp [headC])⟩⟩ (h2.put hpk 6 _) ⟨Nat.le_trans hK.1 hKb.1, fun b hb hn => (hKb.2 b ⟨hb, fun e => hn (.inl e)⟩).trans (hK.2 b hb hn)⟩ hp fun b hb => .inl hb⟩
      · simp only [hz, if_false, decide_false, Bool.false_eq_true]
        exact ⟨rfl, Wt.stay ⟨h1, hik, .inl ⟨hkd, hb2⟩⟩ h2 hK hp fun b hb => hb⟩
    · omega
    · omega
  | load x =>
    obtain ⟨iv, h⟩ := h
    rcases h with ⟨_, h⟩ | ⟨h1, _⟩ | ⟨h1, _⟩
    · have e1 : c.step cam ov.th ov.A (.load x) = (ov.A.load ov.th x, .done (ov.A.peek x) false) := by simp [Cl.step, hkd]
      rw [e1] at hk ⊢
      refine (Read_2 (o := some ov) h hm hpk may.2.2 _ rfl hk).mono ?_
      rintro e w' ⟨rfl, h1, h2, h3⟩
      exact ⟨rfl, Wt.stay (.inl ⟨hkd, _, _, _, _, h1⟩) h2 (Kb.out h3) hp fun b hb => hb⟩
    · omega
    · omega
  | make x => obtain ⟨h1, _⟩ := h; omega
  | swap x n => obtain ⟨h1, _⟩ := h; omega
  | look x n => obtain ⟨h1, _⟩ := h; omega
  | settle x n sw ver a y => obtain ⟨h1, _⟩ := h; omega
  | alook x => obtain ⟨h1, _⟩ := h; omega
  | awalk x => obtain ⟨h1, _⟩ := h; omega
  | loaded t => obtain ⟨h1, _⟩ := h; omega
  | done v sw => cases hnf
theorem Pa_step (hkd : c.kind = 2) (h : VpAt w cam c k i s st) (hm : Mx W (some ov) p w) (hp : ∀ b, Vblk k i s st b → p b) (may : c.may st) (hc : 0 ≤ cam) (ho : 0 ≤ c.obj) (hnf : st.fin = false) (hk : Ok (some (ov.next (c.step cam ov.th ov.A st).1))) :
    Calls Try.prog 22 #[.pointer (some ⟨k, 0, none⟩), vv (some ov)] w fun e w' => e = .returned (.bool (c.step cam ov.th ov.A st).2.fin) ∧ Wt W ov (c.step cam ov.th ov.A st).1 cam c k i s p w w' st (c.step cam ov.th ov.A st).2 := by
  have hpk := hp k (Vblk_k k i s st)
  cases st with
  | new =>
    rcases h with ⟨h1, _⟩ | ⟨h1, _⟩ | ⟨_, h⟩ | ⟨h1, _⟩
    · omega
    · omega
    · have e1 : c.step cam ov.th ov.A .new = (ov.A.load ov.th c.obj, if ov.A.peek c.obj ≠ 0 then .find (ov.A.peek c.obj) 0 0 else .done 0 false) := by simp [Cl.step, hkd]
      rw [e1] at hk ⊢
      refine (At_new (o := some ov) h hm hpk ho _ rfl hk).mono ?_
      rintro e w' ⟨rfl, nb, h1, h2, h3, h4, h5⟩
      have e2 : pk (some ov) c.obj = ov.A.peek c.obj := rfl
      rw [e2] at h1 h2 ⊢
      by_cases hy : ov.A.peek c.obj = 0
      · rw [hy] at h1
        simp only [hy, ne_eq, not_true_eq_false, if_false]
        exact ⟨rfl, Wt.newI (nb := nb) (.inr (.inr (.inl ⟨hkd, true, true, 0, _, h1⟩))) h3 h4 h5 hpk fun b hb => .inl hb⟩
      · have hz : (ov.A.peek c.obj == 0) = false := by simpa using hy
        simp only [hy, ne_eq, not_false_eq_true, if_true]
        rw [hz, if_neg hy] at h1
        exact ⟨by rw [hz]; rfl, Wt.newI (nb := nb) ⟨h2, fun e => h5 (e ▸ hpk), .inr (.inr ⟨hkd, h1⟩)⟩ h3 h4 h5 hpk fun b hb => hb⟩
    · omega
  | find x a y =>
    obtain ⟨hI, hik, h⟩ := h
    have hpi := hp i (.inr rfl)
    have ha : a ≤ 2 := may.2.2.2.1
    rcases h with ⟨h1, _⟩ | ⟨h1, _⟩ | ⟨_, h⟩
    · omega
    · omega
    · have hk' : Ok (some (ov.next (ist cam ov.th ov.A x a y).1)) := hk
      refine (At_find (at_ := 0) h (Init_s hI ha hm hpi hc hk') (fun w' hw => hw.2.2.blk h hpk (fun e => hik e.symm))).mono ?_
      rintro e w' ⟨rfl, w2, ⟨h1, h2, h3⟩, rfl⟩
      have hb2 : PaAt w2 k cam c.obj true false x (pp i) 0 c.a 0 := h3.blk h hpk (fun e => hik e.symm)
      have hK : w.heap.size ≤ w2.heap.size ∧ ∀ b, p b → ¬ Vblk k i s (.find x a y) b → w2.heap[b]? = w.heap[b]? := ⟨h3.1, fun b hb hn => h3.2 b ⟨hb, fun e => hn (.inr e)⟩⟩
      have e1 : c.step cam ov.th ov.A (.find x a y) = ((ist cam ov.th ov.A x a y).1, if (ist cam ov.th ov.A x a y).2.1 = 3 then .alook x else .find x (ist cam ov.th ov.A x a y).2.1 (ist cam ov.th ov.A x a y).2.2) := by simp [Cl.step, hkd]
      rw [e1]
      by_cases hz : (ist cam ov.th ov.A x a y).2.1 = 3
      · simp only [hz, if_true, decide_true]
        have hKb : Kb p k w2 (w2.setCell ⟨k, 6, none⟩ (.int .i64 5)) := Kb.put k 6 _
        refine ⟨rfl, Wt.stay ⟨hkd, pp i, (Blk.put hb2 6 (.int .i64 5)).eq (by simp [headC])⟩ (h2.put hpk 6 _) ⟨Nat.le_trans hK.1 hKb.1, fun b hb hn => (hKb.2 b ⟨hb, fun e => hn (.inl e)⟩).trans (hK.2 b hb hn)⟩ hp fun b hb => .inl hb⟩
      · simp only [hz, if_false, decide_false, Bool.false_eq_true]
        exact ⟨rfl, Wt.stay ⟨h1, hik, .inr (.inr ⟨hkd, hb2⟩)⟩ h2 hK hp fun b hb => hb⟩
  | load x =>
    obtain ⟨iv, h⟩ := h
    rcases h with ⟨h1, _⟩ | ⟨h1, _⟩ | ⟨_, h⟩
    · omega
    · omega
    · have e1 : c.step cam ov.th ov.A (.load x) = (ov.A.load ov.th x, .done (ov.A.peek x) false) := by simp [Cl.step, hkd]
      rw [e1] at hk ⊢
      refine (At_load (o := some ov) h hm hpk may.2.2 _ rfl hk).mono ?_
      rintro e w' ⟨rfl, h1, h2, h3⟩
      exact ⟨rfl, Wt.stay (.inr (.inr (.inl ⟨hkd, _, _, _, _, h1⟩))) h2 (Kb.out h3) hp fun b hb => hb⟩
  | make x => obtain ⟨h1, _⟩ := h; omega
  | swap x n => obtain ⟨h1, _⟩ := h; omega
  | look x n => obtain ⟨h1, _⟩ := h; omega
  | settle x n sw ver a y => obtain ⟨h1, _⟩ := h; omega
  | alook x =>
    obtain ⟨_, iv, h⟩ := h
    have e1 : c.step cam ov.th ov.A (.alook x) = (ov.A.load ov.th (wr64 (x + 1)), if c.a < ov.A.peek (wr64 (x + 1)) then .awalk x else .load x) := rfl
    rw [e1] at hk ⊢
    refine (At_look (o := some ov) h hm hpk _ rfl hk).mono ?_
    rintro e w' ⟨rfl, h1, h2, h3⟩
    have e2 : pk (some ov) (wr64 (x + 1)) = ov.A.peek (wr64 (x + 1)) := rfl
    rw [e2] at h1
    by_cases hy : c.a < ov.A.peek (wr64 (x + 1))
    · simp only [hy, if_true] at h1 ⊢
      exact ⟨rfl, Wt.stay ⟨hkd, _, h1⟩ h2 (Kb.out h3) hp fun b hb => hb⟩
    · simp only [hy, if_false] at h1 ⊢
      exact ⟨rfl, Wt.stay ⟨_, .inr (.inr ⟨hkd, h1⟩)⟩ h2 (Kb.out h3) hp fun b hb => hb⟩
  | awalk x =>
    obtain ⟨_, iv, h⟩ := h
    have e1 : c.step cam ov.th ov.A (.awalk x) = (ov.A.load ov.th (wr64 (x + 2)), if ov.A.peek (wr64 (x + 2)) = 0 then .done 0 false else .alook (ov.A.peek (wr64 (x + 2)))) := rfl
    rw [e1] at hk ⊢
    refine (At_walk (o := some ov) h hm hpk _ rfl hk).mono ?_
    rintro e w' ⟨rfl, h1, h2, h3⟩
    have e2 : pk (some ov) (wr64 (x + 2)) = ov.A.peek (wr64 (x + 2)) := rfl
    rw [e2] at h1 ⊢
    by_cases hy : ov.A.peek (wr64 (x + 2)) = 0
    · simp only [hy, if_true] at h1 ⊢
      exact ⟨rfl, Wt.stay (.inr (.inr (.inl ⟨hkd, _, _, _, _, h1⟩))) h2 (Kb.out h3) hp fun b hb => hb⟩
    · have hz : (ov.A.peek (wr64 (x + 2)) == 0) = false := by simpa using hy
      simp only [hy, if_false] at h1 ⊢
      exact ⟨by rw [hz]; rfl, Wt.stay ⟨hkd, _, h1⟩ h2 (Kb.out h3) hp fun b hb => hb⟩
  | loaded t => obtain ⟨h1, _⟩ := h; omega
  | done v sw => cases hnf
theorem cmp_at {nn : Bool} {h : Int} {iv : Value} (hkd : c.kind = 1) (v : Int) (hb : CaAt w k cam c.obj true nn h iv (cmpA c.a c.b v) c.a c.b 0 (cmpS c.a c.b v false) pn 0) : VpAt w cam c k i s (cmpv c h v) ∧ (cmpA c.a c.b v == 7) = (cmpv c h v).fin ∧ ∀ b, Vblk k i s (cmpv c h v) b → b = k := by
  by_cases h1 : v ≠ c.a
  · have e1 : cmpA c.a c.b v = 7 := if_pos h1
    have e2 : cmpS c.a c.b v false = false := if_pos h1
    have e3 : cmpv c h v = .done 0 false := if_pos h1
    rw [e1, e2] at hb
    rw [e1, e3]
    exact ⟨.inr (.inl ⟨hkd, _, _, _, _, _, _, _, hb⟩), rfl, fun b hb => hb⟩
  · by_cases h2 : c.a = c.b
    · have e1 : cmpA c.a c.b v = 7 := (if_neg h1).trans (if_pos h2)
      have e2 : cmpS c.a c.b v false = true := (if_neg h1).trans (if_pos h2)
      have e3 : cmpv c h v = .done 0 true := (if_neg h1).trans (if_pos h2)
      rw [e1, e2] at hb
      rw [e1, e3]
      exact ⟨.inr (.inl ⟨hkd, _, _, _, _, _, _, _, hb⟩), rfl, fun b hb => hb⟩
    · have e1 : cmpA c.a c.b v = 2 := (if_neg h1).trans (if_neg h2)
      have e2 : cmpS c.a c.b v false = false := (if_neg h1).trans (if_neg h2)
      have e3 : cmpv c h v = .make h := (if_neg h1).trans (if_neg h2)
      rw [e1, e2] at hb
      rw [e1, e3]
      exact ⟨⟨hkd, _, _, hb⟩, rfl, fun b hb => hb⟩
theorem Ca_step (hkd : c.kind = 1) (h : VpAt w cam c k i s st) (hm : Mx W (some ov) p w) (hp : ∀ b, Vblk k i s st b → p b) (may : c.may st) (hc : 0 ≤ cam) (ho : 0 ≤ c.obj) (hnf : st.fin = false) (hk : Ok (some (ov.next (c.step cam ov.th ov.A st).1))) :
    Calls Try.prog 21 #[.pointer (some ⟨k, 0, none⟩), vv (some ov)] w fun e w' => e = .returned (.bool (c.step cam ov.th ov.A st).2.fin) ∧ Wt W ov (c.step cam ov.th ov.A st).1 cam c k i s p w w' st (c.step cam ov.th ov.A st).2 := by
  have hpk := hp k (Vblk_k k i s st)
  cases st with
  | new =>
    rcases h with ⟨h1, _⟩ | ⟨_, h⟩ | ⟨h1, _⟩ | ⟨h1, _⟩
    · omega
    · have e1 : c.step cam ov.th ov.A .new = (ov.A.load ov.th c.obj, if ov.A.peek c.obj ≠ 0 then .find (ov.A.peek c.obj) 0 0 else cmpv c 0 0) := by simp [Cl.step, hkd]
      rw [e1] at hk ⊢
      by_cases hy : ov.A.peek c.obj = 0
      · simp only [hy, ne_eq, not_true_eq_false, if_false] at hk ⊢
        refine (Cas_new_none (o := some ov) h hm hpk ho hy hk).mono ?_
        rintro e w' ⟨rfl, iv', h1, h2, h3⟩
        obtain ⟨q1, q2, q3⟩ := cmp_at (i := i) (s := s) hkd 0 h1
        rw [q2]
        exact ⟨rfl, Wt.stay q1 h2 (Kb.out h3) hp fun b hb => q3 b hb⟩
      · simp only [hy, ne_eq, not_false_eq_true, if_true] at hk ⊢
        refine (Cas_new_some (o := some ov) h hm hpk ho _ rfl hy hk).mono ?_
        rintro e w' ⟨rfl, nb, h1, h2, h3, h4, h5⟩
        exact ⟨rfl, Wt.newI (nb := nb) ⟨h2, fun e => h5 (e ▸ hpk), .inr (.inl ⟨hkd, h1⟩)⟩ h3 h4 h5 hpk fun b hb => hb⟩
    · omega
    · omega
  | find x a y =>
    obtain ⟨hI, hik, h⟩ := h
    have hpi := hp i (.inr rfl)
    have ha : a ≤ 2 := may.2.2.2.1
    rcases h with ⟨h1, _⟩ | ⟨_, h⟩ | ⟨h1, _⟩
    · omega
    · have hk' : Ok (some (ov.next (ist cam ov.th ov.A x a y).1)) := hk
      refine (Cas_find (at_ := 0) h (Init_s hI ha hm hpi hc hk') (fun w' hw => hw.2.2.blk h hpk (fun e => hik e.symm))).mono ?_
      rintro e w' ⟨rfl, w2, ⟨h1, h2, h3⟩, rfl⟩
      have hb2 : CaAt w2 k cam c.obj true false x (pp i) 0 c.a c.b 0 false pn 0 := h3.blk h hpk (fun e => hik e.symm)
      have hK : w.heap.size ≤ w2.heap.size ∧ ∀ b, p b → ¬ Vblk k i s (.find x a y) b → w2.heap[b]? = w.heap[b]? := ⟨h3.1, fun b hb hn => h3.2 b ⟨hb, fun e => hn (.inr e)⟩⟩
      have e1 : c.step cam ov.th ov.A (.find x a y) = ((ist cam ov.th ov.A x a y).1, if (ist cam ov.th ov.A x a y).2.1 = 3 then .load x else .find x (ist cam ov.th ov.A x a y).2.1 (ist cam ov.th ov.A x a y).2.2) := by simp [Cl.step, hkd]
      rw [e1]
      by_cases hz : (ist cam ov.th ov.A x a y).2.1 = 3
      · simp only [hz, if_true, decide_true]
        have hKb : Kb p k w2 (w2.setCell ⟨k, 6, none⟩ (.int .i64 1)) := Kb.put k 6 _
        refine ⟨rfl, Wt.stay ⟨pp i, .inr (.inl ⟨hkd, (Blk.put hb2 6 (.int .i64 1)).eq (by simp [headC])⟩)⟩ (h2.put hpk 6 _) ⟨Nat.le_trans hK.1 hKb.1, fun b hb hn => (hKb.2 b ⟨hb, fun e => hn (.inl e)⟩).trans (hK.2 b hb hn)⟩ hp fun b hb => .inl hb⟩
      · simp only [hz, if_false, decide_false, Bool.false_eq_true]
        exact ⟨rfl, Wt.stay ⟨h1, hik, .inr (.inl ⟨hkd, hb2⟩)⟩ h2 hK hp fun b hb => hb⟩
    · omega
  | load x =>
    obtain ⟨iv, h⟩ := h
    rcases h with ⟨h1, _⟩ | ⟨_, h⟩ | ⟨h1, _⟩
    · omega
    · have e1 : c.step cam ov.th ov.A (.load x) = (ov.A.load ov.th x, cmpv c x (ov.A.peek x)) := by simp [Cl.step, hkd]
      rw [e1] at hk ⊢
      refine (Cas_load (o := some ov) h hm hpk may.2.2 _ rfl hk).mono ?_
      rintro e w' ⟨rfl, h1, h2, h3⟩
      obtain ⟨q1, q2, q3⟩ := cmp_at (i := i) (s := s) hkd _ h1
      have e2 : pk (some ov) x = ov.A.peek x := rfl
      rw [e2] at q1 q2 q3 ⊢
      rw [q2]
      exact ⟨rfl, Wt.stay q1 h2 (Kb.out h3) hp fun b hb => q3 b hb⟩
    · omega
  | make x =>
    obtain ⟨_, nn, iv, h⟩ := h
    refine (Cas_1 (o := some ov) h hm hpk rfl hk).mono ?_
    rintro e w' ⟨rfl, h1, h2, h3⟩
    have e2 : sp (some ov) [c.b, 0, x] = ov.A.spot [c.b, 0, x] := rfl
    have e1 : c.step cam ov.th ov.A (.make x) = (ov.A.alloc ov.th [c.b, 0, x], if ov.A.spot [c.b, 0, x] = 0 then .done 0 false else .swap x (ov.A.spot [c.b, 0, x])) := rfl
    rw [e2] at h1 ⊢
    rw [e1]
    by_cases hz : ov.A.spot [c.b, 0, x] = 0
    · simp only [hz, if_true] at h1 ⊢
      exact ⟨rfl, Wt.stay (.inr (.inl ⟨hkd, _, _, _, _, _, _, _, h1⟩)) h2 (Kb.out h3) hp fun b hb => hb⟩
    · have hz2 : (ov.A.spot [c.b, 0, x] == 0) = false := by simpa using hz
      simp only [hz, if_false] at h1 ⊢
      exact ⟨by rw [hz2]; rfl, Wt.stay ⟨hkd, _, _, h1⟩ h2 (Kb.out h3) hp fun b hb => hb⟩
  | swap x n =>
    obtain ⟨_, nn, iv, h⟩ := h
    refine (Cas_swap (o := some ov) (ov.A.hit c.obj x) h hm hpk ho rfl hk).mono ?_
    rintro e w' ⟨rfl, nb, h1, h2, h3, h4, h5⟩
    have e1 : c.step cam ov.th ov.A (.swap x n) = (ov.A.cas ov.th c.obj x n, if ov.A.hit c.obj x then .settle x n true n 0 0 else .look x n) := rfl
    rw [e1]
    cases hb : ov.A.hit c.obj x
    · rw [hb] at h1
      refine ⟨rfl, nb, s, _, ⟨hkd, _, _, _, h1⟩, h3, fun _ h => .inl h, fun b hb => ⟨.inl (hb ▸ hpk), .inl (hb ▸ Vblk_k k i s _)⟩, Kb.out h4⟩
    · rw [hb] at h1
      exact ⟨rfl, Wt.newS (nb := nb) ⟨hkd, h2, fun e => h5 (e ▸ hpk), _, _, h1⟩ h3 h4 h5 hpk fun b hb => hb⟩
  | look x n =>
    obtain ⟨_, nn, iv, se, h⟩ := h
    refine (Cas_look (o := some ov) h hm hpk ho _ rfl hk).mono ?_
    rintro e w' ⟨rfl, nb, h1, h2, h3, h4, h5⟩
    exact ⟨rfl, Wt.newS (nb := nb) ⟨hkd, h2, fun e => h5 (e ▸ hpk), _, _, h1⟩ h3 h4 h5 hpk fun b hb => hb⟩
  | settle x n sw ver a y =>
    obtain ⟨_, hI, hsk, nn, iv, h⟩ := h
    have hps := hp s (.inr rfl)
    have ha : a ≤ 2 := may.2.2.1
    have hk' : Ok (some (ov.next (ist cam ov.th ov.A ver a y).1)) := hk
    refine (Cas_3 h (Init_s hI ha hm hps hc hk') (fun w' hw => hw.2.2.blk h hpk (fun e => hsk e.symm))).mono ?_
    rintro e w' ⟨rfl, w2, ⟨h1, h2, h3⟩, rfl⟩
    have hb2 : CaAt w2 k cam c.obj true nn x iv 4 c.a c.b n sw (pp s) 0 := h3.blk h hpk (fun e => hsk e.symm)
    have hK : w.heap.size ≤ w2.heap.size ∧ ∀ b, p b → ¬ Vblk k i s (.settle x n sw ver a y) b → w2.heap[b]? = w.heap[b]? := ⟨h3.1, fun b hb hn => h3.2 b ⟨hb, fun e => hn (.inr e)⟩⟩
    have e1 : c.step cam ov.th ov.A (.settle x n sw ver a y) = ((ist cam ov.th ov.A ver a y).1, if (ist cam ov.th ov.A ver a y).2.1 = 3 then .done 0 sw else .settle x n sw ver (ist cam ov.th ov.A ver a y).2.1 (ist cam ov.th ov.A ver a y).2.2) := rfl
    rw [e1]
    by_cases hz : (ist cam ov.th ov.A ver a y).2.1 = 3
    · simp only [hz, if_true, decide_true]
      have hKb : Kb p k w2 (w2.setCell ⟨k, 6, none⟩ (.int .i64 7)) := Kb.put k 6 _
      have hb3 : CaAt (w2.setCell ⟨k, 6, none⟩ (.int .i64 7)) k cam c.obj true nn x iv 7 c.a c.b n sw (pp s) 0 := (Blk.put hb2 6 (.int .i64 7)).eq (by simp [headC])
      exact ⟨rfl, Wt.stay (.inr (.inl ⟨hkd, _, _, _, _, _, _, _, hb3⟩)) (h2.put hpk 6 _) ⟨Nat.le_trans hK.1 hKb.1, fun b hb hn => (hKb.2 b ⟨hb, fun e => hn (.inl e)⟩).trans (hK.2 b hb hn)⟩ hp fun b hb => .inl hb⟩
    · simp only [hz, if_false, decide_false, Bool.false_eq_true]
      exact ⟨rfl, Wt.stay ⟨hkd, h1, hsk, _, _, hb2⟩ h2 hK hp fun b hb => hb⟩
  | alook x => obtain ⟨h1, _⟩ := h; omega
  | awalk x => obtain ⟨h1, _⟩ := h; omega
  | loaded t => obtain ⟨h1, _⟩ := h; omega
  | done v sw => cases hnf
theorem Tk_step (hkd : c.kind = 3) (h : VpAt w cam c k i s st) (hm : Mx W (some ov) p w) (hp : ∀ b, Vblk k i s st b → p b) (may : c.may st) (hc : 0 ≤ cam) (ho : 0 ≤ c.obj) (hnf : st.fin = false) (hk : Ok (some (ov.next (c.step cam ov.th ov.A st).1))) :
    Calls Try.prog 106 #[.pointer (some ⟨k, 0, none⟩), vv (some ov)] w fun e w' => e = .returned (.bool (c.step cam ov.th ov.A st).2.fin) ∧ Wt W ov (c.step cam ov.th ov.A st).1 cam c k i s p w w' st (c.step cam ov.th ov.A st).2 := by
  have hpk := hp k (Vblk_k k i s st)
  cases st with
  | new =>
    rcases h with ⟨h1, _⟩ | ⟨h1, _⟩ | ⟨h1, _⟩ | ⟨_, h⟩
    · omega
    · omega
    · omega
    · have e1 : c.step cam ov.th ov.A .new = (ov.A.load ov.th cam, if ov.A.peek cam < c.a then .loaded (ov.A.peek cam) else .done 0 false) := by simp [Cl.step, hkd]
      rw [e1] at hk ⊢
      refine (Take_new (o := some ov) h hm hpk hc _ rfl hk).mono ?_
      rintro e w' ⟨rfl, h1, h2, h3⟩
      have e2 : pk (some ov) cam = ov.A.peek cam := rfl
      rw [e2] at h1 ⊢
      by_cases hy : ov.A.peek cam < c.a
      · simp only [hy, if_true, decide_true] at h1 ⊢
        exact ⟨rfl, Wt.stay ⟨hkd, h1⟩ h2 (Kb.out h3) hp fun b hb => hb⟩
      · simp only [hy, if_false, decide_false] at h1 ⊢
        exact ⟨rfl, Wt.stay (.inr (.inr (.inr ⟨hkd, _, _, _, _, h1⟩))) h2 (Kb.out h3) hp fun b hb => hb⟩
  | loaded t =>
    obtain ⟨_, h⟩ := h
    refine (Take_loaded (o := some ov) (ov.A.hit cam t) h hm hpk hc rfl hk).mono ?_
    rintro e w' ⟨rfl, h1, h2, h3⟩
    exact ⟨rfl, Wt.stay (.inr (.inr (.inr ⟨hkd, _, _, _, _, h1⟩))) h2 (Kb.out h3) hp fun b hb => hb⟩
  | find x a y => obtain ⟨_, _, ⟨h1, _⟩ | ⟨h1, _⟩ | ⟨h1, _⟩⟩ := h <;> omega
  | load x => obtain ⟨_, ⟨h1, _⟩ | ⟨h1, _⟩ | ⟨h1, _⟩⟩ := h <;> omega
  | make x => obtain ⟨h1, _⟩ := h; omega
  | swap x n => obtain ⟨h1, _⟩ := h; omega
  | look x n => obtain ⟨h1, _⟩ := h; omega
  | settle x n sw ver a y => obtain ⟨h1, _⟩ := h; omega
  | alook x => obtain ⟨h1, _⟩ := h; omega
  | awalk x => obtain ⟨h1, _⟩ := h; omega
  | done v sw => cases hnf
end
end Go.Proofs.Ytenlgfagfpaenaa

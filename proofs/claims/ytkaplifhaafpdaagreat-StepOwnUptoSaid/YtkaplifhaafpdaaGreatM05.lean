/-
  Rows that are handed out: each in a block of its own; written over, grown, looked at: the plain part. No condition.
-/
import Derived.Test.YtkaplifhaafpdaaGreatM04
namespace Go.Proofs.YtkaplifhaafpdaaGreat
open Go Go.RowKit
set_option linter.unusedSimpArgs false
set_option linter.unusedVariables false
/-- rows, each in a block of its own (lab tells whose) -/
structure Pcs (w : World) (E : TypeId) (B : Nat) (lab : Nat → Nat) (L : List Value) (C : Nat → List Value) : Prop where
  own : ∀ j v, L[j]? = some v → w.ownsRow B E 1 v (C j).length (C j)
  lab : ∀ j v g, L[j]? = some v → v.ownBlock = some g → lab g = j
def inL (L : List Value) : Nat → Prop := fun k => ∃ v, v ∈ L ∧ v.ownBlock = some k
/-- written over: up to row i, and k places of that one -/
def ph (mk : Nat → Value) (C : Nat → List Value) (i k : Nat) : Nat → List Value := fun j =>
  if j < i then List.replicate (C j).length (mk j) else if j = i then List.replicate k (mk i) ++ (C j).drop k else C j
def D (mk : Nat → Value) (C : Nat → List Value) (m : Nat) : Nat → List Value := fun j => List.replicate ((C j).length + m) (mk j)
section
variable {w w' wx : World} {E LT : TypeId} {B i k j g : Nat} {lab : Nat → Nat} {L GL : List Value} {C : Nat → List Value} {S : Nat → Prop} {mk : Nat → Value} {v u G av : Value}
theorem Pcs.fr (h : Pcs w E B lab L C) (hf : Fr S w w') (hS : ∀ k, inL L k → ¬ S k) : Pcs w' E B lab L C :=
  ⟨fun j v hv => own_fr (h.own j v hv) hf fun g e => hS g ⟨v, List.mem_of_getElem? hv, e⟩, h.lab⟩
theorem Pcs.congr (h : Pcs w E B lab L C) {C' : Nat → List Value} (hC : ∀ j, j < L.length → C' j = C j) : Pcs w E B lab L C' :=
  ⟨fun j v hv => by rw [hC j (List.getElem?_eq_some_iff.1 hv).1]; exact h.own j v hv, h.lab⟩
theorem ph_zero : ph mk C 0 0 = C := by
  funext j
  unfold ph
  by_cases h : j = 0 <;> simp [h]
theorem ph_next (hk : k = (C i).length) : ph mk C i k = ph mk C (i + 1) 0 := by
  subst hk
  funext j
  unfold ph
  by_cases h1 : j < i
  · simp [h1, show j < i + 1 by omega]
  · by_cases h2 : j = i
    · subst h2; simp
    · by_cases h3 : j = i + 1
      · subst h3; simp [show ¬ i + 1 < i by omega]
      · simp [h1, h2, h3, show ¬ j < i + 1 by omega]
theorem ph_len (hk : k ≤ (C i).length) (j : Nat) : (ph mk C i k j).length = (C j).length := by
  unfold ph
  split
  · simp
  · split
    · rename_i h; subst h; simp; omega
    · rfl
theorem ph_set (hk : k < (C i).length) (j : Nat) : (if j = i then (ph mk C i k i).set k (mk i) else ph mk C i k j) = ph mk C i (k + 1) j := by
  by_cases h : j = i
  · subst h
    simp only [if_true, ph, Nat.lt_irrefl, if_false]
    rw [List.set_append_right _ _ (by simp)]
    simp only [List.length_replicate, Nat.sub_self]
    have : (C j).drop k = (C j)[k] :: (C j).drop (k + 1) := List.drop_eq_getElem_cons hk
    rw [this, List.set_cons_zero, List.replicate_succ']
    simp
  · simp only [h, if_false, ph]
theorem ph_all (hi : L.length ≤ i) (h : Pcs w E B lab L (ph mk C i 0)) : Pcs w E B lab L (D mk C 0) :=
  h.congr fun j hj => by unfold ph D; simp [show j < i by omega]
theorem Pcs.put (h : Pcs w E B lab L C) {n c : Nat} (hv : L[i]? = some (.slice (some ⟨g, 0, none⟩) n c)) (hk : k < (C i).length) (u : Value) :
    Pcs (w.setCell ⟨g, k, none⟩ u) E B lab L (fun x => if x = i then (C i).set k u else C x) := by
  have f : Fr (fun b => b = g) w (w.setCell ⟨g, k, none⟩ u) := (Fr.refl (fun b => b = g) w).put (p := ⟨g, k, none⟩) (.inl rfl) u
  refine ⟨fun j v hj => ?_, h.lab⟩
  by_cases e : j = i
  · subst e
    obtain rfl : v = .slice (some ⟨g, 0, none⟩) n c := by rw [hv] at hj; injection hj with hj; exact hj.symm
    have h1 := h.own _ _ hv
    have hn : n = (C j).length := by
      rcases h1.2 with ⟨e, _⟩ | ⟨g', cap, cur, e, _⟩
      · cases e
      · injection e
    subst hn
    simp only [if_true, List.length_set]
    exact bk_put h1 (by omega) u
  · simp only [e, if_false]
    refine own_fr (h.own j v hj) f fun g' e' e2 => ?_
    subst e2
    exact e ((h.lab j v _ hj e').symm.trans (h.lab i _ _ hv rfl))
/-- while row i is grown -/
structure Gr (w wx : World) (E LT : TypeId) (B i k : Nat) (mk : Nat → Value) (lab : Nat → Nat) (L GL : List Value) (av : Value) (C : Nat → List Value) (G : Value) : Prop where
  all : wx.ownsRow w.heap.size LT 1 av GL.length GL
  pl : Pcs wx E B lab L (D mk C 0)
  pg : Pcs wx E B lab GL (D mk C 20)
  gl : GL.length = i
  own : wx.ownsRow B E 1 G ((C i).length + k) (List.replicate ((C i).length + k) (mk i))
  lb : ∀ g, G.ownBlock = some g → lab g = i
  pos : ∀ g, G.ownBlock = some g → inL L g ∨ w.heap.size ≤ g
  fr : Fr (inL L) w wx
theorem Gr.start (hall : wx.ownsRow w.heap.size LT 1 av GL.length GL) (pl : Pcs wx E B lab L (D mk C 0)) (pg : Pcs wx E B lab GL (D mk C 20)) (gl : GL.length = i) (hv : L[i]? = some v) (fr : Fr (inL L) w wx) : Gr w wx E LT B i 0 mk lab L GL av C v :=
  ⟨hall, pl, pg, gl, by have := pl.own i v hv; simpa [D] using this, fun g e => pl.lab i v g hv e, fun g e => .inl ⟨v, List.mem_of_getElem? hv, e⟩, fr⟩
theorem own_lt' {base n size : Nat} {xs : List Value} (h : w.ownsRow base E size v n xs) (hg : v.ownBlock = some g) : base ≤ g ∧ g < w.heap.size := h.lt g hg
theorem Gr.step (h : Gr w wx E LT B i k mk lab L GL av C G) (hne : LT ≠ E) (o : Obj) {v' : Value} (hown' : w'.ownsRow B E 1 v' ((C i).length + k + 1) (List.replicate ((C i).length + k) (mk i) ++ [mk i])) (hfate : Fate (wx.alloc o) w' G v' ((C i).length + k) 1) :
    ∃ lab', Gr w w' E LT B i (k + 1) mk lab' L GL av C v' := by
  have hrep : List.replicate ((C i).length + k) (mk i) ++ [mk i] = List.replicate ((C i).length + (k + 1)) (mk i) := by rw [← Nat.add_assoc, List.replicate_succ']
  have hal : Fr (fun _ => False) wx (wx.alloc o) := (Fr.refl (fun _ => False) wx).alloc o
  have hal' : Fr (inL L) w (wx.alloc o) := h.fr.alloc o
  have all1 := own_fr h.all hal (fun _ _ e => e)
  have pl1 := h.pl.fr hal (fun _ _ e => e)
  have pg1 := h.pg.fr hal (fun _ _ e => e)
  have own1 := own_fr h.own hal (fun _ _ e => e)
  rcases hfate with ⟨g, c, hG, hv', hg⟩ | ⟨hv', hg⟩
  · subst hG hv'
    have hb := bk_blk own1 (g := g) rfl
    have f : Fr (fun b => b = g) (wx.alloc o) w' := (Fr.refl (fun b => b = g) _).grown hg (fun k e => .inl (by injection e with e; exact e.symm))
    have hlab : lab g = i := h.lb g rfl
    refine ⟨lab, ⟨own_fr all1 f ?_, ⟨fun j v hj => ?_, h.pl.lab⟩, ⟨fun j v hj => ?_, h.pg.lab⟩, h.gl, ?_, fun g' e => h.lb g' e, fun g' e => h.pos g' e, ?_⟩⟩
    · intro b hb2 e
      subst e
      obtain ⟨cs1, hb⟩ := hb
      obtain ⟨cs2, hb3⟩ := bk_blk all1 hb2
      exact Blk.ne hb3 hb hne rfl
    · by_cases e : v.ownBlock = some g
      · have hji : j = i := (h.pl.lab j v g hj e).symm.trans hlab
        subst hji
        have h1 := pl1.own j v hj
        have hD : D mk C 0 j = List.replicate (C j).length (mk j) := by simp [D]
        rw [hD] at h1 ⊢
        simp only [List.length_replicate] at h1 ⊢
        have hvc : v = .slice (some ⟨g, 0, none⟩) (C j).length c := by
          rcases h1.2 with ⟨e1, _⟩ | ⟨g1, cap1, cur1, e1, _, hh1, _, _, hs1, _⟩
          · rw [e1] at e; cases e
          · have : g1 = g := by rw [e1] at e; simpa [Value.ownBlock] using e
            subst this
            rcases own1.2 with ⟨e2, _⟩ | ⟨g2, cap2, cur2, e2, _, hh2, _, _, hs2, _⟩
            · cases e2
            · injection e2 with e3 e4 e5
              injection e3 with e3
              injection e3 with e3
              subst e3 e5
              rw [hh1] at hh2
              injection hh2 with hh2
              injection hh2 with hh2
              subst hh2
              rw [e1]
              have : cap1 = c := by omega
              rw [this]
        subst hvc
        refine bk_prefix h1 hown' (by omega) ?_
        rw [hrep]
        simp [List.take_replicate]
      · exact own_fr (pl1.own j v hj) f fun g' e1 e2 => e (by rw [e1, e2])
    · refine own_fr (pg1.own j v hj) f fun g' e1 e2 => ?_
      subst e2
      have := h.pg.lab j v _ hj e1
      have hlt := (List.getElem?_eq_some_iff.1 hj).1
      have := h.gl
      omega
    · rw [← hrep]
      exact hown'
    · exact hal'.grown hg (fun k e => by injection e with e; subst e; exact h.pos _ rfl)
  · have f : Fr (fun _ => False) (wx.alloc o) w' := (Fr.refl (fun _ => False) _).grown hg (fun k e => by cases e)
    have hsz : (wx.alloc o).heap.size = wx.heap.size + 1 := by simp
    have hws := h.fr.size
    refine ⟨fun x => if x = (wx.alloc o).heap.size then i else lab x, ⟨own_fr all1 f (fun _ _ e => e), ⟨fun j v hj => own_fr (pl1.own j v hj) f (fun _ _ e => e), fun j v g hj e => ?_⟩, ⟨fun j v hj => own_fr (pg1.own j v hj) f (fun _ _ e => e), fun j v g hj e => ?_⟩, h.gl, ?_, fun g' e => ?_, fun g' e => ?_, hal'.grown hg (fun k e => by cases e)⟩⟩
    · have := ((h.pl.own j v hj).lt g e).2
      rw [if_neg (by omega)]
      exact h.pl.lab j v g hj e
    · have := ((h.pg.own j v hj).lt g e).2
      rw [if_neg (by omega)]
      exact h.pg.lab j v g hj e
    · rw [← hrep]; exact hown'
    · rw [hv'] at e
      injection e with e
      rw [if_pos e.symm]
    · rw [hv'] at e
      injection e with e
      right; omega
theorem Gr.push (h : Gr w wx E LT B i 20 mk lab L GL av C G) (hne : LT ≠ E) (o : Obj) {av' : Value} (hown' : w'.ownsRow w.heap.size LT 1 av' (GL.length + 1) (GL ++ [G])) (hgrow : (wx.alloc o).grownBy w' av.ownBlock) :
    w'.ownsRow w.heap.size LT 1 av' (GL ++ [G]).length (GL ++ [G]) ∧ Pcs w' E B lab L (D mk C 0) ∧ Pcs w' E B lab (GL ++ [G]) (D mk C 20) ∧ Fr (inL L) w w' := by
  have hal : Fr (fun _ => False) wx (wx.alloc o) := (Fr.refl (fun _ => False) wx).alloc o
  have f : Fr (fun b => av.ownBlock = some b) (wx.alloc o) w' := (Fr.refl (fun b => av.ownBlock = some b) _).grown hgrow (fun k e => .inl e)
  have all1 := own_fr h.all hal (fun _ _ e => e)
  have far : ∀ {v : Value} {n : Nat} {xs : List Value}, (wx.alloc o).ownsRow B E 1 v n xs → w'.ownsRow B E 1 v n xs := by
    intro v n xs hv
    refine own_fr hv f fun g e1 e2 => ?_
    obtain ⟨cs1, hb1⟩ := bk_blk hv e1
    obtain ⟨cs2, hb2⟩ := bk_blk all1 e2
    exact Blk.ne hb2 hb1 hne rfl
  refine ⟨by simpa using hown', ⟨fun j v hj => far ((h.pl.fr hal (fun _ _ e => e)).own j v hj), h.pl.lab⟩, ⟨fun j v hj => ?_, fun j v g hj e => ?_⟩, ?_⟩
  · by_cases hlt : j < GL.length
    · rw [List.getElem?_append_left hlt] at hj
      exact far ((h.pg.fr hal (fun _ _ e => e)).own j v hj)
    · have h2 := (List.getElem?_eq_some_iff.1 hj).1
      simp at h2
      obtain rfl : j = GL.length := by omega
      simp at hj
      subst hj
      have := far (own_fr h.own hal (fun _ _ e => e))
      rw [← h.gl] at this
      simpa [D] using this
  · by_cases hlt : j < GL.length
    · rw [List.getElem?_append_left hlt] at hj
      exact h.pg.lab j v g hj e
    · have h2 := (List.getElem?_eq_some_iff.1 hj).1
      simp at h2
      obtain rfl : j = GL.length := by omega
      simp at hj
      subst hj
      rw [h.gl]
      exact h.lb g e
  · exact (h.fr.alloc o).grown hgrow (fun k e => .inr (h.all.lt k e).1)
theorem own_base0 {B' n size : Nat} {xs : List Value} (h : w.ownsRow B' E size v n xs) (hB : B ≤ B') : w.ownsRow B E size v n xs := by
  refine ⟨h.1, ?_⟩
  rcases h.2 with h0 | ⟨g, cap, cur, h1, h2, h3⟩
  · exact .inl h0
  · exact .inr ⟨g, cap, cur, h1, Nat.le_trans hB h2, h3⟩
/-- one row more, that was made just now -/
theorem Pcs.snoc {w0 : World} {n : Nat} (h : Pcs w0 E B lab L C) (hb : Below w0.heap.size w0 w) (hB : B ≤ w0.heap.size) (hv : w.ownsRow w0.heap.size E 1 v n (C L.length)) : ∃ lab', Pcs w E B lab' (L ++ [v]) C := by
  have h1 := h.fr (Fr.of_below (S := fun _ => False) hb) (fun _ _ e => e)
  have hn : n = (C L.length).length := by have := hv.1; omega
  refine ⟨fun x => if x < w0.heap.size then lab x else L.length, ⟨fun j u hj => ?_, fun j u g hj e => ?_⟩⟩
  · by_cases hlt : j < L.length
    · rw [List.getElem?_append_left hlt] at hj
      exact h1.own j u hj
    · have h2 := (List.getElem?_eq_some_iff.1 hj).1
      simp at h2
      obtain rfl : j = L.length := by omega
      simp at hj
      subst hj
      rw [← hn]
      exact own_base0 hv hB
  · by_cases hlt : j < L.length
    · rw [List.getElem?_append_left hlt] at hj
      rw [if_pos ((h.own j u hj).lt g e).2]
      exact h.lab j u g hj e
    · have h2 := (List.getElem?_eq_some_iff.1 hj).1
      simp at h2
      obtain rfl : j = L.length := by omega
      simp at hj
      subst hj
      have := (hv.lt g e).1
      rw [if_neg (by omega)]
theorem Pcs.take {BT : TypeId} {bk : Nat} {cs : Array Value} {lv : Value} {n : Nat} {xs : List Value} (h : Pcs w E B lab L C) (hb : Blk w bk BT cs) (hr : w.ownsRow B LT 1 lv n xs) (h1 : E ≠ BT) (h2 : LT ≠ E) (hf : Fr (fun k => k = bk ∨ lv.ownBlock = some k) w w') : Pcs w' E B lab L C := by
  refine h.fr hf ?_
  rintro k ⟨v, hv, e⟩ (rfl | e2)
  · obtain ⟨j, hj, rfl⟩ := List.getElem_of_mem hv
    exact own_ne (h.own j _ (List.getElem?_eq_getElem hj)) hb h1 e
  · obtain ⟨j, hj, rfl⟩ := List.getElem_of_mem hv
    obtain ⟨c1, b1⟩ := bk_blk (h.own j _ (List.getElem?_eq_getElem hj)) e
    obtain ⟨c2, b2⟩ := bk_blk hr e2
    exact Blk.ne b2 b1 h2 rfl
end
end Go.Proofs.YtkaplifhaafpdaaGreat

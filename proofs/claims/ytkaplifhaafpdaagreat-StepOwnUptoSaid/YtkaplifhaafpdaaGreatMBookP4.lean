/-
  Rows of elements of several cells that are handed out: each in a block of its own; written over, grown, looked at: the plain part. No condition.
-/
import Derived.Test.YtkaplifhaafpdaaGreatM05
namespace Go.Proofs.YtkaplifhaafpdaaGreat
open Go Go.RowKit
set_option linter.unusedSimpArgs false
set_option linter.unusedVariables false
def rep (n : Nat) (m : List Value) : List Value := (List.replicate n m).flatten
/-- rows, each in a block of its own (lab tells whose) -/
structure Pcz (w : World) (E : TypeId) (z B : Nat) (lab : Nat → Nat) (L : List Value) (N : Nat → Nat) (C : Nat → List Value) : Prop where
  own : ∀ j v, L[j]? = some v → w.ownsRow B E z v (N j) (C j)
  lab : ∀ j v g, L[j]? = some v → v.ownBlock = some g → lab g = j
/-- written over: up to row i, and k places of that one -/
def phz (z : Nat) (mk : Nat → List Value) (N : Nat → Nat) (C : Nat → List Value) (i k : Nat) : Nat → List Value := fun j =>
  if j < i then rep (N j) (mk j) else if j = i then rep k (mk i) ++ (C j).drop (k * z) else C j
def Dz (mk : Nat → List Value) (N : Nat → Nat) (m : Nat) : Nat → List Value := fun j => rep (N j + m) (mk j)
section
variable {w w' wx : World} {E LT : TypeId} {z B i k j g n : Nat} {lab : Nat → Nat} {L GL : List Value} {N : Nat → Nat} {C : Nat → List Value} {S : Nat → Prop} {mk : Nat → List Value} {v u G av : Value} {m xs : List Value}
theorem rep_len (n : Nat) (m : List Value) : (rep n m).length = n * m.length := by
  induction n with
  | zero => simp [rep]
  | succ n ih => unfold rep at ih ⊢; rw [List.replicate_succ, List.flatten_cons, List.length_append, ih, Nat.add_mul]; omega
theorem rep_succ (n : Nat) (m : List Value) : rep (n + 1) m = rep n m ++ m := by
  unfold rep
  rw [List.replicate_succ', List.flatten_append]
  simp
theorem rep_add (n k : Nat) (m : List Value) : rep (n + k) m = rep n m ++ rep k m := by
  unfold rep
  rw [← List.replicate_append_replicate, List.flatten_append]
theorem rep_take (hm : m.length = z) (n k : Nat) : (rep (n + k) m).take (n * z) = rep n m := by
  rw [rep_add, List.take_append_of_le_length (by rw [rep_len, hm]; exact Nat.le_refl _), List.take_of_length_le (by rw [rep_len, hm]; exact Nat.le_refl _)]
theorem rep_get (hm : m.length = z) {n k j : Nat} (hk : k < n) (hj : j < z) : (rep n m)[k * z + j]? = m[j]? := by
  have h1 : n = k + (1 + (n - k - 1)) := by omega
  rw [h1, rep_add, List.getElem?_append_right (by rw [rep_len, hm]; omega), rep_len, hm, rep_add]
  rw [show k * z + j - k * z = j by omega, List.getElem?_append_left (by rw [rep_len, hm]; omega)]
  simp [rep]
theorem bkcell {a : Addr} (h : w.cell? a = some v) (hb : Below w.heap.size w w') : w'.cell? a = some v := by
  have hl : a.block < w.heap.size := by
    rcases Nat.lt_or_ge a.block w.heap.size with h1 | h1
    · exact h1
    · exfalso
      simp [World.cell?, Array.getElem?_eq_none h1] at h
  exact (hb.cell (p := a) hl).trans h
theorem Pcz.fr (h : Pcz w E z B lab L N C) (hf : Fr S w w') (hS : ∀ k, inL L k → ¬ S k) : Pcz w' E z B lab L N C :=
  ⟨fun j v hv => own_fr (h.own j v hv) hf fun g e => hS g ⟨v, List.mem_of_getElem? hv, e⟩, h.lab⟩
theorem Pcz.congr (h : Pcz w E z B lab L N C) {C' : Nat → List Value} (hC : ∀ j, j < L.length → C' j = C j) : Pcz w E z B lab L N C' :=
  ⟨fun j v hv => by rw [hC j (List.getElem?_eq_some_iff.1 hv).1]; exact h.own j v hv, h.lab⟩
theorem phz_zero : phz z mk N C 0 0 = C := by
  funext j
  unfold phz
  by_cases h : j = 0 <;> simp [h, rep]
theorem phz_next (hk : k = N i) (hl : (C i).length = N i * z) : phz z mk N C i k = phz z mk N C (i + 1) 0 := by
  subst hk
  funext j
  unfold phz
  by_cases h1 : j < i
  · simp [h1, show j < i + 1 by omega]
  · by_cases h2 : j = i
    · subst h2
      have : (C j).drop (N j * z) = [] := List.drop_eq_nil_of_le (by omega)
      simp [this]
    · by_cases h3 : j = i + 1
      · subst h3; simp [show ¬ i + 1 < i by omega, rep]
      · simp [h1, h2, h3, show ¬ j < i + 1 by omega]
/-- the next element of row i is written over -/
theorem phz_row (hm : (mk i).length = z) (hk : k < N i) (hl : (C i).length = N i * z) : (phz z mk N C i k i).take (k * z) ++ mk i ++ (phz z mk N C i k i).drop ((k + 1) * z) = phz z mk N C i (k + 1) i := by
  have h1 : phz z mk N C i k i = rep k (mk i) ++ (C i).drop (k * z) := by simp [phz]
  have h2 : phz z mk N C i (k + 1) i = rep (k + 1) (mk i) ++ (C i).drop ((k + 1) * z) := by simp [phz]
  have hr : (rep k (mk i)).length = k * z := by rw [rep_len, hm]
  rw [h1, h2, List.take_append_of_le_length (by omega), List.take_of_length_le (by omega), rep_succ]
  have h3 : (rep k (mk i) ++ (C i).drop (k * z)).drop ((k + 1) * z) = (C i).drop ((k + 1) * z) := by
    rw [List.drop_append, List.drop_eq_nil_of_le (by rw [hr]; exact Nat.mul_le_mul_right _ (by omega)), hr, List.nil_append, List.drop_drop]
    congr 1
    rw [Nat.add_mul]; omega
  rw [h3]
theorem phz_all (hi : L.length ≤ i) (h : Pcz w E z B lab L N (phz z mk N C i 0)) : Pcz w E z B lab L N (Dz mk N 0) :=
  h.congr fun j hj => by unfold phz Dz; simp [show j < i by omega]
/-- one row is written anew -/
theorem Pcz.upd (h : Pcz w E z B lab L N C) (hv : L[i]? = some v) (hg : v.ownBlock = some g) (f : Fr (fun b => b = g) w w') (ho : w'.ownsRow B E z v (N i) xs) : Pcz w' E z B lab L N (fun x => if x = i then xs else C x) := by
  refine ⟨fun j u hj => ?_, h.lab⟩
  by_cases e : j = i
  · subst e
    obtain rfl : v = u := by rw [hv] at hj; injection hj
    simp only [if_true]
    exact ho
  · simp only [e, if_false]
    refine own_fr (h.own j u hj) f fun g' e' e2 => ?_
    subst e2
    exact e ((h.lab j u _ hj e').symm.trans (h.lab i _ _ hv hg))
theorem chunk4 (xs : List Value) (k : Nat) (h : (k + 1) * 4 ≤ xs.length) : ∃ e0 e1 e2 e3, xs = xs.take (k * 4) ++ e0 :: e1 :: e2 :: e3 :: xs.drop ((k + 1) * 4) := by
  have h0 : k * 4 < xs.length := by omega
  have h1 : k * 4 + 1 < xs.length := by omega
  have h2 : k * 4 + 1 + 1 < xs.length := by omega
  have h3 : k * 4 + 1 + 1 + 1 < xs.length := by omega
  refine ⟨xs[k * 4], xs[k * 4 + 1], xs[k * 4 + 1 + 1], xs[k * 4 + 1 + 1 + 1], ?_⟩
  have e : xs.drop (k * 4) = xs[k * 4] :: xs[k * 4 + 1] :: xs[k * 4 + 1 + 1] :: xs[k * 4 + 1 + 1 + 1] :: xs.drop ((k + 1) * 4) := by
    rw [List.drop_eq_getElem_cons h0, List.drop_eq_getElem_cons h1, List.drop_eq_getElem_cons h2, List.drop_eq_getElem_cons h3, Nat.add_mul]
  rw [← e, List.take_append_drop]
theorem set4 (xs : List Value) (k : Nat) (h : (k + 1) * 4 ≤ xs.length) (a b c d : Value) : (((xs.set (k * 4) a).set (k * 4 + 1) b).set (k * 4 + 2) c).set (k * 4 + 3) d = xs.take (k * 4) ++ [a, b, c, d] ++ xs.drop ((k + 1) * 4) := by
  obtain ⟨e0, e1, e2, e3, e⟩ := chunk4 xs k h
  have hl : (xs.take (k * 4)).length = k * 4 := by rw [List.length_take]; omega
  generalize xs.take (k * 4) = A at *
  generalize xs.drop ((k + 1) * 4) = D at *
  subst e
  rw [← hl]
  simp [List.set_append]
theorem Pcz.write4 {c : Nat} (h : Pcz w E 4 B lab L N C) (hv : L[i]? = some (.slice (some ⟨g, 0, none⟩) n c)) (hn : n = N i) (hk : k < N i) (a b c' d : Value) :
    Pcz ((((w.setCell ⟨g, k * 4, none⟩ a).setCell ⟨g, k * 4 + 1, none⟩ b).setCell ⟨g, k * 4 + 2, none⟩ c').setCell ⟨g, k * 4 + 3, none⟩ d) E 4 B lab L N (fun x => if x = i then (C i).take (k * 4) ++ [a, b, c', d] ++ (C i).drop ((k + 1) * 4) else C x) := by
  have ho := h.own i _ hv
  have hl : (C i).length = N i * 4 := ho.1
  subst hn
  refine h.upd hv rfl (((((Fr.refl (fun b => b = g) w).put (p := ⟨g, k * 4, none⟩) (.inl rfl) a).put (p := ⟨g, k * 4 + 1, none⟩) (.inl rfl) b).put (p := ⟨g, k * 4 + 2, none⟩) (.inl rfl) c').put (p := ⟨g, k * 4 + 3, none⟩) (.inl rfl) d) ?_
  rw [← set4 (C i) k (by omega)]
  exact bk_put (bk_put (bk_put (bk_put ho (by omega) a) (by omega) b) (by omega) c') (by omega) d
theorem fr_put4 {w0 : World} (h : Fr S w0 w) (hg : S g) (o0 o1 o2 o3 : Nat) (a b c d : Value) : Fr S w0 ((((w.setCell ⟨g, o0, none⟩ a).setCell ⟨g, o1, none⟩ b).setCell ⟨g, o2, none⟩ c).setCell ⟨g, o3, none⟩ d) :=
  (((h.put (p := ⟨g, o0, none⟩) (.inl hg) a).put (p := ⟨g, o1, none⟩) (.inl hg) b).put (p := ⟨g, o2, none⟩) (.inl hg) c).put (p := ⟨g, o3, none⟩) (.inl hg) d
theorem phz_set (hm : (mk i).length = z) (hk : k < N i) (hl : (C i).length = N i * z) (j : Nat) : (if j = i then (phz z mk N C i k i).take (k * z) ++ mk i ++ (phz z mk N C i k i).drop ((k + 1) * z) else phz z mk N C i k j) = phz z mk N C i (k + 1) j := by
  by_cases h : j = i
  · subst h
    simp only [if_true]
    exact phz_row hm hk hl
  · simp only [h, if_false, phz]
/-- while row i is grown -/
structure Grz (w wx : World) (E LT : TypeId) (z B i k : Nat) (mk : Nat → List Value) (lab : Nat → Nat) (L GL : List Value) (av : Value) (N : Nat → Nat) (G : Value) : Prop where
  all : wx.ownsRow w.heap.size LT 1 av GL.length GL
  pl : Pcz wx E z B lab L N (Dz mk N 0)
  pg : Pcz wx E z B lab GL (fun j => N j + 20) (Dz mk N 20)
  gl : GL.length = i
  own : wx.ownsRow B E z G (N i + k) (rep (N i + k) (mk i))
  lb : ∀ g, G.ownBlock = some g → lab g = i
  pos : ∀ g, G.ownBlock = some g → inL L g ∨ w.heap.size ≤ g
  fr : Fr (inL L) w wx
theorem Grz.start (hall : wx.ownsRow w.heap.size LT 1 av GL.length GL) (pl : Pcz wx E z B lab L N (Dz mk N 0)) (pg : Pcz wx E z B lab GL (fun j => N j + 20) (Dz mk N 20)) (gl : GL.length = i) (hv : L[i]? = some v) (fr : Fr (inL L) w wx) : Grz w wx E LT z B i 0 mk lab L GL av N v :=
  ⟨hall, pl, pg, gl, by have := pl.own i v hv; simpa [Dz] using this, fun g e => pl.lab i v g hv e, fun g e => .inl ⟨v, List.mem_of_getElem? hv, e⟩, fr⟩
theorem Grz.step (h : Grz w wx E LT z B i k mk lab L GL av N G) (hm : ∀ i, (mk i).length = z) (hz : 0 < z) (hne : LT ≠ E) (o : Obj) {v' : Value} (hown' : w'.ownsRow B E z v' (N i + k + 1) (rep (N i + k) (mk i) ++ mk i)) (hfate : Fate (wx.alloc o) w' G v' (N i + k) 1) :
    ∃ lab', Grz w w' E LT z B i (k + 1) mk lab' L GL av N v' := by
  have hrep : rep (N i + k) (mk i) ++ mk i = rep (N i + (k + 1)) (mk i) := by rw [← Nat.add_assoc, rep_succ]
  have hal : Fr (fun _ => False) wx (wx.alloc o) := (Fr.refl (fun _ => False) wx).alloc o
  have hal' : Fr (inL L) w (wx.alloc o) := h.fr.alloc o
  have all1 := own_fr h.all hal (fun _ _ e => e)
  have pl1 := h.pl.fr hal (fun _ _ e => e)
  have pg1 := h.pg.fr hal (fun _ _ e => e)
  have own1 := own_fr h.own hal (fun _ _ e => e)
  rcases hfate with ⟨g, c, hG, hv', hg⟩ | ⟨hv', hg⟩
  · subst hG hv'
    have hb := bk_blk own1 (g := g) rfl
    have f : Fr (fun b => b = g) (wx.alloc o) w' := (Fr.refl (fun b => b = g) _).grown hg (fun k e => .inl (by injection e with e; exact e.symm))
    have hlab : lab g = i := h.lb g rfl
    refine ⟨lab, ⟨own_fr all1 f ?_, ⟨fun j v hj => ?_, h.pl.lab⟩, ⟨fun j v hj => ?_, h.pg.lab⟩, h.gl, ?_, fun g' e => h.lb g' e, fun g' e => h.pos g' e, ?_⟩⟩
    · intro b hb2 e
      subst e
      obtain ⟨cs1, hb⟩ := hb
      obtain ⟨cs2, hb3⟩ := bk_blk all1 hb2
      exact Blk.ne hb3 hb hne rfl
    · by_cases e : v.ownBlock = some g
      · have hji : j = i := (h.pl.lab j v g hj e).symm.trans hlab
        subst hji
        have h1 := pl1.own j v hj
        have hD : Dz mk N 0 j = rep (N j) (mk j) := by simp [Dz]
        rw [hD] at h1 ⊢
        have hvc : v = .slice (some ⟨g, 0, none⟩) (N j) c := by
          rcases h1.2 with ⟨e1, _⟩ | ⟨g1, cap1, cur1, e1, _, hh1, _, _, hs1, _⟩
          · rw [e1] at e; cases e
          · have : g1 = g := by rw [e1] at e; simpa [Value.ownBlock] using e
            subst this
            rcases own1.2 with ⟨e2, _⟩ | ⟨g2, cap2, cur2, e2, _, hh2, _, _, hs2, _⟩
            · cases e2
            · injection e2 with e3 e4 e5
              injection e3 with e3
              injection e3 with e3
              subst e3 e5
              rw [hh1] at hh2
              injection hh2 with hh2
              injection hh2 with hh2
              subst hh2
              rw [e1]
              have : cap1 = c := by
                have h5 : cap1 * z = c * z := by omega
                exact Nat.eq_of_mul_eq_mul_right hz h5
              rw [this]
        subst hvc
        refine bk_prefix h1 hown' (by omega) ?_
        rw [hrep]
        exact (rep_take (hm j) (N j) (k + 1)).symm
      · exact own_fr (pl1.own j v hj) f fun g' e1 e2 => e (by rw [e1, e2])
    · refine own_fr (pg1.own j v hj) f fun g' e1 e2 => ?_
      subst e2
      have := h.pg.lab j v _ hj e1
      have hlt := (List.getElem?_eq_some_iff.1 hj).1
      have := h.gl
      omega
    · rw [← hrep]
      exact hown'
    · exact hal'.grown hg (fun k e => by injection e with e; subst e; exact h.pos _ rfl)
  · have f : Fr (fun _ => False) (wx.alloc o) w' := (Fr.refl (fun _ => False) _).grown hg (fun k e => by cases e)
    have hsz : (wx.alloc o).heap.size = wx.heap.size + 1 := by simp
    have hws := h.fr.size
    refine ⟨fun x => if x = (wx.alloc o).heap.size then i else lab x, ⟨own_fr all1 f (fun _ _ e => e), ⟨fun j v hj => own_fr (pl1.own j v hj) f (fun _ _ e => e), fun j v g hj e => ?_⟩, ⟨fun j v hj => own_fr (pg1.own j v hj) f (fun _ _ e => e), fun j v g hj e => ?_⟩, h.gl, ?_, fun g' e => ?_, fun g' e => ?_, hal'.grown hg (fun k e => by cases e)⟩⟩
    · have := ((h.pl.own j v hj).lt g e).2
      rw [if_neg (by omega)]
      exact h.pl.lab j v g hj e
    · have := ((h.pg.own j v hj).lt g e).2
      rw [if_neg (by omega)]
      exact h.pg.lab j v g hj e
    · rw [← hrep]; exact hown'
    · rw [hv'] at e
      injection e with e
      rw [if_pos e.symm]
    · rw [hv'] at e
      injection e with e
      right; omega
theorem Grz.push (h : Grz w wx E LT z B i 20 mk lab L GL av N G) (hne : LT ≠ E) (o : Obj) {av' : Value} (hown' : w'.ownsRow w.heap.size LT 1 av' (GL.length + 1) (GL ++ [G])) (hgrow : (wx.alloc o).grownBy w' av.ownBlock) :
    w'.ownsRow w.heap.size LT 1 av' (GL ++ [G]).length (GL ++ [G]) ∧ Pcz w' E z B lab L N (Dz mk N 0) ∧ Pcz w' E z B lab (GL ++ [G]) (fun j => N j + 20) (Dz mk N 20) ∧ Fr (inL L) w w' := by
  have hal : Fr (fun _ => False) wx (wx.alloc o) := (Fr.refl (fun _ => False) wx).alloc o
  have f : Fr (fun b => av.ownBlock = some b) (wx.alloc o) w' := (Fr.refl (fun b => av.ownBlock = some b) _).grown hgrow (fun k e => .inl e)
  have all1 := own_fr h.all hal (fun _ _ e => e)
  have far : ∀ {v : Value} {n : Nat} {xs : List Value}, (wx.alloc o).ownsRow B E z v n xs → w'.ownsRow B E z v n xs := by
    intro v n xs hv
    refine own_fr hv f fun g e1 e2 => ?_
    obtain ⟨cs1, hb1⟩ := bk_blk hv e1
    obtain ⟨cs2, hb2⟩ := bk_blk all1 e2
    exact Blk.ne hb2 hb1 hne rfl
  refine ⟨by simpa using hown', ⟨fun j v hj => far ((h.pl.fr hal (fun _ _ e => e)).own j v hj), h.pl.lab⟩, ⟨fun j v hj => ?_, fun j v g hj e => ?_⟩, ?_⟩
  · by_cases hlt : j < GL.length
    · rw [List.getElem?_append_left hlt] at hj
      exact far ((h.pg.fr hal (fun _ _ e => e)).own j v hj)
    · have h2 := (List.getElem?_eq_some_iff.1 hj).1
      simp at h2
      obtain rfl : j = GL.length := by omega
      simp at hj
      subst hj
      have := far (own_fr h.own hal (fun _ _ e => e))
      rw [← h.gl] at this
      simpa [Dz] using this
  · by_cases hlt : j < GL.length
    · rw [List.getElem?_append_left hlt] at hj
      exact h.pg.lab j v g hj e
    · have h2 := (List.getElem?_eq_some_iff.1 hj).1
      simp at h2
      obtain rfl : j = GL.length := by omega
      simp at hj
      subst hj
      rw [h.gl]
      exact h.lb g e
  · exact (h.fr.alloc o).grown hgrow (fun k e => .inr (h.all.lt k e).1)
/-- one row more, that was made just now -/
theorem Pcz.snoc {w0 : World} (h : Pcz w0 E z B lab L N C) (hb : Below w0.heap.size w0 w) (hB : B ≤ w0.heap.size) (hv : w.ownsRow w0.heap.size E z v (N L.length) (C L.length)) : ∃ lab', Pcz w E z B lab' (L ++ [v]) N C := by
  have h1 := h.fr (Fr.of_below (S := fun _ => False) hb) (fun _ _ e => e)
  refine ⟨fun x => if x < w0.heap.size then lab x else L.length, ⟨fun j u hj => ?_, fun j u g hj e => ?_⟩⟩
  · by_cases hlt : j < L.length
    · rw [List.getElem?_append_left hlt] at hj
      exact h1.own j u hj
    · have h2 := (List.getElem?_eq_some_iff.1 hj).1
      simp at h2
      obtain rfl : j = L.length := by omega
      simp at hj
      subst hj
      exact own_base0 hv hB
  · by_cases hlt : j < L.length
    · rw [List.getElem?_append_left hlt] at hj
      rw [if_pos ((h.own j u hj).lt g e).2]
      exact h.lab j u g hj e
    · have h2 := (List.getElem?_eq_some_iff.1 hj).1
      simp at h2
      obtain rfl : j = L.length := by omega
      simp at hj
      subst hj
      have := (hv.lt g e).1
      rw [if_neg (by omega)]
theorem Pcz.take {BT : TypeId} {bk : Nat} {cs : Array Value} {lv : Value} {n : Nat} {xs : List Value} (h : Pcz w E z B lab L N C) (hb : Blk w bk BT cs) (hr : w.ownsRow B LT 1 lv n xs) (h1 : E ≠ BT) (h2 : LT ≠ E) (hf : Fr (fun k => k = bk ∨ lv.ownBlock = some k) w w') : Pcz w' E z B lab L N C := by
  refine h.fr hf ?_
  rintro k ⟨v, hv, e⟩ (rfl | e2)
  · obtain ⟨j, hj, rfl⟩ := List.getElem_of_mem hv
    exact own_ne (h.own j _ (List.getElem?_eq_getElem hj)) hb h1 e
  · obtain ⟨j, hj, rfl⟩ := List.getElem_of_mem hv
    obtain ⟨c1, b1⟩ := bk_blk (h.own j _ (List.getElem?_eq_getElem hj)) e
    obtain ⟨c2, b2⟩ := bk_blk hr e2
    exact Blk.ne b2 b1 h2 rfl
end
end Go.Proofs.YtkaplifhaafpdaaGreat

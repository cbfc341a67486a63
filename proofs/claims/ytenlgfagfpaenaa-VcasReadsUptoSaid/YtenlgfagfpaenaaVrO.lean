/-
  The calls of a run are begun, each in its row. No condition.
-/
import Derived.Test.YtenlgfagfpaenaaVrN
import Derived.Test.YtenlgfagfpaenaaVrH
namespace Go.Proofs.Ytenlgfagfpaenaa
open Go Go.RowKit
set_option linter.unusedSimpArgs false
set_option linter.unusedVariables false
abbrev PC := Nat × Cl
def PRow (w : World) (base : Nat) (v : Value) (l : List PC) : Prop := w.ownsRow base 80 6 v l.length (l.flatMap fun z => (prA z.1 z.2).toList)
def SRow (w : World) (base : Nat) (v : Value) (l : List PC) : Prop := w.ownsRow base 141 1 v l.length (l.map fun z => procV z.1 z.2)
def RowsOf (R : World → Nat → Value → List PC → Prop) (t : TypeId) (w : World) (base : Nat) (v : Value) (ll : List (List PC)) : Prop := ∃ us : List Value, us.length = ll.length ∧ w.ownsRow base t 1 v ll.length us ∧ ∀ (i : Nat) u l, us[i]? = some u → ll[i]? = some l → R w base u l
abbrev PAll := RowsOf PRow 73
abbrev SAll := RowsOf SRow 139
/-- calls that have not begun, each in its place -/
def NewP (w : World) (cam : Int) (base : Nat) (l : List PC) : Prop := (∀ z ∈ l, VpAt w cam z.2 z.1 0 0 .new ∧ base ≤ z.1) ∧ (l.map (·.1)).Pairwise (· < ·)
section
variable {W w w' w1 wo wr : World} {base base' : Nat} {v v' u : Value} {S : Nat → Prop} {l row : List PC} {ll pl : List (List PC)} {cam : Int} {k : Nat} {c : Cl}
theorem new_blk (h : VpAt w cam c k 0 0 .new) : ∃ t cs, Blk w k t cs ∧ (t = 131 ∨ t = 133 ∨ t = 137 ∨ t = 186) := by
  rcases h with ⟨_, h⟩ | ⟨_, h⟩ | ⟨_, h⟩ | ⟨_, h⟩
  · exact ⟨_, _, h, .inl rfl⟩
  · exact ⟨_, _, h, .inr (.inl rfl)⟩
  · exact ⟨_, _, h, .inr (.inr (.inl rfl))⟩
  · exact ⟨_, _, h, .inr (.inr (.inr rfl))⟩
theorem NewP.fr (h : NewP w cam base l) (hf : Fr S w w') (hS : ∀ k t cs, Blk w k t cs → (t = 131 ∨ t = 133 ∨ t = 137 ∨ t = 186) → ¬ S k) : NewP w' cam base l := by
  refine ⟨fun z hz => ?_, h.2⟩
  obtain ⟨h1, h2⟩ := h.1 z hz
  obtain ⟨t, cs, hb, ht⟩ := new_blk h1
  refine ⟨h1.keep fun b hb2 => ?_, h2⟩
  have hb2 : b = z.1 := hb2
  subst hb2
  exact hf.block _ hb.lt (hS _ t cs hb ht)
theorem NewP.bl (h : NewP w cam base l) (hb : Below w.heap.size w w') : NewP w' cam base l := h.fr (Fr.of_below (S := fun _ => False) hb) (fun _ _ _ _ _ e => e)
theorem NewP.low (h : NewP w cam base l) (hb : base' ≤ base) : NewP w cam base' l := ⟨fun z hz => ⟨(h.1 z hz).1, Nat.le_trans hb (h.1 z hz).2⟩, h.2⟩
theorem NewP.snoc (h : NewP w cam base l) (hb : Below w.heap.size w w') (hk : w.heap.size ≤ k) (h0 : base ≤ w.heap.size) (hn : VpAt w' cam c k 0 0 .new) : NewP w' cam base (l ++ [(k, c)]) := by
  refine ⟨fun z hz => ?_, ?_⟩
  · rcases List.mem_append.1 hz with hz | hz
    · exact (h.bl hb).1 z hz
    · rw [List.mem_singleton] at hz; subst hz; exact ⟨hn, Nat.le_trans h0 hk⟩
  · rw [List.map_append, List.pairwise_append]
    refine ⟨h.2, by simp, fun a ha b hb => ?_⟩
    obtain ⟨z, hz, rfl⟩ := List.mem_map.1 ha
    obtain ⟨t, cs, hbb, _⟩ := new_blk (h.1 z hz).1
    have := hbb.lt
    simp at hb
    omega
theorem NewP.join {l2 : List PC} (h : NewP w cam base l) (h2 : NewP w' cam w.heap.size l2) (hb : Below w.heap.size w w') (h0 : base ≤ w.heap.size) : NewP w' cam base (l ++ l2) := by
  refine ⟨fun z hz => ?_, ?_⟩
  · rcases List.mem_append.1 hz with hz | hz
    · exact (h.bl hb).1 z hz
    · exact ⟨(h2.1 z hz).1, Nat.le_trans h0 (h2.1 z hz).2⟩
  · rw [List.map_append, List.pairwise_append]
    refine ⟨h.2, h2.2, fun a ha b hb => ?_⟩
    obtain ⟨z, hz, rfl⟩ := List.mem_map.1 ha
    obtain ⟨y, hy, rfl⟩ := List.mem_map.1 hb
    obtain ⟨t, cs, hbb, _⟩ := new_blk (h.1 z hz).1
    have := hbb.lt
    have := (h2.1 y hy).2
    omega
theorem RowsOf.bl {R : World → Nat → Value → List PC → Prop} {t : TypeId} (hR : ∀ {w w' : World} {b : Nat} {v : Value} {l : List PC}, R w b v l → Below w.heap.size w w' → R w' b v l) (h : RowsOf R t w base v ll) (hb : Below w.heap.size w w') : RowsOf R t w' base v ll := by
  obtain ⟨us, h1, h2, h3⟩ := h
  exact ⟨us, h1, own_fr h2 (Fr.of_below (S := fun _ => False) hb) (fun _ _ e => e), fun i u l a b => hR (h3 i u l a b) hb⟩
theorem PRow.bl (h : PRow w base v l) (hb : Below w.heap.size w w') : PRow w' base v l := own_fr h (Fr.of_below (S := fun _ => False) hb) (fun _ _ e => e)
theorem SRow.bl (h : SRow w base v l) (hb : Below w.heap.size w w') : SRow w' base v l := own_fr h (Fr.of_below (S := fun _ => False) hb) (fun _ _ e => e)
theorem PRow.fr (h : PRow w base v l) (hf : Fr S w w') (hS : ∀ k cs, Blk w k 80 cs → ¬ S k) : PRow w' base v l := own_fr h hf fun g eg => by obtain ⟨cs, hb⟩ := bk_blk h eg; exact hS g cs hb
theorem SRow.fr (h : SRow w base v l) (hf : Fr S w w') (hS : ∀ k cs, Blk w k 141 cs → ¬ S k) : SRow w' base v l := own_fr h hf fun g eg => by obtain ⟨cs, hb⟩ := bk_blk h eg; exact hS g cs hb
theorem RowsOf.fr {R : World → Nat → Value → List PC → Prop} {t : TypeId} (hR : ∀ {b : Nat} {v : Value} {l : List PC}, R w b v l → R w' b v l) (h : RowsOf R t w base v ll) (hf : Fr S w w') (hS : ∀ k cs, Blk w k t cs → ¬ S k) : RowsOf R t w' base v ll := by
  obtain ⟨us, h1, h2, h3⟩ := h
  exact ⟨us, h1, own_fr h2 hf fun g eg => by obtain ⟨cs, hb⟩ := bk_blk h2 eg; exact hS g cs hb, fun i u l a b => hR (h3 i u l a b)⟩
theorem RowsOf.push {R : World → Nat → Value → List PC → Prop} {t : TypeId} {us : List Value} (hus : us.length = ll.length ∧ w.ownsRow base t 1 v ll.length us ∧ ∀ (i : Nat) u l, us[i]? = some u → ll[i]? = some l → R w base u l) (hown : w'.ownsRow base t 1 v' (ll.length + 1) (us ++ [u])) (hR : ∀ {v : Value} {l : List PC}, R w base v l → R w' base v l) (hr : R w base u row) : RowsOf R t w' base v' (ll ++ [row]) := by
  obtain ⟨h1, h2, h3⟩ := hus
  refine ⟨us ++ [u], by simp [h1], by rw [List.length_append]; exact hown, fun i u2 l2 q1 q2 => ?_⟩
  rcases Nat.lt_or_ge i us.length with hi | hi
  · rw [List.getElem?_append_left hi] at q1
    rw [List.getElem?_append_left (by omega)] at q2
    exact hR (h3 i u2 l2 q1 q2)
  · rw [List.getElem?_append_right hi] at q1
    rw [List.getElem?_append_right (by omega)] at q2
    obtain rfl : i = us.length := by
      have := (List.getElem?_eq_some_iff.1 q1).1
      simp at this; omega
    rw [Nat.sub_self] at q1
    rw [← h1, Nat.sub_self] at q2
    injection q1 with q1
    injection q2 with q2
    subst q1 q2
    exact hR hr
theorem infoPr : (Try.prog.info? 80).map (fun i => (i.zero, i.size, i.bytes)) = some (some (.agg #[.int .i64 0, .pointer none, .pointer none, .pointer none, .pointer none, .pointer none]), 6, 48) := by kernel_rfl
theorem infoPrs : (Try.prog.info? 73).map (fun i => (i.zero, i.size, i.bytes)) = some (some (.slice none 0 0), 1, 24) := by kernel_rfl
theorem infoSs : (Try.prog.info? 139).map (fun i => (i.zero, i.size, i.bytes)) = some (some (.slice none 0 0), 1, 24) := by kernel_rfl
/-- a row under way: since wo -/
structure RIn (wo wr : World) (cam : Int) (cs : List Cl) (v12 v13 : Value) (row : List PC) : Prop where
  bel : Below wo.heap.size wo wr
  p : PRow wr wo.heap.size v12 row
  s : SRow wr wo.heap.size v13 row
  nw : NewP wr cam wo.heap.size row
  cl : row.map (·.2) = cs
/-- the rows so far: since w -/
structure ROut (w wo : World) (cam : Int) (cs : List (List Cl)) (v8 v9 : Value) (pl : List (List PC)) : Prop where
  bel : Below w.heap.size w wo
  p : PAll wo w.heap.size v8 pl
  s : SAll wo w.heap.size v9 pl
  nw : NewP wo cam w.heap.size pl.flatten
  cl : clsOf pl = cs
theorem RIn.start (wo : World) (cam : Int) : RIn wo wo cam [] (.slice none 0 0) (.slice none 0 0) [] := ⟨Below.refl _ _, World.ownsRow_nil _ _ _ _, World.ownsRow_nil _ _ _ _, ⟨fun z hz => (by cases hz), List.Pairwise.nil⟩, rfl⟩
theorem ROut.start (w : World) (cam : Int) : ROut w w cam [] (.slice none 0 0) (.slice none 0 0) [] := ⟨Below.refl _ _, ⟨[], rfl, World.ownsRow_nil _ _ _ _, fun i u l h => by simp at h⟩, ⟨[], rfl, World.ownsRow_nil _ _ _ _, fun i u l h => by simp at h⟩, ⟨fun z hz => (by cases hz), List.Pairwise.nil⟩, rfl⟩
/-- one more: begun in wb, written to the one row, then to the other -/
theorem RIn.next {cs : List Cl} {v12 v13 : Value} (h : RIn wo wr cam cs v12 v13 row) {wb wp : World} {o1 o2 o3 : Obj} (hb : Below wr.heap.size wr wb) (hk : wr.heap.size ≤ k) (hn : VpAt wb cam c k 0 0 .new)
    (h12 : wp.ownsRow wo.heap.size 80 6 v (row.length + 1) ((row.flatMap fun z => (prA z.1 z.2).toList) ++ (prA k c).toList)) (hg1 : ((wb.alloc o1).alloc o2).grownBy wp v12.ownBlock)
    (h13 : w'.ownsRow wo.heap.size 141 1 v' (row.length + 1) ((row.map fun z => procV z.1 z.2) ++ [procV k c])) (hg2 : (wp.alloc o3).grownBy w' v13.ownBlock) : RIn wo w' cam (cs ++ [c]) v v' (row ++ [(k, c)]) := by
  have hsz := h.bel.size
  have f1 : Fr (fun b => v12.ownBlock = some b) wb wp := (((Fr.refl (fun b => v12.ownBlock = some b) wb).alloc o1).alloc o2).grown hg1 (fun k e => .inl e)
  have f2 : Fr (fun b => v13.ownBlock = some b) wp w' := ((Fr.refl (fun b => v13.ownBlock = some b) wp).alloc o3).grown hg2 (fun k e => .inl e)
  have p0 := h.p.bl hb
  have s0 := h.s.bl hb
  have n0 := h.nw.snoc hb hk hsz hn
  have s1 : SRow wp wo.heap.size v13 row := s0.fr f1 fun k cs hb e => own_ne p0 hb (by decide) e
  have n1 := n0.fr f1 fun k t cs hb ht e => by
    refine own_ne p0 hb ?_ e
    rcases ht with rfl | rfl | rfl | rfl <;> decide
  have n2 := n1.fr f2 fun k t cs hb ht e => by
    refine own_ne s1 hb ?_ e
    rcases ht with rfl | rfl | rfl | rfl <;> decide
  have p1 : PRow wp wo.heap.size v (row ++ [(k, c)]) := by
    show wp.ownsRow _ _ 6 _ _ _
    rw [List.length_append, List.flatMap_append]
    simpa using h12
  have p2 := p1.fr f2 fun k cs hb e => own_ne s1 hb (by decide) e
  refine ⟨?_, p2, ?_, n2, by rw [List.map_append, h.cl]; rfl⟩
  · have b1 := h.bel.trans (hb.mono hsz)
    have b2 := b1.trans (f1.to_below b1.size fun x hx e => by have := (World.ownsRow.lt p0 x e).1; omega)
    exact b2.trans (f2.to_below b2.size fun x hx e => by have := (World.ownsRow.lt s1 x e).1; omega)
  · show w'.ownsRow _ _ 1 _ _ _
    rw [List.length_append, List.map_append]
    exact h13
/-- a row is done -/
theorem ROut.next {cs : List (List Cl)} {cr : List Cl} {v8 v9 v12 v13 : Value} (h : ROut w wo cam cs v8 v9 pl) (hi : RIn wo wr cam cr v12 v13 row) {us ss : List Value} {wp : World} {o1 o2 : Obj}
    (hus : us.length = pl.length ∧ wr.ownsRow w.heap.size 73 1 v8 pl.length us ∧ ∀ (i : Nat) u l, us[i]? = some u → pl[i]? = some l → PRow wr w.heap.size u l)
    (hss : ss.length = pl.length ∧ wr.ownsRow w.heap.size 139 1 v9 pl.length ss ∧ ∀ (i : Nat) u l, ss[i]? = some u → pl[i]? = some l → SRow wr w.heap.size u l)
    (h8 : wp.ownsRow w.heap.size 73 1 v (pl.length + 1) (us ++ [v12])) (hg1 : (wr.alloc o1).grownBy wp v8.ownBlock)
    (h9 : w'.ownsRow w.heap.size 139 1 v' (pl.length + 1) (ss ++ [v13])) (hg2 : (wp.alloc o2).grownBy w' v9.ownBlock) : ROut w w' cam (cs ++ [cr]) v v' (pl ++ [row]) := by
  have hsz := h.bel.size
  have f1 : Fr (fun b => v8.ownBlock = some b) wr wp := ((Fr.refl (fun b => v8.ownBlock = some b) wr).alloc o1).grown hg1 (fun k e => .inl e)
  have f2 : Fr (fun b => v9.ownBlock = some b) wp w' := ((Fr.refl (fun b => v9.ownBlock = some b) wp).alloc o2).grown hg2 (fun k e => .inl e)
  have n0 := h.nw.join hi.nw hi.bel hsz
  have n1 := n0.fr f1 fun k t cs hb ht e => by
    refine own_ne hus.2.1 hb ?_ e
    rcases ht with rfl | rfl | rfl | rfl <;> decide
  have hs1 : wp.ownsRow w.heap.size 139 1 v9 pl.length ss := own_fr hss.2.1 f1 fun g eg e => by
    obtain ⟨cs, hb⟩ := bk_blk hss.2.1 eg
    exact own_ne hus.2.1 hb (by decide) e
  have n2 := n1.fr f2 fun k t cs hb ht e => by
    refine own_ne hs1 hb ?_ e
    rcases ht with rfl | rfl | rfl | rfl <;> decide
  have P1 : ∀ {v : Value} {l : List PC}, PRow wr w.heap.size v l → PRow wp w.heap.size v l := fun h => h.fr f1 fun k cs hb e => own_ne hus.2.1 hb (by decide) e
  have P2 : ∀ {b : Nat} {v : Value} {l : List PC}, PRow wp b v l → PRow w' b v l := fun h => h.fr f2 fun k cs hb e => own_ne hs1 hb (by decide) e
  have S1 : ∀ {v : Value} {l : List PC}, SRow wr w.heap.size v l → SRow wp w.heap.size v l := fun h => h.fr f1 fun k cs hb e => own_ne hus.2.1 hb (by decide) e
  have S2 : ∀ {v : Value} {l : List PC}, SRow wp w.heap.size v l → SRow w' w.heap.size v l := fun h => h.fr f2 fun k cs hb e => own_ne hs1 hb (by decide) e
  have pr : PRow wr w.heap.size v12 row := ownRow_lo (h := hi.p) (hB := hsz)
  have sr : SRow wr w.heap.size v13 row := ownRow_lo (h := hi.s) (hB := hsz)
  have pa := RowsOf.push hus h8 P1 pr
  have pa2 : PAll w' w.heap.size v (pl ++ [row]) := RowsOf.fr P2 pa f2 fun k cs hb e => own_ne hs1 hb (by decide) e
  have sa : SAll w' w.heap.size v' (pl ++ [row]) := RowsOf.push (w := wp) ⟨hss.1, hs1, fun i u l a b => S1 (hss.2.2 i u l a b)⟩ h9 S2 (S1 sr)
  refine ⟨?_, pa2, sa, by rw [List.flatten_append]; simpa using n2, by unfold clsOf; rw [List.map_append]; have := h.cl; unfold clsOf at this; rw [this]; simp [hi.cl]⟩
  have b0 := h.bel.trans (hi.bel.mono hsz)
  have b1 := b0.trans (f1.to_below b0.size fun x hx e => by have := (World.ownsRow.lt hus.2.1 x e).1; omega)
  exact b1.trans (f2.to_below b1.size fun x hx e => by have := (World.ownsRow.lt hs1 x e).1; omega)
end
end Go.Proofs.Ytenlgfagfpaenaa

/-
  Plans that are built anew, with cells of their own. No condition.
-/
import Derived.Test.YtkaplifhaafpdaaMApPure
namespace Go.Proofs.Ytkaplifhaafpdaa
open Go Go.RowKit
set_option linter.unusedSimpArgs false
set_option linter.unusedVariables false
theorem sumt_take {α : Type} (f : α → Nat) {l : List α} {k : Nat} {x : α} (h : l[k]? = some x) : ((l.take (k + 1)).map f).sum = ((l.take k).map f).sum + f x := by
  rw [List.take_add_one, h]
  simp
theorem sumt_le {α : Type} (f : α → Nat) (l : List α) (k : Nat) : ((l.take k).map f).sum ≤ (l.map f).sum := by
  have : l = l.take k ++ l.drop k := (List.take_append_drop k l).symm
  have h2 : (l.map f).sum = ((l.take k ++ l.drop k).map f).sum := by rw [← this]
  rw [h2, List.map_append, List.sum_append]
  omega
theorem app_n {e t : TypeId} {z : Value} {size bytes : Nat} (hinfo : (Try.prog.info? e).map (fun i => (i.zero, i.size, i.bytes)) = some (some z, size, bytes)) (ht : Try.prog.underlying t = some (.slice e)) (hz : z.cells.size = size) (hsz : 0 < size) (hby : bytes ≤ 64)
    {ops : Array Oper} {rest : List Oper} {o : Oper} {a : Act} {Q : Exit → Act → World → Prop} {w12 : World} {v : Value} {cs : List Value} {base n : Nat} {xs : List Value} (hgd : o.guard = none) (s x : Operand)
    (ho : o.op = .call { callee := .builtin .append, args := #[s, x], argTypes := #[t, t] }) (hs : a.eval s = v)
    (hown : (w12.alloc (.cells cs.toArray e)).ownsRow base e size v n xs) {bn : Nat} (hx : a.eval x = .slice (some ⟨bn, 0, none⟩) 1 1) (hbn : bn = w12.heap.size) (hcl : cs.length = size) (h1 : ∀ u ∈ cs, u.oneCell' = true) (hn : n ≤ 1000000000) (hbase : base ≤ w12.heap.size)
    (h : ∀ v' w', w'.ownsRow base e size v' (n + 1) (xs ++ cs) → (w12.alloc (.cells cs.toArray e)).grownBy w' v.ownBlock → wpList Try.prog ops Q rest (a.put o.dst v') w') :
    wpList Try.prog ops Q (o :: rest) a (w12.alloc (.cells cs.toArray e)) := by
  subst hbn
  obtain ⟨i0, hi, hz0, hz1, hz2⟩ := info_parts hinfo
  have hbb : (n + 1) * bytes ≤ 140737488355328 := by
    have : (n + 1) * bytes ≤ 1000000001 * 64 := Nat.mul_le_mul (by omega) hby
    omega
  refine wpList_append_own_at _ hgd s x t ho base e i0 z size bytes ht hi hz0 hz1 hz2 hz hsz v n xs hs hown ⟨w12.heap.size, 0, none⟩ 1 1 cs hx (by rw [hcl]; omega) (fun j u hu => World.news_of_block (heap_alloc_new _ _) j u (by simpa using hu)) h1 (by unfold maxLen; omega) hbb (by simp; omega) ?_
  intro v' w' k1 k2 _ _
  exact h v' w' k1 k2
theorem infoDo5 : (Try.prog.info? 63).map (fun i => (i.zero, i.size, i.bytes)) = some (some (.agg #[.int .u8 0, .int .u64 0, .int .u64 0, .int .u64 0, .slice none 0 0]), 5, 56) := by kernel_rfl
theorem infoPlan2 : (Try.prog.info? 59).map (fun i => (i.zero, i.size, i.bytes)) = some (some (.agg #[.bool false, .slice none 0 0]), 2, 32) := by kernel_rfl
theorem infoPls : (Try.prog.info? 56).map (fun i => (i.zero, i.size, i.bytes)) = some (some (.slice none 0 0), 1, 24) := by kernel_rfl
def Do.own (i : Nat) (d : Do) : Do := { d with addr := 60 + 10 * (i : Int) + d.addr % 10, kind := if d.kind = 5 then 4 else d.kind }
def Plan.own (i : Nat) (p : Plan) : Plan := ⟨p.none, p.l.map (Do.own i)⟩
def ownN (ll : List (List Plan)) (k : Nat) : List (List Plan) := (List.range k).map fun i => (ll.getD i []).map (Plan.own i)
def doC (x : Do × Value) : List Value := [.int .u8 x.1.kind, .int .u64 x.1.addr, .int .u64 x.1.a, .int .u64 x.1.b, x.2]
def planC (x : Plan × Value) : List Value := [.bool x.1.none, x.2]
structure DRow (W w : World) (base : Nat) (v : Value) (rows : List (Do × Value)) : Prop where
  own : w.ownsRow base 63 5 v rows.length (rows.flatMap doC)
  va : ∀ x ∈ rows, ∃ ap ac, x.2 = .slice ap x.1.vals.length ac ∧ VA W x.2 x.1.vals ∧ (ap = none → ac = 0)
def DosOf (W w : World) (base : Nat) (v : Value) (L : List Do) : Prop := ∃ rows, DRow W w base v rows ∧ rows.map (·.1) = L
structure PRow (W w : World) (base : Nat) (v : Value) (rows : List (Plan × Value)) : Prop where
  own : w.ownsRow base 59 2 v rows.length (rows.flatMap planC)
  ds : ∀ x ∈ rows, DosOf W w base x.2 x.1.l
def PlansOf (W w : World) (base : Nat) (v : Value) (L : List Plan) : Prop := ∃ rows, PRow W w base v rows ∧ rows.map (·.1) = L
structure LRow (W w : World) (base : Nat) (v : Value) (rows : List (List Plan × Value)) : Prop where
  own : w.ownsRow base 56 1 v rows.length (rows.map (·.2))
  ps : ∀ x ∈ rows, PlansOf W w base x.2 x.1
def AllOf (W w : World) (base : Nat) (v : Value) (L : List (List Plan)) : Prop := ∃ rows, LRow W w base v rows ∧ rows.map (·.1) = L
section
variable {W w w' w1 : World} {base base' : Nat} {v v' u : Value} {S : Nat → Prop} {i k : Nat} {ll : List (List Plan)}
theorem fm_get {α β : Type} (f : α → List β) (c : Nat) (hc : ∀ x, (f x).length = c) : ∀ (rows : List α) (k j : Nat) (x : α), rows[k]? = some x → j < c → (rows.flatMap f)[k * c + j]? = (f x)[j]?
  | [], k, j, x, h, _ => by simp at h
  | y :: rows, 0, j, x, h, hj => by
    have h : y = x := by simpa using h
    subst h
    rw [List.flatMap_cons, Nat.zero_mul, Nat.zero_add, List.getElem?_append_left (by rw [hc]; exact hj)]
  | y :: rows, k + 1, j, x, h, hj => by
    have h : rows[k]? = some x := by simpa using h
    rw [List.flatMap_cons, List.getElem?_append_right (by rw [hc, Nat.add_mul]; omega), hc]
    rw [show (k + 1) * c + j - c = k * c + j by rw [Nat.add_mul]; omega]
    exact fm_get f c hc rows k j x h hj
theorem DosOf.fr {L : List Do} (h : DosOf W w base v L) (hf : Fr S w w') (hS : ∀ k cs, Blk w k 63 cs → ¬ S k) : DosOf W w' base v L := by
  obtain ⟨rows, h, e⟩ := h
  exact ⟨rows, ⟨own_fr h.own hf (fun g eg => by obtain ⟨cs, hb⟩ := bk_blk h.own eg; exact hS g cs hb), h.va⟩, e⟩
theorem DosOf.low {L : List Do} (h : DosOf W w base v L) (hb : base' ≤ base) : DosOf W w base' v L := by
  obtain ⟨rows, h, e⟩ := h
  exact ⟨rows, ⟨own_base h.own hb, h.va⟩, e⟩
theorem PlansOf.fr {L : List Plan} (h : PlansOf W w base v L) (hf : Fr S w w') (hS : ∀ k cs, Blk w k 63 cs → ¬ S k) (hS2 : ∀ k cs, Blk w k 59 cs → ¬ S k) : PlansOf W w' base v L := by
  obtain ⟨rows, h, e⟩ := h
  exact ⟨rows, ⟨own_fr h.own hf (fun g eg => by obtain ⟨cs, hb⟩ := bk_blk h.own eg; exact hS2 g cs hb), fun x hx => (h.ds x hx).fr hf hS⟩, e⟩
theorem PlansOf.low {L : List Plan} (h : PlansOf W w base v L) (hb : base' ≤ base) : PlansOf W w base' v L := by
  obtain ⟨rows, h, e⟩ := h
  exact ⟨rows, ⟨own_base h.own hb, fun x hx => (h.ds x hx).low hb⟩, e⟩
theorem AllOf.bl {L : List (List Plan)} (h : AllOf W w base v L) (hb : Below w.heap.size w w') : AllOf W w' base v L := by
  obtain ⟨rows, h, e⟩ := h
  have f : Fr (fun _ => False) w w' := Fr.of_below hb
  exact ⟨rows, ⟨own_fr h.own f (fun _ _ e => e), fun x hx => (h.ps x hx).fr f (fun _ _ _ e => e) (fun _ _ _ e => e)⟩, e⟩
theorem PlansOf.bl {L : List Plan} (h : PlansOf W w base v L) (hb : Below w.heap.size w w') : PlansOf W w' base v L := h.fr (Fr.of_below (S := fun _ => False) hb) (fun _ _ _ e => e) (fun _ _ _ e => e)
theorem DosOf.bl {L : List Do} (h : DosOf W w base v L) (hb : Below w.heap.size w w') : DosOf W w' base v L := h.fr (Fr.of_below (S := fun _ => False) hb) (fun _ _ _ e => e)
theorem DosOf.nil : DosOf W w base (.slice none 0 0) [] := ⟨[], ⟨World.ownsRow_nil _ _ _ _, fun x hx => by simp at hx⟩, rfl⟩
theorem PlansOf.nil : PlansOf W w base (.slice none 0 0) [] := ⟨[], ⟨World.ownsRow_nil _ _ _ _, fun x hx => by simp at hx⟩, rfl⟩
theorem AllOf.nil : AllOf W w base (.slice none 0 0) [] := ⟨[], ⟨World.ownsRow_nil _ _ _ _, fun x hx => by simp at hx⟩, rfl⟩
theorem DRow.push {rows : List (Do × Value)} (h : DRow W w base v rows) {d : Do} {ap : Option Addr} {ac : Nat} (hown : w'.ownsRow base 63 5 v' (rows.length + 1) (rows.flatMap doC ++ [.int .u8 d.kind, .int .u64 d.addr, .int .u64 d.a, .int .u64 d.b, .slice ap d.vals.length ac])) (hv : VA W (.slice ap d.vals.length ac) d.vals) (hn : ap = none → ac = 0) : DRow W w' base v' (rows ++ [(d, .slice ap d.vals.length ac)]) := by
  refine ⟨?_, fun x hx => ?_⟩
  · rw [List.flatMap_append]
    simpa [doC] using hown
  · rcases List.mem_append.1 hx with hx | hx
    · exact h.va x hx
    · rw [List.mem_singleton] at hx; subst hx
      exact ⟨ap, ac, rfl, hv, hn⟩
theorem PRow.push {rows : List (Plan × Value)} (h : PRow W w base v rows) {o : Obj} {p : Plan} (hown : w'.ownsRow base 59 2 v' (rows.length + 1) (rows.flatMap planC ++ [.bool p.none, u])) (hg : (w.alloc o).grownBy w' v.ownBlock) (hd : DosOf W w base u p.l) : PlansOf W w' base v' (rows.map (·.1) ++ [p]) := by
  have f : Fr (fun b => v.ownBlock = some b) w w' := ((Fr.refl (fun b => v.ownBlock = some b) w).alloc o).grown hg (fun k e => .inl e)
  have hS : ∀ k cs, Blk w k 63 cs → ¬ v.ownBlock = some k := fun k cs hb e => own_ne h.own hb (by decide) e
  refine ⟨rows ++ [(p, u)], ⟨?_, fun x hx => ?_⟩, by simp⟩
  · rw [List.flatMap_append]
    simpa [planC] using hown
  · rcases List.mem_append.1 hx with hx | hx
    · exact (h.ds x hx).fr f hS
    · rw [List.mem_singleton] at hx; subst hx
      exact hd.fr f hS
theorem LRow.push {rows : List (List Plan × Value)} (h : LRow W w base v rows) {o : Obj} {l : List Plan} (hown : w'.ownsRow base 56 1 v' (rows.length + 1) (rows.map (·.2) ++ [u])) (hg : (w.alloc o).grownBy w' v.ownBlock) (hd : PlansOf W w base u l) : AllOf W w' base v' (rows.map (·.1) ++ [l]) := by
  have f : Fr (fun b => v.ownBlock = some b) w w' := ((Fr.refl (fun b => v.ownBlock = some b) w).alloc o).grown hg (fun k e => .inl e)
  have hS : ∀ k cs, Blk w k 63 cs → ¬ v.ownBlock = some k := fun k cs hb e => own_ne h.own hb (by decide) e
  have hS2 : ∀ k cs, Blk w k 59 cs → ¬ v.ownBlock = some k := fun k cs hb e => own_ne h.own hb (by decide) e
  refine ⟨rows ++ [(l, u)], ⟨?_, fun x hx => ?_⟩, by simp⟩
  · simpa using hown
  · rcases List.mem_append.1 hx with hx | hx
    · exact (h.ps x hx).fr f hS hS2
    · rw [List.mem_singleton] at hx; subst hx
      exact hd.fr f hS hS2
theorem dos_next {wk wr w5 : World} {a pc : Nat} {pp ap : Option Addr} {ac : Nat} {bn : Bool} {d : Do} {rows : List (Do × Value)} {o1 o2 : Obj} (h0 : Below wk.heap.size wk wr) (hB : Blk wr wk.heap.size 59 #[.bool bn, .slice pp a pc]) (hr : DRow W wr (wk.heap.size + 1) (.slice pp a pc) rows)
    (hown : w5.ownsRow (wk.heap.size + 1) 63 5 v' (rows.length + 1) (rows.flatMap doC ++ [.int .u8 d.kind, .int .u64 d.addr, .int .u64 d.a, .int .u64 d.b, .slice ap d.vals.length ac])) (hg : ((wr.alloc o1).alloc o2).grownBy w5 (Value.slice pp a pc).ownBlock) (hv : VA W (.slice ap d.vals.length ac) d.vals) (hn : ap = none → ac = 0) :
    (w5.cell? ⟨wk.heap.size, 1, none⟩ = some (.slice pp a pc) ∧ w5.frozen? ⟨wk.heap.size, 1, none⟩ = false) ∧ Below wk.heap.size wk (w5.setCell ⟨wk.heap.size, 1, none⟩ v') ∧ Blk (w5.setCell ⟨wk.heap.size, 1, none⟩ v') wk.heap.size 59 #[.bool bn, v'] ∧ DRow W (w5.setCell ⟨wk.heap.size, 1, none⟩ v') (wk.heap.size + 1) v' (rows ++ [(d, .slice ap d.vals.length ac)]) := by
  have hne : ∀ k, (Value.slice pp a pc).ownBlock = some k → wk.heap.size + 1 ≤ k := fun k e => own_ge hr.own e
  have f : Fr (fun b => (Value.slice pp a pc).ownBlock = some b) wr w5 := (((Fr.refl (fun b => (Value.slice pp a pc).ownBlock = some b) wr).alloc o1).alloc o2).grown hg (fun k e => .inl e)
  have hb5 : Blk w5 wk.heap.size 59 #[.bool bn, .slice pp a pc] := hB.fr f (fun e => by have := hne _ e; omega)
  have f2 : Fr (fun b => b = wk.heap.size) w5 (w5.setCell ⟨wk.heap.size, 1, none⟩ v') := (Fr.refl (fun b => b = wk.heap.size) w5).put (p := ⟨wk.heap.size, 1, none⟩) (.inl rfl) _
  have b5 : Below wk.heap.size wk w5 := h0.trans (f.to_below h0.size fun k hk e => by have := hne k e; omega)
  have hd := hr.push (w' := w5) hown hv hn
  refine ⟨⟨hb5.cell 1, hb5.cold 1⟩, b5.trans (f2.to_below b5.size fun k hk e => by omega), (hb5.put 1 v').eq (by simp), ⟨own_fr hd.own f2 (fun g e e2 => by have := own_ge hd.own e; omega), hd.va⟩⟩
theorem grow_bel {w0 : World} {B : Nat} {o : Obj} (h : Below B w0 w) (hB : B ≤ w.heap.size) (hb : ∀ g, v.ownBlock = some g → B ≤ g) (hg : (w.alloc o).grownBy w' v.ownBlock) : Below B w0 w' := by
  have f : Fr (fun b => v.ownBlock = some b) w w' := ((Fr.refl (fun b => v.ownBlock = some b) w).alloc o).grown hg (fun k e => .inl e)
  exact h.trans (f.to_below hB fun k hk e => by have := hb k e; omega)
theorem own_at {e : TypeId} {size n : Nat} {xs : List Value} (h : w.ownsRow base e size v n xs) : ∃ p c, v = .slice p n c ∧ (p = none → c = 0) ∧ ∀ (j : Nat) y, xs[j]? = some y → ∃ g, p = some ⟨g, 0, none⟩ ∧ g < w.heap.size ∧ w.cell? ⟨g, j, none⟩ = some y := by
  rcases id h.2 with ⟨rfl, h2⟩ | ⟨g, cap, cur, rfl, -, hb, -⟩
  · subst h2
    refine ⟨none, 0, rfl, fun _ => rfl, fun j y hj => ?_⟩
    have := (List.getElem?_eq_some_iff.1 hj).1
    have := h.1
    omega
  · exact ⟨some ⟨g, 0, none⟩, cap, rfl, (by intro e; cases e), fun j y hj => ⟨g, rfl, own_lt h rfl, own_cell h hj⟩⟩
theorem DosOf.at {L : List Do} (h : DosOf W w base v L) (hW : Below W.heap.size W w) : DosAt w v L := by
  obtain ⟨rows, h, rfl⟩ := h
  obtain ⟨p, c, rfl, hp, hc⟩ := own_at h.own
  refine ⟨p, c, by rw [List.length_map], hp, fun k d hk => ?_⟩
  obtain ⟨x, hx, rfl⟩ : ∃ x, rows[k]? = some x ∧ x.1 = d := by
    rw [List.getElem?_map] at hk
    cases hr : rows[k]? with
    | none => rw [hr] at hk; cases hk
    | some x => rw [hr] at hk; injection hk with hk; exact ⟨x, rfl, hk⟩
  obtain ⟨ap, ac, e1, e2, e3⟩ := h.va x (List.mem_of_getElem? hx)
  have get := fm_get doC 5 (fun x => rfl) rows k
  obtain ⟨g, rfl, hg, c0⟩ := hc (k * 5 + 0) _ (get 0 x hx (by omega))
  have cc : ∀ j y, j < 5 → (doC x)[j]? = some y → w.cell? ⟨g, 0 + k * 5 + j, none⟩ = some y := fun j y hj hy => by
    obtain ⟨g', e, _, c1⟩ := hc (k * 5 + j) y ((get j x hx hj).trans hy)
    injection e with e
    injection e with e _ _
    subst e
    rw [Nat.zero_add]; exact c1
  refine ⟨g, 0, ap, ac, rfl, ⟨hg, cc 0 _ (by omega) rfl, cc 1 _ (by omega) rfl, cc 2 _ (by omega) rfl, cc 3 _ (by omega) rfl, by rw [← e1]; exact cc 4 _ (by omega) rfl⟩, ?_, e3⟩
  rw [← e1]
  exact e2.fr (Fr.of_below (S := fun _ => False) hW) (fun _ _ _ _ e => e)
theorem PlansOf.at {L : List Plan} (h : PlansOf W w base v L) (hW : Below W.heap.size W w) : PlanAt w v L := by
  obtain ⟨rows, h, rfl⟩ := h
  obtain ⟨p, c, rfl, hp, hc⟩ := own_at h.own
  refine ⟨p, c, by rw [List.length_map], hp, fun k d hk => ?_⟩
  obtain ⟨x, hx, rfl⟩ : ∃ x, rows[k]? = some x ∧ x.1 = d := by
    rw [List.getElem?_map] at hk
    cases hr : rows[k]? with
    | none => rw [hr] at hk; cases hk
    | some x => rw [hr] at hk; injection hk with hk; exact ⟨x, rfl, hk⟩
  have get := fm_get planC 2 (fun x => rfl) rows k
  obtain ⟨g, rfl, hg, c0⟩ := hc (k * 2 + 0) _ (get 0 x hx (by omega))
  obtain ⟨g', e, _, c1⟩ := hc (k * 2 + 1) _ (get 1 x hx (by omega))
  injection e with e
  injection e with e _ _
  subst e
  exact ⟨g, 0, x.2, rfl, hg, by rw [Nat.zero_add]; exact c0, by rw [Nat.zero_add]; exact c1, (h.ds x (List.mem_of_getElem? hx)).at hW⟩
theorem AllOf.at {L : List (List Plan)} (h : AllOf W w base v L) (hW : Below W.heap.size W w) : PlansAt w v L := by
  obtain ⟨rows, h, rfl⟩ := h
  obtain ⟨p, c, rfl, hp, hc⟩ := own_at h.own
  refine ⟨p, c, by rw [List.length_map], hp, fun k d hk => ?_⟩
  obtain ⟨x, hx, rfl⟩ : ∃ x, rows[k]? = some x ∧ x.1 = d := by
    rw [List.getElem?_map] at hk
    cases hr : rows[k]? with
    | none => rw [hr] at hk; cases hk
    | some x => rw [hr] at hk; injection hk with hk; exact ⟨x, rfl, hk⟩
  obtain ⟨g, rfl, hg, c0⟩ := hc k x.2 (by rw [List.getElem?_map, hx]; rfl)
  exact ⟨g, 0, x.2, rfl, hg, by rw [Nat.zero_add]; exact c0, (h.ps x (List.mem_of_getElem? hx)).at hW⟩
theorem own_wt (i : Nat) (p : Plan) : (p.own i).wt = p.wt := by
  unfold Plan.own Plan.wt Do.own
  simp [List.map_map, Function.comp_def]
theorem own_planWt (i : Nat) (l : List Plan) : planWt (l.map (Plan.own i)) = planWt l := by
  unfold planWt
  rw [List.map_map]
  congr 3
  funext p
  exact own_wt i p
theorem ownN_len (ll : List (List Plan)) (k : Nat) : (ownN ll k).length = k := by simp [ownN]
theorem ownN_succ (ll : List (List Plan)) (k : Nat) : ownN ll (k + 1) = ownN ll k ++ [(ll.getD k []).map (Plan.own k)] := by simp [ownN, List.range_succ]
theorem ownN_get {l : List Plan} (h : (ownN ll k)[i]? = some l) : i < k ∧ l = (ll.getD i []).map (Plan.own i) := by
  have hi := (List.getElem?_eq_some_iff.1 h).1
  rw [ownN_len] at hi
  unfold ownN at h
  rw [List.getElem?_map, List.getElem?_range hi] at h
  simp at h
  exact ⟨hi, h.symm⟩
theorem ownN_wt (ll : List (List Plan)) : ∀ k, k ≤ ll.length → plansWt (ownN ll k) = 1 + ((ll.take k).map planWt).sum
  | 0, _ => by simp [ownN, plansWt]
  | k + 1, hk => by
    have ih := ownN_wt ll k (by omega)
    obtain ⟨l, hl⟩ : ∃ l, ll[k]? = some l := ⟨_, List.getElem?_eq_getElem (by omega)⟩
    rw [ownN_succ, sumt_take planWt hl]
    unfold plansWt at ih ⊢
    rw [List.map_append, List.sum_append]
    simp only [List.map_cons, List.map_nil, List.sum_cons, List.sum_nil, own_planWt]
    have e : ll.getD k [] = l := by rw [List.getD_eq_getElem?_getD, hl]; rfl
    rw [e]
    omega
theorem ownN_wt_le (hk : k ≤ ll.length) (hw : plansWt ll ≤ 1048576) : plansWt (ownN ll k) ≤ 1048576 := by
  rw [ownN_wt ll k hk]
  have := sumt_le planWt ll k
  unfold plansWt at hw
  omega
theorem ownN_apart (hk : k ≤ 10) : Apart (ownN ll k) := by
  intro i l hl p hp d hd
  obtain ⟨hi, rfl⟩ := ownN_get hl
  obtain ⟨p0, hp0, rfl⟩ := List.mem_map.1 hp
  obtain ⟨d0, hd0, rfl⟩ := List.mem_map.1 hd
  refine ⟨?_, ?_⟩
  · simp only [Do.own]; split <;> omega
  · simp only [Do.own, inB]; omega
theorem ownN_fits (hf : ∀ l ∈ ll, ∀ y ∈ l, ∀ d ∈ y.l, d.fits) : ∀ l ∈ ownN ll k, ∀ y ∈ l, ∀ d ∈ y.l, d.fits := by
  intro l hl p hp d hd
  obtain ⟨i, hl⟩ := List.getElem?_of_mem hl
  obtain ⟨hi, rfl⟩ := ownN_get hl
  obtain ⟨p0, hp0, rfl⟩ := List.mem_map.1 hp
  obtain ⟨d0, hd0, rfl⟩ := List.mem_map.1 hd
  have hl0 : ll.getD i [] ∈ ll := by
    rw [List.getD_eq_getElem?_getD] at hp0 ⊢
    cases hq : ll[i]? with
    | none => rw [hq] at hp0; simp at hp0
    | some l0 => exact List.mem_of_getElem? hq
  have h := hf _ hl0 _ hp0 _ hd0
  unfold Do.fits at h ⊢
  simp only [Do.own]
  refine ⟨?_, by omega⟩
  split <;> omega
end
end Go.Proofs.Ytkaplifhaafpdaa

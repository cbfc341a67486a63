/-
  A run of both, walked: the program's calls, the document's, their memories. No condition.
-/
import Derived.Test.YtfbdgodebeggbaaCamRun
import Derived.Test.YtfbdgodebeggbaaSameTr
import Derived.Deep.DeepCutAuto
import Derived.Deep.LoopGhost
import Derived.Maps.AppendAt
namespace Go.Proofs.Ytfbdgodebeggbaa
open Go Go.RowKit
set_option linter.unusedSimpArgs false
set_option linter.unusedVariables false
/-- nothing is to be done by this pick -/
def RS.idle (th : List (List (Bool × Int))) (s : RS) (p : Int) : Bool :=
  decide (p < 0) || decide ((th.length : Int) ≤ p) || ((s.now.getD p.toNat none).isNone && decide ((th.getD p.toNat []).length ≤ s.at_.getD p.toNat 0))
/-- a thread's next call begins, if none is under way -/
def RS.begin (c : Int) (th : List (List (Bool × Int))) (i t : Nat) (s : RS) : RS :=
  match s.now.getD t none with
  | some _ => s
  | none => { s with all := s.all ++ [{ CS.fresh c ((th.getD t []).getD (s.at_.getD t 0) (false, 0)).1 ((th.getD t []).getD (s.at_.getD t 0) (false, 0)).2 with fr := i }], now := s.now.set t (some s.all.length), at_ := s.at_.set t (s.at_.getD t 0 + 1) }
/-- a step of the call under way -/
def RS.step (i t : Nat) (s : RS) : RS :=
  match s.now.getD t none with
  | none => s
  | some j =>
    if ((s.all.getD j (CS.fresh 0 false 0)).step s.A t).1.fin then { s with all := s.all.set j (((s.all.getD j (CS.fresh 0 false 0)).step s.A t).1.ended i), now := s.now.set t none, A := ((s.all.getD j (CS.fresh 0 false 0)).step s.A t).2 }
    else { s with all := s.all.set j ((s.all.getD j (CS.fresh 0 false 0)).step s.A t).1, A := ((s.all.getD j (CS.fresh 0 false 0)).step s.A t).2 }
def RS.one (c : Int) (th : List (List (Bool × Int))) (i : Nat) (p : Int) (s : RS) : RS :=
  if s.idle th p then s else (s.begin c th i p.toNat).step i p.toNat
def RS.start (c f : Int) (n : Nat) : RS := ⟨[], List.replicate n none, List.replicate n 0, (Mem.made 128).store (-1) c f⟩
def RS.upto (c f : Int) (th : List (List (Bool × Int))) (picks : List Int) : Nat → RS
  | 0 => RS.start c f th.length
  | k + 1 => (RS.upto c f th picks k).one c th k (picks.getD k 0)
/-- what came in -/
def PicksAt (w : World) (v : Value) (l : List Int) : Prop :=
  ∃ p c, v = .slice p l.length c ∧ ∀ k x, l[k]? = some x → ∃ b o, p = some ⟨b, o, none⟩ ∧ b < w.heap.size ∧ w.cell? ⟨b, o + k, none⟩ = some (.int .i64 x)
def CallsAt (w : World) (v : Value) (l : List (Bool × Int)) : Prop :=
  ∃ p c, v = .slice p l.length c ∧ ∀ k x, l[k]? = some x → ∃ b o, p = some ⟨b, o, none⟩ ∧ b < w.heap.size ∧ w.cell? ⟨b, o + k * 2, none⟩ = some (.bool x.1) ∧ w.cell? ⟨b, o + k * 2 + 1, none⟩ = some (.int .u64 x.2)
def ThreadsAt (w : World) (v : Value) (l : List (List (Bool × Int))) : Prop :=
  ∃ p c, v = .slice p l.length c ∧ ∀ t x, l[t]? = some x → ∃ b o u, p = some ⟨b, o, none⟩ ∧ b < w.heap.size ∧ w.cell? ⟨b, o + t, none⟩ = some u ∧ CallsAt w u x
section
variable {w w' w1 : World} {F G S C : Nat → Prop} {rm bm r pb np tp v m : Nat} {A : Mem} {c : CS} {made : Int} {lab lab' : Nat → Nat} {P : RP} {allv u : Value} {s : RS} {n : Nat} {picks : List Int} {th : List (List (Bool × Int))}
theorem PicksAt.below (h : PicksAt w u picks) (hb : Below w.heap.size w w') : PicksAt w' u picks := by
  obtain ⟨p, c, rfl, h⟩ := h
  refine ⟨p, c, rfl, fun k x hk => ?_⟩
  obtain ⟨b, o, h1, h2, h3⟩ := h k x hk
  exact ⟨b, o, h1, Nat.lt_of_lt_of_le h2 hb.size, (hb.cell (p := ⟨b, o + k, none⟩) h2).trans h3⟩
theorem CallsAt.below {l : List (Bool × Int)} (h : CallsAt w u l) (hb : Below w.heap.size w w') : CallsAt w' u l := by
  obtain ⟨p, c, rfl, h⟩ := h
  refine ⟨p, c, rfl, fun k x hk => ?_⟩
  obtain ⟨b, o, h1, h2, h3, h4⟩ := h k x hk
  exact ⟨b, o, h1, Nat.lt_of_lt_of_le h2 hb.size, (hb.cell (p := ⟨b, o + k * 2, none⟩) h2).trans h3, (hb.cell (p := ⟨b, o + k * 2 + 1, none⟩) h2).trans h4⟩
theorem ThreadsAt.below (h : ThreadsAt w u th) (hb : Below w.heap.size w w') : ThreadsAt w' u th := by
  obtain ⟨p, c, rfl, h⟩ := h
  refine ⟨p, c, rfl, fun k x hk => ?_⟩
  obtain ⟨b, o, y, h1, h2, h3, h4⟩ := h k x hk
  exact ⟨b, o, y, h1, Nat.lt_of_lt_of_le h2 hb.size, (hb.cell (p := ⟨b, o + k, none⟩) h2).trans h3, h4.below hb⟩
theorem made_nils (z : Value) (n : Nat) : madeCells #[z] n = (List.replicate n z).toArray := by
  apply Array.toList_inj.1
  rw [toList_madeCells_one]
theorem run_nils {ty e : TypeId} {z : Value} {bts : Nat} (hu : Try.prog.underlying ty = some (.slice e)) (hi : (Try.prog.info? e).map (fun i => (i.zero, i.size, i.bytes)) = some (some z, 1, bts)) (hz : z.cells = #[z]) (hb : bts ≤ 8) (n : Nat) (h : n ≤ 4194304) (u : World) :
    (Instr.makeSlice ty (.int .i64 (n : Int)) (.int .i64 (n : Int))).run Try.prog u = .ok (.slice (some ⟨u.heap.size, 0, none⟩) n n) (u.alloc (.cells (List.replicate n z).toArray e)) := by
  obtain ⟨i0, hi, hz0, hz1, hz2⟩ := info_parts hi
  have h := run_make (P := Try.prog) u ty e i0 z hu hi hz0 .i64 .i64 (n : Int) (n : Int) (by omega) (Int.le_refl _) (by rw [hz2]; have : n * bts ≤ n * 8 := Nat.mul_le_mul_left n hb; have := Nat.mul_comm n bts; simp; omega) (by omega)
  rw [← made_nils]
  simpa [hz1, hz] using h
open Classical in
/-- whose block: the program's memory, the document's, nobody's -/
noncomputable def labOf (F G : Nat → Prop) : Nat → Nat := fun b => if F b then 1 else if G b then 2 else 0
theorem RH.init {lab0 : Nat → Nat} {A : Mem} (h : Both w lab0 bm rm A) (n : Nat) :
    RH (((w.alloc (.cells (List.replicate n (Value.pointer none)).toArray 55)).alloc (.cells (List.replicate n (Value.int .i64 0)).toArray 3)).alloc (.cells (List.replicate n (Value.pointer none)).toArray 28))
      (fun b => if b = w.heap.size then 3 else if b = w.heap.size + 1 then 4 else if b = w.heap.size + 2 then 5 else lab0 b) ⟨bm, rm, w.heap.size, w.heap.size + 1, w.heap.size + 2, [], List.replicate n none⟩ (.slice none 0 0) ⟨[], List.replicate n none, List.replicate n 0, A⟩ 0 ∧
    RL n ⟨bm, rm, w.heap.size, w.heap.size + 1, w.heap.size + 2, [], List.replicate n none⟩ ⟨[], List.replicate n none, List.replicate n 0, A⟩ := by
  have f : Fr (fun _ => False) w (((w.alloc (.cells (List.replicate n (Value.pointer none)).toArray 55)).alloc (.cells (List.replicate n (Value.int .i64 0)).toArray 3)).alloc (.cells (List.replicate n (Value.pointer none)).toArray 28)) := (((Fr.refl (fun _ => False) w).alloc _).alloc _).alloc _
  have b1 := ((Blk.made w 55 (List.replicate n (Value.pointer none)).toArray).alloc (.cells (List.replicate n (Value.int .i64 0)).toArray 3)).alloc (.cells (List.replicate n (Value.pointer none)).toArray 28)
  have b2 := (Blk.made (w.alloc (.cells (List.replicate n (Value.pointer none)).toArray 55)) 3 (List.replicate n (Value.int .i64 0)).toArray).alloc (.cells (List.replicate n (Value.pointer none)).toArray 28)
  have b3 := Blk.made ((w.alloc (.cells (List.replicate n (Value.pointer none)).toArray 55)).alloc (.cells (List.replicate n (Value.int .i64 0)).toArray 3)) 28 (List.replicate n (Value.pointer none)).toArray
  simp only [World.size_alloc] at b2 b3
  refine ⟨⟨(h.ex (fun b hb => ?_)).fr f (fun _ _ e => e), b1.eq (by simp [RP.nowV]), b2.eq (by simp), b3.eq (by simp [viewV]), World.ownsRow_nil _ _ _ _, ?_, ?_, by simp, by simp, by simp, ?_⟩, by simp, by simp, by simp, rfl, ?_⟩
  · simp [show b ≠ w.heap.size from by omega, show b ≠ w.heap.size + 1 from by omega, show b ≠ w.heap.size + 2 from by omega]
  · intro j c p hj; simp at hj
  · intro t v hv
    have hv : (List.replicate n (none : Option Nat))[t]? = some (some v) := hv
    rw [List.getElem?_replicate] at hv
    split at hv <;> cases hv
  · intro g hg; cases hg
  · intro t j hj
    have hj : (List.replicate n (none : Option Nat))[t]? = some (some j) := hj
    rw [List.getElem?_replicate] at hj
    split at hj <;> cases hj
theorem cs_step_mem (c : CS) (A : Mem) (t : Int) : (c.step A t).2.cells.length = A.cells.length ∧ (c.step A t).2.trace.length ≤ A.trace.length + 1 ∧ ((∀ x ∈ A.trace, x.vals = []) → ∀ x ∈ (c.step A t).2.trace, x.vals = []) := by
  have hl : ∀ y, (A.load t y).cells.length = A.cells.length ∧ (A.load t y).trace.length ≤ A.trace.length + 1 ∧ ((∀ x ∈ A.trace, x.vals = []) → ∀ x ∈ (A.load t y).trace, x.vals = []) := by
    intro y
    refine ⟨rfl, by simp [Mem.load, Mem.note], fun h x hx => ?_⟩
    simp only [Mem.load, Mem.note, List.mem_append, List.mem_singleton] at hx
    rcases hx with hx | rfl
    · exact h x hx
    · rfl
  unfold CS.step
  split
  · exact ⟨rfl, by simp, fun h => h⟩
  split
  · exact hl _
  split
  · exact hl _
  · refine ⟨?_, ?_, fun h x hx => ?_⟩
    · simp only [Mem.cas, Mem.note]; split <;> simp [Mem.put]
    · simp only [Mem.cas, Mem.note]; split <;> simp [Mem.put]
    · simp only [Mem.cas, Mem.note, List.mem_append, List.mem_singleton] at hx
      rcases hx with hx | rfl
      · split at hx <;> exact h x hx
      · rfl
theorem cs_step_ok (c : CS) (A : Mem) (t : Int) (h : c.ok) : (c.step A t).1.ok := by
  obtain ⟨h1, h2, h3, h4⟩ := h
  unfold CS.step
  split
  · exact ⟨h1, h2, h3, h4⟩
  split
  · exact ⟨h1, h2, .inr rfl, h4⟩
  split
  · split
    · exact ⟨h1, h2, h3, .inr (.inl rfl)⟩
    · exact ⟨h1, h2, h3, .inr (.inr rfl)⟩
  · exact ⟨h1, h2, h3, .inr (.inr rfl)⟩
theorem RI.begin (h : RI s m) {cell : Int} (h0 : 0 ≤ cell) (i t : Nat) : RI (s.begin cell th i t) m := by
  unfold RS.begin
  split
  · exact h
  · refine ⟨h.cells, h.trace, fun c hc => ?_, h.vals⟩
    rcases List.mem_append.1 hc with hc | hc
    · exact h.ok c hc
    · rw [List.mem_singleton] at hc
      subst hc
      exact ⟨h0, h0, .inl rfl, .inl rfl⟩
theorem RI.step (h : RI s m) (i t : Nat) : RI (s.step i t) (m + 1) := by
  unfold RS.step
  split
  · exact ⟨h.cells, by have := h.trace; omega, h.ok, h.vals⟩
  · rename_i j hj
    obtain ⟨k1, k2, k3⟩ := cs_step_mem (s.all.getD j (CS.fresh 0 false 0)) s.A t
    have ko : (((s.all.getD j (CS.fresh 0 false 0)).step s.A t).1).ok := by
      refine cs_step_ok _ _ _ ?_
      rw [List.getD_eq_getElem?_getD]
      cases hc : s.all[j]? with
      | none => exact ⟨by decide, by decide, .inl rfl, .inl rfl⟩
      | some c => exact h.ok c (List.mem_of_getElem? hc)
    have ht := h.trace
    split
    · refine ⟨k1.trans h.cells, by show _ ≤ m + 1; exact Nat.le_trans k2 (by omega), fun c hc => ?_, k3 h.vals⟩
      rcases List.mem_or_eq_of_mem_set hc with hc | rfl
      · exact h.ok c hc
      · exact ko
    · refine ⟨k1.trans h.cells, by show _ ≤ m + 1; exact Nat.le_trans k2 (by omega), fun c hc => ?_, k3 h.vals⟩
      rcases List.mem_or_eq_of_mem_set hc with hc | rfl
      · exact h.ok c hc
      · exact ko
theorem upto_ri {cell first : Int} (h0 : 0 ≤ cell) (th : List (List (Bool × Int))) (picks : List Int) : ∀ k, RI (RS.upto cell first th picks k) (k + 1)
  | 0 => ⟨by simp [RS.upto, RS.start, Mem.store, Mem.note, Mem.put, Mem.made], by simp [RS.upto, RS.start, Mem.store, Mem.note, Mem.put, Mem.made], by simp [RS.upto, RS.start], by simp [RS.upto, RS.start, Mem.store, Mem.note, Mem.put, Mem.made]⟩
  | k + 1 => by
    have ih := upto_ri h0 th picks (first := first) k
    simp only [RS.upto, RS.one]
    split
    · exact ⟨ih.cells, by have := ih.trace; omega, ih.ok, ih.vals⟩
    · exact (ih.begin h0 _ _).step _ _
theorem Below.dn {B : Nat} {w w' : World} (h : Below B w w') (n : Nat) : Below B w (w'.drewN n) := ⟨h.os, h.tape, h.output, h.size, h.block⟩
theorem idle_neg {x : Int} (h : x < 0) : s.idle th x = true := by simp [RS.idle, h]
theorem idle_out {t : Nat} (h : ¬ t < th.length) : s.idle th t = true := by simp [RS.idle]; omega
theorem idle_open {t j : Nat} (h : t < th.length) (hy : s.now[t]? = some (some j)) : s.idle th t = false := by
  have : ¬ th.length ≤ t := by omega
  simp [RS.idle, hy, this]
theorem idle_end {t a : Nat} {l : List (Bool × Int)} (h : t < th.length) (hy : s.now[t]? = some none) (ha : s.at_[t]? = some a) (hl : th[t]? = some l) : s.idle th t = decide (l.length ≤ a) := by
  have : ¬ th.length ≤ t := by omega
  have h2 : ¬ (t : Int) < 0 := by omega
  simp [RS.idle, hy, ha, hl, this, h2]
theorem idle_false {x : Int} (h : s.idle th x = false) : ∃ t : Nat, x = t ∧ t < th.length := by
  by_cases hx : x < 0
  · rw [idle_neg hx] at h; cases h
  · obtain ⟨t, rfl⟩ : ∃ t : Nat, x = t := ⟨x.toNat, by omega⟩
    by_cases ht : t < th.length
    · exact ⟨t, rfl, ht⟩
    · rw [idle_out ht] at h; cases h
theorem results_tmp3 {fn : Func} {t u v : Tmp} (h : fn.results = #[.tmp t, .tmp u, .tmp v]) (tmps : Array Value) (P : Program) (w : World) :
    (results fn tmps).run P w = .ok (.tuple #[tmps.getD t undef, tmps.getD u undef, tmps.getD v undef]) w := by
  simp [results, h]
theorem infoP : (Try.prog.info? 55).map (fun i => (i.zero, i.size, i.bytes)) = some (some (.pointer none), 1, 8) := by kernel_rfl
theorem app_ptr {ops : Array Oper} {rest : List Oper} {o : Oper} {a : Act} {Q : Exit → Act → World → Prop} {w12 : World} {v : Value} {n pb : Nat} {xs : List Value} (hgd : o.guard = none) (s x : Operand)
    (ho : o.op = .call { callee := .builtin .append, args := #[s, x], argTypes := #[43, 43] }) (hs : a.eval s = v)
    (hown : (w12.alloc (.cells #[.pointer (some ⟨pb, 0, none⟩)] 55)).ownsRow 0 55 1 v n xs) (hx : a.eval x = .slice (some ⟨w12.heap.size, 0, none⟩) 1 1) (hn : n ≤ 1000000000)
    (h : ∀ v' w', w'.ownsRow 0 55 1 v' (n + 1) (xs ++ [.pointer (some ⟨pb, 0, none⟩)]) → (w12.alloc (.cells #[.pointer (some ⟨pb, 0, none⟩)] 55)).grownBy w' v.ownBlock →
      (v'.ownBlock = v.ownBlock ∨ v'.ownBlock = some (w12.alloc (.cells #[.pointer (some ⟨pb, 0, none⟩)] 55)).heap.size) → wpList Try.prog ops Q rest (a.put o.dst v') w') :
    wpList Try.prog ops Q (o :: rest) a (w12.alloc (.cells #[.pointer (some ⟨pb, 0, none⟩)] 55)) := by
  obtain ⟨i0, hi, hz0, hz1, hz2⟩ := info_parts infoP
  refine wpList_append_own_at _ hgd s x 43 ho 0 55 i0 _ 1 8 Try.underlying43 hi hz0 hz1 hz2 rfl (by decide) v n xs hs hown ⟨w12.heap.size, 0, none⟩ 1 1 [.pointer (some ⟨pb, 0, none⟩)] hx rfl (World.news_of_block (heap_alloc_new _ _)) (by simp [Value.oneCell']) (by unfold maxLen; omega) (by omega) (Nat.zero_le _) ?_
  intro v' w' h1 h2 _ h4
  exact h v' w' h1 h2 h4
theorem upto_cnt {cell first : Int} (th : List (List (Bool × Int))) (picks : List Int) : ∀ k, (RS.upto cell first th picks k).all.length ≤ k
  | 0 => by simp [RS.upto, RS.start]
  | k + 1 => by
    have ih := upto_cnt th picks (cell := cell) (first := first) k
    simp only [RS.upto, RS.one]
    have hb : ∀ s t, (RS.begin cell th k t s).all.length ≤ s.all.length + 1 := by
      intro s t
      unfold RS.begin
      split
      · omega
      · simp
    have hs : ∀ s t, (RS.step k t s).all.length = s.all.length := by
      intro s t
      unfold RS.step
      split
      · rfl
      · split <;> simp
    split
    · omega
    · rw [hs]
      have := hb (RS.upto cell first th picks k) (picks.getD k 0).toNat
      omega
theorem begin_open {cell : Int} {t j k : Nat} (hy : s.now[t]? = some (some j)) : s.begin cell th k t = s := by
  unfold RS.begin
  rw [List.getD_eq_getElem?_getD, hy]; rfl
theorem begin_new {cell : Int} {t k a : Nat} {l : List (Bool × Int)} {x : Bool × Int} (hy : s.now[t]? = some none) (ha : s.at_[t]? = some a) (hl : th[t]? = some l) (hx : l[a]? = some x) :
    s.begin cell th k t = { s with all := s.all ++ [{ CS.fresh cell x.1 x.2 with fr := k }], now := s.now.set t (some s.all.length), at_ := s.at_.set t (a + 1) } := by
  unfold RS.begin
  simp only [List.getD_eq_getElem?_getD, hy, ha, hl, hx, Option.getD_some]
theorem one_open {cell : Int} {t j k : Nat} {c : CS} (hid : s.idle th t = false) (hnow : (s.begin cell th k t).now[t]? = some (some j)) (hall : (s.begin cell th k t).all[j]? = some c) (hf : (c.step (s.begin cell th k t).A t).1.fin = false) :
    s.one cell th k t = { s.begin cell th k t with all := (s.begin cell th k t).all.set j (c.step (s.begin cell th k t).A t).1, A := (c.step (s.begin cell th k t).A t).2 } := by
  unfold RS.one
  rw [if_neg (by simp [hid])]
  unfold RS.step
  simp only [Int.toNat_natCast, List.getD_eq_getElem?_getD, hnow, hall, Option.getD_some, hf, Bool.false_eq_true, if_false]
theorem one_done {cell : Int} {t j k : Nat} {c : CS} (hid : s.idle th t = false) (hnow : (s.begin cell th k t).now[t]? = some (some j)) (hall : (s.begin cell th k t).all[j]? = some c) (hf : (c.step (s.begin cell th k t).A t).1.fin = true) :
    s.one cell th k t = { s.begin cell th k t with all := (s.begin cell th k t).all.set j ((c.step (s.begin cell th k t).A t).1.ended k), now := (s.begin cell th k t).now.set t none, A := (c.step (s.begin cell th k t).A t).2 } := by
  unfold RS.one
  rw [if_neg (by simp [hid])]
  unfold RS.step
  simp only [Int.toNat_natCast, List.getD_eq_getElem?_getD, hnow, hall, Option.getD_some, hf, if_true]
theorem fin_ended {c : CS} {i : Int} (h : c.fin = true) : (c.ended i).fin = true := h
theorem fin_step {c : CS} {A : Mem} {t : Int} (h : c.fin = true) : c.step A t = (c, A) := by
  unfold CS.step; rw [if_pos h]
theorem Did.fromView {o : Obj} {F : Nat → Prop} {bm : Nat} {th made : Int} {A : Mem} (h : Did (w.alloc o).drew w' F bm w.heap.size th made A) : PM w' (Ext F w) bm A ∧ Fr F w w' := by
  have f : Fr (fun _ => False) w (w.alloc o).drew := ((Fr.refl (fun _ => False) w).alloc o).drawn 1
  refine ⟨h.1.wide (fun k hk => by rcases hk with hk | hk; exact .inl hk; exact .inr (Nat.le_trans f.size hk)), ?_⟩
  refine ⟨h.2.2.os.trans f.os, h.2.2.tape.trans f.tape, h.2.2.output.trans f.output, Nat.le_trans f.size h.2.2.size, fun k hk hn => ?_⟩
  exact (h.2.2.block k (Nat.lt_of_lt_of_le hk f.size) (by rintro (e | e); exact hn e; omega)).trans (f.block k hk (fun e => e))
set_option maxHeartbeats 16000000 in
set_option maxRecDepth 100000 in
theorem ran_any (cell first : Int) (tv pv : Value) (w : World) (h0 : 0 ≤ cell) (ht : ThreadsAt w tv th) (hp : PicksAt w pv picks) (hn : th.length ≤ 1048576) (hk : picks.length ≤ 1048576) (hms : ∀ l ∈ th, l.length ≤ 1048576) :
    Calls Try.prog 26 #[.agg #[.int .u64 cell, .int .u64 first, tv, pv]] w fun e w' => ∃ lab P allv, e = .returned (.tuple #[allv, .pointer (some ⟨P.bm, 0, none⟩), .bool true]) ∧
      RH w' lab P allv (RS.upto cell first th picks picks.length) (2 * picks.length) ∧ RL th.length P (RS.upto cell first th picks picks.length) ∧ Below w.heap.size w w' := by
  obtain ⟨tp, tc, rfl, htc⟩ := ht
  obtain ⟨pp, pc, rfl, hpc⟩ := hp
  go_enter Try.func26, Try.ntmps26
  go_wp2_with fail
  have hbx := Blk.made w 42 #[.int .u64 cell, .int .u64 first, .slice tp th.length tc, .slice pp picks.length pc]
  have b1 := (Below.refl w.heap.size w).alloc (Nat.le_refl _) (.cells #[.int .u64 cell, .int .u64 first, .slice tp th.length tc, .slice pp picks.length pc] 42)
  generalize hw1 : w.alloc _ = w1 at *
  have hs1 : w1.heap.size = w.heap.size + 1 := by rw [← hw1]; simp
  clear hw1
  generalize hB : w.heap.size = B at *
  refine (New_128 _).mono ?_
  rintro e w2 ⟨bm, rfl, hm, b2⟩
  go_wp2_with fail
  refine (RNew_any _ 128 (by decide) (by decide) false).mono ?_
  rintro e w3 ⟨rm, rfl, hr, b3⟩
  go_upto_region 5 with fail
  have R2 := hr.tight
  have M2 : PM w3 (fun b => w1.heap.size ≤ b ∧ b < w2.heap.size) bm (Mem.made 128) := hm.tight.fr (Fr.of_below (S := fun _ => False) b3) (fun _ _ e => e)
  have hs2 := b2.size
  have hs3 := b3.size
  have b13 : Below w1.heap.size w1 w3 := b2.trans (b3.mono hs2)
  have hbx3 := hbx.below b13
  have hBl := hbx.lt
  have hbx4 : ∀ o, Blk (w3.alloc o).drew B 42 _ := fun o => hbx3.alloc o
  have c0 : w3.drew.cell? ⟨B, 0, none⟩ = some _ := hbx3.cell 0
  have c1 : w3.drew.cell? ⟨B, 1, none⟩ = some _ := hbx3.cell 1
  have HST : Hid (∀ o, o = (.cells #[.pointer (some ⟨bm, 0, none⟩), .int .i64 (-1), .int .i64 0] 130) → Calls Try.prog 37 #[.pointer (some ⟨w3.heap.size, 0, none⟩), .int .u64 cell, .int .u64 first] (w3.alloc o).drew fun e w' => e = .returned (.tuple #[]) ∧
      Did (w3.alloc o).drew w' (fun b => w1.heap.size ≤ b ∧ b < w2.heap.size) bm w3.heap.size (-1) 0 ((Mem.made 128).store (-1) cell first) ∧ Blk w' B 42 #[.int .u64 cell, .int .u64 first, .slice tp th.length tc, .slice pp picks.length pc]) := by
    rintro o rfl
    have f : Fr (fun _ => False) w3 (w3.alloc (.cells #[.pointer (some ⟨bm, 0, none⟩), .int .i64 (-1), .int .i64 0] 130)).drew := ((Fr.refl (fun _ => False) w3).alloc _).drawn 1
    obtain ⟨q, r, tv, rows, hx⟩ := M2.fr f (fun _ _ e => e)
    have hv : VW (w3.alloc (.cells #[.pointer (some ⟨bm, 0, none⟩), .int .i64 (-1), .int .i64 0] 130)).drew w3.heap.size bm (-1) 0 := Blk.made w3 _ _
    refine (Store_x hx hv cell first h0 (by decide +kernel) (by decide +kernel) (by decide) (by decide)).mono ?_
    rintro e w' ⟨rfl, hD⟩
    refine ⟨rfl, hD, (hbx4 _).fr hD.2.2 ?_⟩
    rintro (e | e)
    · omega
    · have : B < w3.heap.size := hbx3.lt
      have e : B = w3.heap.size := e
      omega
  clear hm hr b2 b3
  go_cut [] (fun wx => PM wx (Ext (fun b => w1.heap.size ≤ b ∧ b < w2.heap.size) w3) bm ((Mem.made 128).store (-1) cell first) ∧ Fr (fun b => w1.heap.size ≤ b ∧ b < w2.heap.size) w3 wx)
  case first =>
   as_aux_lemma =>
    -- [[
    go_region_held3 (fun w' => w'.cell? ⟨B, 0, none⟩ = some (.int .u64 cell) ∧ w'.cell? ⟨B, 1, none⟩ = some (.int .u64 first))
      (first | exact ⟨c0, c1⟩ | exact ⟨(hbx4 _).cell 0, (hbx4 _).cell 1⟩ | exact ⟨hbx5.cell 0, hbx5.cell 1⟩)
      (first | ((with_reducible refine (View_any _ _ _).mono ?_); rintro e w4 ⟨rfl, rfl⟩) | ((with_reducible refine (HST.out _ rfl).mono ?_); rintro e w5 ⟨rfl, hD, hbx5⟩))
    all_goals
     go_wp2_with fail
     go_meet
     exact hD.fromView
    -- ]]
  case rest =>
   as_aux_lemma =>
    obtain ⟨M5, f5⟩ := hcut
    have hbx5 : Blk wc B 42 _ := hbx3.fr f5 (by omega)
    have b15 : Below w1.heap.size w1 wc := b13.trans (f5.to_below (by omega) (by rintro k hk ⟨e, _⟩; omega))
    have R5 : RM wc (fun b => w2.heap.size ≤ b ∧ b < w3.heap.size) rm false (Mem.made 128) := R2.fr f5 (by rintro k ⟨e, _⟩ ⟨_, e2⟩; omega)
    have hs5 := f5.size
    clear M2 R2 hbx3 hbx4 c0 c1 HST b13 f5
    have c0 : wc.cell? ⟨B, 0, none⟩ = some _ := hbx5.cell 0
    have c1 : wc.cell? ⟨B, 1, none⟩ = some _ := hbx5.cell 1
    have HRS : Hid (Calls Try.prog 52 #[.pointer (some ⟨rm, 0, none⟩), .int .i64 (-1), .int .u64 cell, .int .u64 first] wc fun e w' => e = .returned (.tuple #[]) ∧
       Both w' (labOf (fun b => w1.heap.size ≤ b ∧ (b < w2.heap.size ∨ (w3.heap.size ≤ b ∧ b < wc.heap.size))) (fun b => (w2.heap.size ≤ b ∧ b < w3.heap.size) ∨ (wc.heap.size ≤ b ∧ b < w'.heap.size))) bm rm ((Mem.made 128).store (-1) cell first) ∧ Blk w' B 42 #[.int .u64 cell, .int .u64 first, .slice tp th.length tc, .slice pp picks.length pc] ∧ Below w1.heap.size w1 w') := by
     obtain ⟨r, tv, rows, hx⟩ := R5
     refine (RStore_x hx (-1) cell first h0 (by decide +kernel) (by decide +kernel)).mono ?_
     rintro e w' ⟨rfl, hD⟩
     refine ⟨rfl, ⟨?_, ?_⟩, hbx5.fr hD.2 (by rintro ⟨e, _⟩; omega), b15.trans (hD.2.to_below (by omega) (by rintro k hk ⟨e, _⟩; omega))⟩
     · refine (M5.tight.fr hD.2 ?_).wide ?_
       · rintro k ⟨hk | hk, hl⟩ ⟨e1, e2⟩
         · obtain ⟨_, hk⟩ := hk; omega
         · omega
       · rintro k ⟨hk | hk, hl⟩
         · have : w1.heap.size ≤ k ∧ (k < w2.heap.size ∨ (w3.heap.size ≤ k ∧ k < wc.heap.size)) := ⟨hk.1, .inl hk.2⟩
           simp only [labOf, this, and_self, if_true]
         · have : w1.heap.size ≤ k ∧ (k < w2.heap.size ∨ (w3.heap.size ≤ k ∧ k < wc.heap.size)) := ⟨by omega, .inr ⟨hk, hl⟩⟩
           simp only [labOf, if_pos this]
     · refine hD.1.tight.wide ?_
       rintro k ⟨hk | hk, hl⟩
       · have h1 : ¬ (w1.heap.size ≤ k ∧ (k < w2.heap.size ∨ (w3.heap.size ≤ k ∧ k < wc.heap.size))) := by rintro ⟨_, e | e⟩ <;> omega
         simp only [labOf, if_neg h1, if_pos (Or.inl hk)]
       · have h1 : ¬ (w1.heap.size ≤ k ∧ (k < w2.heap.size ∨ (w3.heap.size ≤ k ∧ k < wc.heap.size))) := by rintro ⟨_, e | e⟩ <;> omega
         simp only [labOf, if_neg h1, if_pos (show (w2.heap.size ≤ k ∧ k < w3.heap.size) ∨ (wc.heap.size ≤ k ∧ k < w'.heap.size) from .inr ⟨hk, hl⟩)]
    go_wp2_with fail
    refine HRS.out.mono ?_
    rintro e w6 ⟨rfl, B6, hbx6, b16⟩
    have hz : ∀ b, b < w1.heap.size → labOf (fun b => w1.heap.size ≤ b ∧ (b < w2.heap.size ∨ (w3.heap.size ≤ b ∧ b < wc.heap.size))) (fun b => (w2.heap.size ≤ b ∧ b < w3.heap.size) ∨ (wc.heap.size ≤ b ∧ b < w6.heap.size)) b = 0 := by
      intro b hb
      have h1 : ¬ (w1.heap.size ≤ b ∧ (b < w2.heap.size ∨ (w3.heap.size ≤ b ∧ b < wc.heap.size))) := by rintro ⟨e, _⟩; omega
      have h2 : ¬ ((w2.heap.size ≤ b ∧ b < w3.heap.size) ∨ (wc.heap.size ≤ b ∧ b < w6.heap.size)) := by rintro (⟨e, _⟩ | ⟨e, _⟩) <;> omega
      simp only [labOf, if_neg h1, if_neg h2]
    generalize labOf _ _ = lab0 at *
    have B6' := Lib.hid B6
    have hs6 := b16.size
    clear HRS M5 R5 hbx5 c0 c1 b15 B6 hs5 hs2 hs3
    have c2 : w6.cell? ⟨B, 2, none⟩ = some _ := hbx6.cell 2
    have n2 : ∀ o, (w6.alloc o).cell? ⟨B, 2, none⟩ = some (.slice tp th.length tc) := fun o => (hbx6.alloc o).cell 2
    have n3 : ∀ o o', ((w6.alloc o).alloc o').cell? ⟨B, 2, none⟩ = some (.slice tp th.length tc) := fun o o' => ((hbx6.alloc o).alloc o').cell 2
    have k1 := run_nils (ty := 43) Try.underlying43 (z := .pointer none) (bts := 8) (by kernel_rfl) rfl (by decide) th.length (by omega)
    have k2 := run_nils (ty := 40) Try.underlying40 (z := .int .i64 0) (bts := 8) (by kernel_rfl) rfl (by decide) th.length (by omega)
    have k3 := run_nils (ty := 136) Try.underlying136 (z := .pointer none) (bts := 8) (by kernel_rfl) rfl (by decide) th.length (by omega)
    have HI := Lib.hid (RH.init B6'.out th.length)
    go_wp2_with fail
    simp only [List.toArray_replicate] at HI
    obtain ⟨H0, L0⟩ := HI.out
    have L1 : ∀ b, b < w1.heap.size → (if b = w6.heap.size then 3 else if b = w6.heap.size + 1 then 4 else if b = w6.heap.size + 2 then 5 else lab0 b) = 0 := by
      intro b hb
      rw [if_neg (by omega), if_neg (by omega), if_neg (by omega)]
      exact hz b hb
    have b17 : Below w1.heap.size w1 (((w6.alloc (Obj.cells (Array.replicate th.length (Value.pointer none)) 55)).alloc (Obj.cells (Array.replicate th.length (Value.int .i64 0)) 3)).alloc (Obj.cells (Array.replicate th.length (Value.pointer none)) 28)) :=
      ((b16.alloc hs6 _).alloc (by simp; omega) _).alloc (by simp; omega) _
    clear HI n2 n3 c2 k1 k2 k3 B6' hz b16 hbx6
    have hnb : w6.heap.size + 1 + 1 = w6.heap.size + 2 := rfl
    generalize (((w6.alloc (Obj.cells (Array.replicate th.length (Value.pointer none)) 55)).alloc (Obj.cells (Array.replicate th.length (Value.int .i64 0)) 3)).alloc (Obj.cells (Array.replicate th.length (Value.pointer none)) 28)) = w7 at *
    rw [hnb]
    generalize w6.heap.size + 2 = vb at *
    generalize w6.heap.size + 1 = ab at *
    generalize w6.heap.size = nb at *
    clear hnb
    have HH0 := Lib.hid H0
    have HL0 := Lib.hid L0
    have HL1 := Lib.hid L1
    clear H0 L0 L1
    have hbx' := Lib.hid hbx
    have HTC := Lib.hid (show ∀ wr, Below w1.heap.size w1 wr → ThreadsAt wr (.slice tp th.length tc) th from fun wr hb => ThreadsAt.below (ThreadsAt.below ⟨tp, tc, rfl, by rw [hB]; exact htc⟩ (by rw [hB]; exact b1)) hb)
    have HPC := Lib.hid (show ∀ wr, Below w1.heap.size w1 wr → PicksAt wr (.slice pp picks.length pc) picks from fun wr hb => PicksAt.below (PicksAt.below ⟨pp, pc, rfl, by rw [hB]; exact hpc⟩ (by rw [hB]; exact b1)) hb)
    clear htc hpc hbx
    have HI0 : Hid (Inv w1 th.length bm rm nb ab vb [] (List.replicate th.length none) (.slice none 0 0) (RS.upto cell first th picks 0) 0 w7) := ⟨_, HH0.out, HL0.out, HL1.out, b17⟩
    clear HH0 HL0 HL1 b17
    go_loopg [12, 13] picks.length (fun gk a i wr => ∃ (k : Nat) (calls : List (Nat × Nat × Nat)) (vs : List (Option Nat)), i = .int .i64 k ∧ gk + k = picks.length ∧
      Inv w1 th.length bm rm nb ab vb calls vs a (RS.upto cell first th picks k) (2 * k) wr)
    case atStart =>
      exact ⟨0, _, _, rfl, rfl, HI0.out⟩
    case round =>
      as_aux_lemma =>
       obtain ⟨k, calls, vs, rfl, hgk, hI⟩ := hrel
       have hbx := hbx'.out.below hI.below
       have c3 : wr.cell? ⟨B, 3, none⟩ = some (.slice pp picks.length pc) := hbx.cell 3
       have c2 : wr.cell? ⟨B, 2, none⟩ = some (.slice tp th.length tc) := hbx.cell 2
       by_cases hlt : k < picks.length
       · obtain ⟨x, hx⟩ : ∃ x, picks[k]? = some x := ⟨_, List.getElem?_eq_getElem hlt⟩
         obtain ⟨pp', pc', hv, hcell⟩ := HPC.out wr hI.below
         injection hv with e1 e2 e3
         subst e1 e3
         obtain ⟨qb, qo, rfl, hql, hqc⟩ := hcell k x hx
         obtain ⟨tp', tc', hv, htc⟩ := HTC.out wr hI.below
         injection hv with e1 e2 e3
         subst e1 e3
         have hgd : picks.getD k 0 = x := by rw [List.getD_eq_getElem?_getD, hx]; rfl
         have hone : RS.upto cell first th picks (k + 1) = (RS.upto cell first th picks k).one cell th k x := by rw [← hgd]; rfl
         have hri := upto_ri (first := first) h0 th picks k
         have hcnt := upto_cnt (cell := cell) (first := first) th picks k
         generalize RS.upto cell first th picks k = s at *
         have hlens := hI.len
         clear hcell hgd
         go_upto_region 15 with fail
         go_cut [98] (fun s98 wx => s98 = .bool (s.idle th x) ∧ ∃ n, wx = wr.drewN n)
         case first =>
           as_aux_lemma =>
            -- [[
            have FIN : Hid (∀ b, s.idle th x = b → ∀ n, (Value.bool b = Value.bool (s.idle th x) ∧ ∃ n', wr.drewN n = wr.drewN n')) := fun b hb n => ⟨by rw [hb], n, rfl⟩
            by_cases hneg : x < 0
            · have t1 : decide (x < 0) = true := by simpa using hneg
              have FIN2 := Lib.hid (FIN.out _ (idle_neg hneg))
              clear FIN hone hri htc
              go_quiet (fail)
              all_goals
                go_wp2_with fail
                go_meet
                exact FIN2.out _
            · obtain ⟨t, rfl⟩ : ∃ t : Nat, x = t := ⟨x.toNat, by omega⟩
              have t1 : decide ((t : Int) < 0) = false := by simp
              by_cases htn : t < th.length
              · have t2 : decide ((th.length : Int) ≤ (t : Int)) = false := by simp; omega
                have t2' : decide (th.length ≤ t) = false := by simp; omega
                obtain ⟨y, hy⟩ : ∃ y, s.now[t]? = some y := ⟨_, List.getElem?_eq_getElem (by omega)⟩
                have d1 := (hI.nowCell hy).1
                cases y with
                | some j =>
                  have FIN2 := Lib.hid (FIN.out _ (idle_open htn hy))
                  simp only [nowP] at d1
                  clear FIN hone hri hy htc
                  go_quiet (fail)
                  all_goals
                    go_wp2_with fail
                    go_meet
                    exact FIN2.out _
                | none =>
                  obtain ⟨a, ha⟩ : ∃ a, s.at_[t]? = some a := ⟨_, List.getElem?_eq_getElem (by omega)⟩
                  obtain ⟨l, hl⟩ : ∃ l, th[t]? = some l := ⟨_, List.getElem?_eq_getElem htn⟩
                  have d2 := (hI.atCell ha).1
                  obtain ⟨tb, to_, u, rfl, htl, hu, lp, lc, rfl, hlc⟩ := htc t l hl
                  simp only [nowP] at d1
                  have he := idle_end htn hy ha hl
                  by_cases hla : l.length ≤ a
                  · have t3 : decide ((l.length : Int) ≤ (a : Int)) = true := by simpa using hla
                    have t3' : decide (l.length ≤ a) = true := by simpa using hla
                    have FIN2 := Lib.hid (FIN.out _ (he.trans t3'))
                    clear FIN he hone hri hy htc hlc ha hl
                    go_quiet (fail)
                    all_goals
                      go_wp2_with fail
                      go_meet
                      exact FIN2.out _
                  · have t3 : decide ((l.length : Int) ≤ (a : Int)) = false := by simp; omega
                    have t3' : decide (l.length ≤ a) = false := by simp; omega
                    have FIN2 := Lib.hid (FIN.out _ (he.trans t3'))
                    clear FIN he hone hri hy htc hlc ha hl
                    go_quiet (fail)
                    all_goals
                      go_wp2_with fail
                      go_meet
                      exact FIN2.out _
              · have t2 : decide ((th.length : Int) ≤ (t : Int)) = true := by simp; omega
                have t2' : decide (th.length ≤ t) = true := by simp; omega
                have FIN2 := Lib.hid (FIN.out _ (idle_out htn))
                clear FIN hone hri htc
                go_quiet (fail)
                all_goals
                  go_wp2_with fail
                  go_meet
                  exact FIN2.out _
            -- ]]
         case rest =>
           as_aux_lemma =>
            obtain ⟨rfl, nq, rfl⟩ := hcut
            cases hid : s.idle th x
            · obtain ⟨t, rfl, htn⟩ := idle_false hid
              have hI2 := hI.drawn nq
              generalize wr.drewN nq = w8 at *
              clear hI hbx c2 c3 htc hqc hql
              have hbx := hbx'.out.below hI2.below
              obtain ⟨y, hy⟩ : ∃ y, vs[t]? = some y := ⟨_, List.getElem?_eq_getElem (by omega)⟩
              obtain ⟨d1, d2⟩ := hI2.viewCell hy
              go_upto_region 16 with fail
              go_cut [103] (fun s103 wx => s103 = .bool y.isNone ∧ wx = w8)
              case first =>
                as_aux_lemma =>
                 cases y with
                 | none =>
                   simp only [viewV] at d1
                   go_wp2_with fail
                   go_meet
                   exact ⟨rfl, rfl⟩
                 | some v =>
                   simp only [viewV] at d1
                   go_wp2_with fail
                   go_meet
                   exact ⟨rfl, rfl⟩
              case rest =>
                as_aux_lemma =>
                 obtain ⟨rfl, rfl⟩ := hcut
                 go_upto_if 103 with fail
                 go_cut [] (fun wx => ∃ vs' v, vs'[t]? = some (some v) ∧ Inv w1 th.length bm rm nb ab vb calls vs' u12 s (2 * k) wx)
                 case first =>
                   as_aux_lemma =>
                    cases y with
                    | some v =>
                      go_wp2_with fail
                      go_meet
                      exact ⟨vs, v, hy, hI2⟩
                    | none =>
                      go_wp2_with fail
                      refine (View_any _ _ _).mono ?_
                      rintro e w9 ⟨rfl, rfl⟩
                      obtain ⟨n1, n2⟩ := hI2.viewCellA hy (.cells #[.pointer (some ⟨bm, 0, none⟩), .int .i64 t, .int .i64 0] 130)
                      simp only [viewV] at n1
                      go_wp2_with fail
                      go_meet
                      exact ⟨_, _, List.getElem?_set_self (by omega), hI2.newView hy⟩
                 case rest =>
                   as_aux_lemma =>
                    obtain ⟨vs2, v, hv, hI3⟩ := hcut
                    clear hI2 d1 d2 hy hbx
                    have hbx := hbx'.out.below hI3.below
                    have hl3 := hI3.len
                    obtain ⟨y2, hy2⟩ : ∃ y, s.now[t]? = some y := ⟨_, List.getElem?_eq_getElem (by omega)⟩
                    obtain ⟨d1, d2⟩ := hI3.nowCell hy2
                    generalize hwb : wc = wb at *
                    clear hwb
                    go_upto_region 18 with fail
                    go_cut [114] (fun s114 wx => s114 = .bool y2.isNone ∧ wx = wb)
                    case first =>
                      as_aux_lemma =>
                       -- [[
                       cases y2 with
                       | none =>
                         simp only [nowP] at d1
                         go_wp2_with fail
                         go_meet
                         exact ⟨rfl, rfl⟩
                       | some j =>
                         simp only [nowP] at d1
                         go_wp2_with fail
                         go_meet
                         exact ⟨rfl, rfl⟩
                       -- ]]
                    case rest =>
                      as_aux_lemma =>
                       obtain ⟨rfl, rfl⟩ := hcut
                       go_upto_if 114 with fail
                       go_cut [12] (fun a' wx => ∃ calls' j p c, Inv w1 th.length bm rm nb ab vb calls' vs2 a' (s.begin cell th k t) (2 * k) wx ∧ (s.begin cell th k t).now[t]? = some (some j) ∧ (s.begin cell th k t).all[j]? = some c ∧ calls'[j]? = some p)
                       case first =>
                         as_aux_lemma =>
                          cases y2 with
                          | some j =>
                            have hbeg : s.begin cell th k t = s := begin_open hy2
                            have hjl := hI3.nowLt hy2
                            have hst : Hid (∃ calls' j p c, Inv w1 th.length bm rm nb ab vb calls' vs2 u12 (s.begin cell th k t) (2 * k) wc ∧ (s.begin cell th k t).now[t]? = some (some j) ∧ (s.begin cell th k t).all[j]? = some c ∧ calls'[j]? = some p) := by
                              rw [hbeg]
                              exact ⟨calls, j, _, _, hI3, hy2, List.getElem?_eq_getElem hjl, List.getElem?_eq_getElem (by omega)⟩
                            clear hbeg
                            go_wp2_with fail
                            go_meet
                            exact hst.out
                          | none =>
                            obtain ⟨a0, ha⟩ : ∃ a, s.at_[t]? = some a := ⟨_, List.getElem?_eq_getElem (by omega)⟩
                            obtain ⟨l, hl⟩ : ∃ l, th[t]? = some l := ⟨_, List.getElem?_eq_getElem htn⟩
                            have hla : a0 < l.length := by
                              have e := idle_end htn hy2 ha hl
                              rw [hid] at e
                              have := of_decide_eq_false e.symm
                              omega
                            have hlm : l.length ≤ 1048576 := hms l (List.mem_of_getElem? hl)
                            obtain ⟨⟨xb, xm⟩, hx2⟩ : ∃ x, l[a0]? = some x := ⟨_, List.getElem?_eq_getElem hla⟩
                            obtain ⟨tp', tc', hv', htc⟩ := HTC.out w1 (Below.refl _ _)
                            injection hv' with e1 e2 e3
                            subst e1 e3
                            obtain ⟨tb, to_, u, rfl, htl, hu, lp, lc, rfl, hlc⟩ := htc t l hl
                            obtain ⟨lb, lo, rfl, hll, hq1, hq2⟩ := hlc a0 (xb, xm) hx2
                            obtain ⟨hnl, hal, hnab, hw1n⟩ := hI3.sizes
                            have hs3 := hI3.below.size
                            have HSX : Hid (∀ w', Below wc.heap.size wc w' → w'.cell? ⟨B, 0, none⟩ = some (.int .u64 cell) ∧ w'.cell? ⟨B, 2, none⟩ = some (.slice (some ⟨tb, to_, none⟩) th.length tc) ∧ w'.cell? ⟨tb, to_ + t, none⟩ = some (.slice (some ⟨lb, lo, none⟩) l.length lc) ∧
                                w'.cell? ⟨ab, t, none⟩ = some (.int .i64 a0) ∧ w'.cell? ⟨lb, lo + a0 * 2, none⟩ = some (.bool xb) ∧ w'.cell? ⟨lb, lo + a0 * 2 + 1, none⟩ = some (.int .u64 xm)) := by
                              intro w' hb'
                              have hb2 := hI3.below.trans (hb'.mono hs3)
                              have hbx2 := hbx'.out.below hb2
                              exact ⟨hbx2.cell 0, hbx2.cell 2, (hb2.cell (p := ⟨tb, to_ + t, none⟩) htl).trans hu, (hb'.cell (p := ⟨ab, t, none⟩) hal).trans (hI3.atCell ha).1, (hb2.cell (p := ⟨lb, lo + a0 * 2, none⟩) hll).trans hq1, (hb2.cell (p := ⟨lb, lo + a0 * 2 + 1, none⟩) hll).trans hq2⟩
                            have HSX2 : Hid (∀ w' u, Below wc.heap.size wc w' → (w'.setCell ⟨nb, t, none⟩ u).cell? ⟨B, 0, none⟩ = some (.int .u64 cell) ∧ (w'.setCell ⟨nb, t, none⟩ u).cell? ⟨B, 2, none⟩ = some (.slice (some ⟨tb, to_, none⟩) th.length tc) ∧ (w'.setCell ⟨nb, t, none⟩ u).cell? ⟨tb, to_ + t, none⟩ = some (.slice (some ⟨lb, lo, none⟩) l.length lc) ∧
                                (w'.setCell ⟨nb, t, none⟩ u).cell? ⟨ab, t, none⟩ = some (.int .i64 a0) ∧ (w'.setCell ⟨nb, t, none⟩ u).cell? ⟨lb, lo + a0 * 2, none⟩ = some (.bool xb) ∧ (w'.setCell ⟨nb, t, none⟩ u).cell? ⟨lb, lo + a0 * 2 + 1, none⟩ = some (.int .u64 xm)) := by
                              intro w' u hb'
                              obtain ⟨q1, q2, q3, q4, q5, q6⟩ := HSX.out w' hb'
                              have far : ∀ b o, b ≠ nb → (w'.setCell ⟨nb, t, none⟩ u).cell? ⟨b, o, none⟩ = w'.cell? ⟨b, o, none⟩ := fun b o hne => World.cell?_setCell_other w' _ _ u (fun e => by injection e with e; exact hne (by first | exact e | exact e.symm))
                              rw [far _ _ (by omega), far _ _ (by omega), far _ _ (by omega), far _ _ (fun e => hnab e.symm), far _ _ (by omega), far _ _ (by omega)]
                              exact ⟨q1, q2, q3, q4, q5, q6⟩
                            have hbeg := Lib.hid (begin_new (cell := cell) (k := k) hy2 ha hl hx2)
                            have HNB := Lib.hid (fun w' (hb : Below wc.heap.size wc w') => hI3.nowBelow hy2 hb)
                            clear d1 d2 hu hq1 hq2 htc hlc
                            have HSX0 := HSX.out wc (Below.refl _ _)
                            go_upto_region 19 with fail
                            go_cut [] (fun wx => ∃ pb np tp2 w9, Below wc.heap.size wc w9 ∧ CAt w9 (fun k => wc.heap.size ≤ k) pb np tp2 (CS.fresh cell xb xm) ∧ wx = w9.setCell ⟨nb, t, none⟩ (.pointer (some ⟨pb, 0, none⟩)))
                            case first =>
                              as_aux_lemma =>
                               -- [[
                               clear HSX0
                               go_region_held3 (fun w' => w'.cell? ⟨B, 0, none⟩ = some (.int .u64 cell) ∧ w'.cell? ⟨B, 2, none⟩ = some (.slice (some ⟨tb, to_, none⟩) th.length tc) ∧ w'.cell? ⟨tb, to_ + t, none⟩ = some (.slice (some ⟨lb, lo, none⟩) l.length lc) ∧
                                   w'.cell? ⟨ab, t, none⟩ = some (.int .i64 a0) ∧ w'.cell? ⟨lb, lo + a0 * 2, none⟩ = some (.bool xb) ∧ w'.cell? ⟨lb, lo + a0 * 2 + 1, none⟩ = some (.int .u64 xm))
                                 (first | exact HSX.out wc (Below.refl _ _) | exact HSX.out _ hb9 | exact HSX2.out _ _ hb9)
                                 (first | ((with_reducible refine (begin_any _ _ _ _).mono ?_); rintro e w9 ⟨pb, np, tp2, rfl, hC, hb9'⟩; have hb9 : Below wc.heap.size wc w9 := ⟨hb9'.os, hb9'.tape, hb9'.output, hb9'.size, hb9'.block⟩; obtain ⟨n1, n2⟩ := HNB.out _ hb9; simp only [nowP] at n1))
                               all_goals
                                 go_wp2_with fail
                                 go_meet
                                 exact ⟨pb, np, tp2, w9, hb9, hC, rfl⟩
                               -- ]]
                            case rest =>
                              as_aux_lemma =>
                               obtain ⟨pb, np, tp2, w9, hb9, hC, hw10⟩ := hcut
                               have M0 := Mid.start hI3 hb9 hC t
                               rw [← hw10] at M0
                               clear hw10 HSX HSX2 HNB HSX0 hb9 hC
                               have n0 : wc.cell? ⟨nb, t, none⟩ = some (.pointer (some ⟨pb, 0, none⟩)) := by
                                 rw [M0.now.cell t]; simp only [List.getElem?_toArray]; exact List.getElem?_set_self (by simp; omega)
                               have p14 : wc.cell? ⟨pb, 14, none⟩ = some _ := Blk.cell M0.call.p 14
                               have f14 := Blk.cold M0.call.p 14
                               have M1 := M0.setFrom (k : Int)
                               have n1 : (wc.setCell ⟨pb, 14, none⟩ (.int .i64 k)).cell? ⟨nb, t, none⟩ = some (.pointer (some ⟨pb, 0, none⟩)) := by
                                 rw [M1.now.cell t]; simp only [List.getElem?_toArray]; exact List.getElem?_set_self (by simp; omega)
                               have HM1 := Lib.hid M1
                               clear M0 M1
                               go_wp2_with fail
                               refine (same_any HM1.out.call).mono ?_
                               rintro e w11 ⟨rfl, n', rfl⟩
                               have M2 := HM1.out.drawn n'
                               clear n0 n1 p14 f14 HM1
                               generalize (wc.setCell ⟨pb, 14, none⟩ (.int .i64 k)).drewN n' = w11 at *
                               have y2 : w11.cell? ⟨ab, t, none⟩ = some (.int .i64 a0) := by
                                 rw [M2.ats.cell t]; simp [ha]
                               have g2 := M2.ats.cold t
                               have M3 := Lib.hid (M2.setAt t (.int .i64 ((a0 : Int) + 1)))
                               have ov : wrap64 ((a0 : Int) + 1) = (a0 : Int) + 1 := by unfold wrap64; omega
                               clear M2
                               go_upto_region 24 with fail
                               clear y2 g2
                               generalize w11.setCell ⟨ab, t, none⟩ (.int .i64 ((a0 : Int) + 1)) = w12 at *
                               have n3 : w12.cell? ⟨nb, t, none⟩ = some (.pointer (some ⟨pb, 0, none⟩)) := by
                                 rw [M3.out.now.cell t]; simp only [List.getElem?_toArray]; exact List.getElem?_set_self (by simp; omega)
                               have HOWN : Hid (∀ o, (w12.alloc o).ownsRow 0 55 1 u12 s.all.length (calls.map fun c => Value.pointer (some ⟨c.1, 0, none⟩))) := fun o => own_some M3.out.all ((Fr.refl (fun _ => False) w12).alloc o) (fun _ _ _ e => e)
                               have HF : Hid (∀ w2 v', w2.ownsRow 0 55 1 v' (s.all.length + 1) ((calls.map fun c => Value.pointer (some ⟨c.1, 0, none⟩)) ++ [.pointer (some ⟨pb, 0, none⟩)]) → (w12.alloc (.cells #[.pointer (some ⟨pb, 0, none⟩)] 55)).grownBy w2 u12.ownBlock →
                                   (v'.ownBlock = u12.ownBlock ∨ v'.ownBlock = some (w12.alloc (.cells #[.pointer (some ⟨pb, 0, none⟩)] 55)).heap.size) →
                                   ∃ calls' j p c, Inv w1 th.length bm rm nb ab vb calls' vs2 v' (s.begin cell th k t) (2 * k) w2 ∧ (s.begin cell th k t).now[t]? = some (some j) ∧ (s.begin cell th k t).all[j]? = some c ∧ calls'[j]? = some p) := by
                                 intro w2 v' ho hg hb
                                 rw [hbeg.out]
                                 refine ⟨calls ++ [(pb, np, tp2)], s.all.length, (pb, np, tp2), { CS.fresh cell xb xm with fr := k }, Mid.finish hI3 htn M3.out hg ho hb, ?_, ?_, ?_⟩
                                 · exact List.getElem?_set_self (by omega)
                                 · simp
                                 · rw [← hl3.2.2.2]; simp
                               clear M3 hbeg
                               go_wp2_with (at_builtin; refine app_ptr rfl _ _ rfl rfl (HOWN.out _) rfl (by omega) ?_; intro v' w14 ho hg hblk)
                               go_meet
                               exact HF.out _ _ ho hg hblk
                       case rest =>
                         as_aux_lemma =>
                          obtain ⟨calls2, j, p, c, hI4, hnow, hall, hp⟩ := hcut
                          have hri4 : RI (s.begin cell th k t) (k + 1) := hri.begin h0 _ _
                          have HO1 := Lib.hid (one_open (cell := cell) hid hnow hall)
                          have HO2 := Lib.hid (one_done (cell := cell) hid hnow hall)
                          have HONE := Lib.hid hone
                          clear hI3 hy2 hbx hid hri hone
                          generalize s.begin cell th k t = s1 at *
                          have hjl : j < s1.all.length := (List.getElem?_eq_some_iff.1 hall).1
                          have hpd : calls2.getD j (0, 0, 0) = p := by rw [List.getD_eq_getElem?_getD, hp]; rfl
                          have HK : Hid (∀ wx s' m', Inv w1 th.length bm rm nb ab vb calls2 vs2 u12 s' m' wx → s'.now = s1.now → wx.cell? ⟨nb, t, none⟩ = some (.pointer (some ⟨p.1, 0, none⟩)) ∧ wx.cell? ⟨vb, t, none⟩ = some (.pointer (some ⟨v, 0, none⟩))) := by
                            intro wx s' m' hI e
                            refine ⟨?_, (hI.viewCell hv).1⟩
                            have := (hI.nowCell (by rw [e]; exact hnow)).1
                            rw [this]
                            simp only [nowP, hpd]
                          have HS : Hid (Calls Try.prog 55 #[.pointer (some ⟨p.1, 0, none⟩), .pointer (some ⟨v, 0, none⟩), .pointer (some ⟨rm, 0, none⟩), .int .i64 t] wc.drew fun e w' => e = .returned (.tuple #[.bool (c.step s1.A t).1.fin, .bool true]) ∧
                              Inv w1 th.length bm rm nb ab vb calls2 vs2 u12 { s1 with all := s1.all.set j (c.step s1.A t).1, A := (c.step s1.A t).2 } (2 * k + 1) w') := (hI4.drawn 1).stepCall hri4 hall hp hv (by omega) (by omega)
                          generalize c.step s1.A t = cs at *
                          go_upto_region 25 with fail
                          go_cut [15, 16] (fun s15 s16 wx => s15 = .bool cs.1.fin ∧ s16 = .bool true ∧ Inv w1 th.length bm rm nb ab vb calls2 vs2 u12 { s1 with all := s1.all.set j cs.1, A := cs.2 } (2 * k + 1) wx)
                          case first =>
                            as_aux_lemma =>
                             -- [[
                             obtain ⟨d1, d2⟩ := HK.out wc.drew s1 _ (hI4.drawn 1) rfl
                             go_region_held3 (fun w' => w'.cell? ⟨nb, t, none⟩ = some (.pointer (some ⟨p.1, 0, none⟩)) ∧ w'.cell? ⟨vb, t, none⟩ = some (.pointer (some ⟨v, 0, none⟩)))
                               (first | exact ⟨d1, d2⟩ | exact HK.out _ _ _ hI5 rfl)
                               (first | ((with_reducible refine HS.out.mono ?_); rintro e w5 ⟨rfl, hI5⟩))
                             all_goals
                               go_wp2_with fail
                               go_meet
                               exact ⟨rfl, rfl, hI5⟩
                             -- ]]
                          case rest =>
                            as_aux_lemma =>
                             obtain ⟨rfl, rfl, hI5⟩ := hcut
                             clear hI4 HS
                             cases hfin : cs.1.fin
                             · go_wp2_with fail
                               go_roundg (gk - 1)
                               case measure => omega
                               case rel =>
                                 refine ⟨k + 1, calls2, vs2, by go_num, by omega, ?_⟩
                                 rw [HONE.out, HO1.out hfin]
                                 exact hI5.more (by omega)
                             · have hri6 : RI { s1 with all := s1.all.set j (cs.1.ended k), A := cs.2 } (k + 2) := by
                                 have h := upto_ri (first := first) h0 th picks (k + 1)
                                 rw [HONE.out, HO2.out hfin] at h
                                 exact ⟨h.cells, h.trace, h.ok, h.vals⟩
                               have hsj : (s1.all.set j cs.1)[j]? = some cs.1 := List.getElem?_set_self hjl
                               have hsj2 : (s1.all.set j (cs.1.ended k))[j]? = some (cs.1.ended k) := List.getElem?_set_self hjl
                               obtain ⟨C, hC⟩ := hI5.callCells hsj hp
                               have c15 : wc.cell? ⟨p.1, 15, none⟩ = some _ := Blk.cell hC.p 15
                               have f15 := Blk.cold hC.p 15
                               obtain ⟨d1, d2⟩ := HK.out wc _ _ hI5 rfl
                               have hI6 : Inv w1 th.length bm rm nb ab vb calls2 vs2 u12 { s1 with all := s1.all.set j (cs.1.ended k), A := cs.2 } (2 * k + 1) (wc.setCell ⟨p.1, 15, none⟩ (.int .i64 k)) := by
                                 have h := hI5.setTo hsj hp k
                                 simp only [List.set_set] at h
                                 exact h
                               have hfs : (cs.1.ended k).step cs.2 t = (cs.1.ended k, cs.2) := fin_step (fin_ended hfin)
                               have HS2 : Hid (Calls Try.prog 55 #[.pointer (some ⟨p.1, 0, none⟩), .pointer (some ⟨v, 0, none⟩), .pointer (some ⟨rm, 0, none⟩), .int .i64 t] (wc.setCell ⟨p.1, 15, none⟩ (.int .i64 k)).drew fun e w' => e = .returned (.tuple #[.bool true, .bool true]) ∧
                                   Inv w1 th.length bm rm nb ab vb calls2 vs2 u12 { s1 with all := s1.all.set j (cs.1.ended k), A := cs.2 } (2 * k + 2) w') := by
                                 refine ((hI6.drawn 1).stepCall hri6 hsj2 hp hv (by omega) (by omega)).mono ?_
                                 rintro e w' ⟨rfl, h⟩
                                 simp only [hfs, List.set_set] at h
                                 refine ⟨?_, h⟩
                                 simp only [hfs]
                                 rw [show (cs.1.ended k).fin = true from hfin]
                               have HFIN := Lib.hid hfin
                               have HI6 := Lib.hid hI6
                               clear hI5 hC hfs hfin
                               go_upto_region 30 with fail
                               clear c15 f15 d1 d2
                               generalize wc.setCell ⟨p.1, 15, none⟩ (.int .i64 k) = wd at *
                               go_cut [17, 18] (fun s17 s18 wx => s17 = .bool true ∧ s18 = .bool true ∧ Inv w1 th.length bm rm nb ab vb calls2 vs2 u12 { s1 with all := s1.all.set j (cs.1.ended k), A := cs.2 } (2 * k + 2) wx)
                               case first =>
                                 as_aux_lemma =>
                                  -- [[
                                  obtain ⟨d1, d2⟩ := HK.out wd.drew _ _ (HI6.out.drawn 1) rfl
                                  go_region_held3 (fun w' => w'.cell? ⟨nb, t, none⟩ = some (.pointer (some ⟨p.1, 0, none⟩)) ∧ w'.cell? ⟨vb, t, none⟩ = some (.pointer (some ⟨v, 0, none⟩)))
                                    (first | exact ⟨d1, d2⟩ | exact HK.out _ _ _ hI5 rfl)
                                    (first | ((with_reducible refine HS2.out.mono ?_); rintro e w5 ⟨rfl, hI5⟩))
                                  all_goals
                                    go_wp2_with fail
                                    go_meet
                                    exact ⟨rfl, rfl, hI5⟩
                                  -- ]]
                               case rest =>
                                 as_aux_lemma =>
                                  obtain ⟨rfl, rfl, hI7⟩ := hcut
                                  have d1 := (HK.out wc _ _ hI7 rfl).1
                                  have d2 := (hI7.nowCell hnow).2
                                  go_wp2_with fail
                                  go_roundg (gk - 1)
                                  case measure => omega
                                  case rel =>
                                    refine ⟨k + 1, calls2, vs2, by go_num, by omega, ?_⟩
                                    rw [HONE.out, HO2.out HFIN.out]
                                    exact hI7.setNow.more (by omega)
            · go_wp2_with fail
              go_roundg (gk - 1)
              case measure => omega
              case rel =>
                refine ⟨k + 1, calls, vs, by go_num, by omega, ?_⟩
                rw [hone, RS.one, if_pos hid]
                exact (hI.drawn nq).more (by omega)
       · obtain rfl : k = picks.length := by omega
         have hri := upto_ri (first := first) h0 th picks picks.length
         obtain ⟨lab, hR, hL, hz, hbb⟩ := hI
         obtain ⟨q0, r0, tv0, rows0, hx0⟩ := hR.both.pm
         obtain ⟨r1, tv1, rows1, hx1⟩ := hR.both.rm
         have hl1 := hx1.len
         obtain ⟨p1, cap1, htv⟩ : ∃ p c, tv1 = .slice p (RS.upto cell first th picks picks.length).A.trace.length c := by
           rw [← hl1]
           rcases hx1.own.2 with ⟨h1, h2⟩ | ⟨g, cap, cur, h1, _⟩
           · exact ⟨none, 0, by rw [h1, h2]⟩
           · exact ⟨_, _, h1⟩
         subst htv
         have e0 : wr.drew.cell? ⟨rm, 2, none⟩ = some (.slice p1 (RS.upto cell first th picks picks.length).A.trace.length cap1) := hx1.bM.cell 2
         have hvals : ∀ x ∈ (RS.upto cell first th picks picks.length).A.trace, x.vals.length ≤ 1000000000 := fun x hx => by rw [hri.vals x hx]; simp
         have htl : (RS.upto cell first th picks picks.length).A.trace.length ≤ 1000000000 := by have := hri.trace; omega
         have HT := Lib.hid (Trace_x (w := wr.drew) (hx0.fr ((Fr.refl (fun _ => False) wr).drawn 1) (fun _ _ e => e)) htl hvals)
         have HSA : Hid (∀ w9 pp cap, Told w9 wr.drew.heap.size (.slice pp (RS.upto cell first th picks picks.length).A.trace.length cap) (RS.upto cell first th picks picks.length).A.trace → Below wr.heap.size wr w9 →
             (Calls Try.prog 56 #[.slice pp (RS.upto cell first th picks picks.length).A.trace.length cap, .slice p1 (RS.upto cell first th picks picks.length).A.trace.length cap1] w9 fun e w' => e = .returned (.bool true) ∧ ∃ n, w' = w9.drewN n) ∧ w9.cell? ⟨rm, 2, none⟩ = some (.slice p1 (RS.upto cell first th picks picks.length).A.trace.length cap1)) := by
           intro w9 pp cap hT hb9
           have hx9 := hx1.fr (Fr.of_below (S := fun _ => False) hb9) (fun _ _ e => e)
           refine ⟨SameAccesses_yes hT.tl ?_ htl hvals, hx9.bM.cell 2⟩
           have ho := hx9.own
           rw [← hl1] at ho
           have := TL_of hx9.fst ho (fun x hx => VR_of (hx9.vals x hx))
           exact this
         have HFIN : Hid (∀ w9, Below wr.heap.size wr w9 → ∃ lab P allv, Ending.returned (Value.tuple #[u12, .pointer (some ⟨bm, 0, none⟩), .bool true]) = .returned (.tuple #[allv, .pointer (some ⟨P.bm, 0, none⟩), .bool true]) ∧
             RH w9 lab P allv (RS.upto cell first th picks picks.length) (2 * picks.length) ∧ RL th.length P (RS.upto cell first th picks picks.length) ∧ Below w.heap.size w w9) := by
           intro w9 hb9
           refine ⟨lab, _, u12, rfl, hR.fr0 (Fr.of_below hb9), hL, ?_⟩
           rw [hB]
           exact b1.trans ((hbb.trans (hb9.mono hbb.size)).mono (by omega))
         clear hR hx0 hx1 hL hri hvals htl hl1
         generalize RS.upto cell first th picks picks.length = sF at HT HSA e0
         go_wp2_with fail
         go_region_held3 (fun w' => w'.cell? ⟨rm, 2, none⟩ = some (.slice p1 sF.A.trace.length cap1))
           (first | exact e0 | exact (HSA.out _ _ _ hTd b9).2)
           (first | ((with_reducible refine HT.out.mono ?_); rintro e w9 ⟨pp9, cap9, rfl, hTd, b9'⟩; have b9 : Below wr.heap.size wr w9 := ⟨b9'.os, b9'.tape, b9'.output, b9'.size, b9'.block⟩) | ((with_reducible refine (HSA.out _ _ _ hTd b9).1.mono ?_); rintro e w10 ⟨rfl, n10, rfl⟩))
         all_goals
           go_wp2_with fail
           ((try simp only [Exit.inBlock, Exit.then]); refine bodyPost_ret (results_tmp3 rfl _ _ _) rfl ?_)
           exact HFIN.out _ (show Below wr.heap.size wr (w9.drewN n10) from ⟨b9.os, b9.tape, b9.output, b9.size, b9.block⟩)
end
end Go.Proofs.Ytfbdgodebeggbaa

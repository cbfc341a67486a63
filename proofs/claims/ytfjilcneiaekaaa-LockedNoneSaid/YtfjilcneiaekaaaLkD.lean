/-
  A Put and a Get of a store under a lock. No condition.
-/
import Derived.Test.YtfjilcneiaekaaaLkC
import Derived.Conc.MuLone
import Derived.WalkSpells
namespace Go.Proofs.Ytfjilcneiaekaaa
open Go Go.RowKit Go.Maps
open Go.MuLone
set_option linter.unusedSimpArgs false
set_option linter.unusedVariables false
theorem law23 : Keyed Try.prog 23 := int_keyed Try.underlying23
theorem zero23 (w : World) : (zeroValue 23).run Try.prog w = .ok (.int .u64 0) w := by kernel_rfl
section
variable {w0 w : World} {q bm n d : Nat} {D : DataW Unit}
def opv (k x : Int) : Value := .agg #[.int .u8 k, .int .u64 7, .int .u64 x, .int .u64 0, .int .u64 0, .bool false, .int .i64 0, .int .i64 0, .slice none 0 0, .int .u64 0, .int .u64 0]
/-- the store's struct block, its map, and all that was there -/
def LIn (w0 w : World) (q bm n : Nat) (D : DataW Unit) (cs : Array Value) : Prop := Blk w q 52 cs ∧ w.ownsMap Try.prog 23 (plainElem Try.prog 23) bm n D ∧ w0.heap.size ≤ q ∧ w0.heap.size ≤ bm ∧ Below w0.heap.size w0 w
theorem LIn.alloc {cs : Array Value} (h : LIn w0 w q bm n D cs) (o : Obj) : LIn w0 (w.alloc o) q bm n D cs := ⟨h.1.alloc o, h.2.1.alloc o, h.2.2.1, h.2.2.2.1, h.2.2.2.2.alloc h.2.2.2.2.size o⟩
theorem LIn.drew {cs : Array Value} (h : LIn w0 w q bm n D cs) : LIn w0 w.drew q bm n D cs := ⟨h.1, h.2.1, h.2.2.1, h.2.2.2.1, h.2.2.2.2.drew⟩
theorem LIn.put {cs : Array Value} (h : LIn w0 w q bm n D cs) {k t : Nat} {ds : Array Value} (hk : Blk w k t ds) (ht : t ≠ 52) (hB : w0.heap.size ≤ k) (j : Nat) (u : Value) : LIn w0 (w.setCell ⟨k, j, none⟩ u) q bm n D cs := by
  have hq : q ≠ k := fun e => Blk.ne hk h.1 ht e.symm
  have hm : bm ≠ k := by
    rintro rfl
    obtain ⟨es, clock, hb, _⟩ := h.2.1
    unfold Blk at hk
    rw [hb] at hk
    cases hk
  exact ⟨h.1.far hq u, h.2.1.setCell hm u, h.2.2.1, h.2.2.2.1, ((Fr.refl (fun b => b = k) w).put (p := ⟨k, j, none⟩) (.inl rfl) u).to_below h.2.2.2.2.size (fun b hb e => by omega) |> h.2.2.2.2.trans⟩
theorem store_int {P : Program} {k e t : TypeId} {qk : IntKind} (h : w.ownsMap P k (plainElem P e) bm n D) (K : Keyed P k) (ht : P.underlying t = some (.map k e)) (he : P.underlying e = some (.int qk)) (hn : n < maxLen)
    {key : Value} {kl : Lit} {v : Int} (hkey : keyOf P k key = some kl) (hv : (Lit.int qk v).wf = true) : ∃ w', (Instr.mapUpdate t (.map (some bm)) key (.int qk v)).run P w = .ok () w' ∧ w'.ownsMap P k (plainElem P e) bm (n + 1) (D.put kl (.lit (.int qk v))) ∧ w.mapTurned w' bm :=
  h.store K ht hn hkey (plainElem_int he hv)
theorem lt_max (h : n < 1000) : n < maxLen := by unfold maxLen; omega
theorem LIn.turn {cs : Array Value} (h : LIn w0 w q bm n D cs) (hn : n < 1000) {x v : Int} (hx : keyOf Try.prog 23 (.int .u64 x) = some (.int .u64 x)) (hv : (Lit.int .u64 v).wf = true) :
    ∃ w', (Instr.mapUpdate 48 (.map (some bm)) (.int .u64 x) (.int .u64 v)).run Try.prog w = .ok () w' ∧ LIn w0 w' q bm (n + 1) (D.put (.int .u64 x) (.lit (.int .u64 v))) cs ∧ ∀ k t ds, Blk w k t ds → Blk w' k t ds := by
  obtain ⟨w', hrun, r1, r2⟩ := store_int h.2.1 law23 Try.underlying48 Try.underlying23 (lt_max hn) hx hv
  have hf : Fr (fun b => b = bm) w w' := (Fr.refl _ w).grown r2.grown (fun k e => .inl (Option.some.inj e).symm)
  have hb : ∀ k t ds, Blk w k t ds → Blk w' k t ds := fun k t ds hk => hk.fr hf (by
    rintro rfl
    obtain ⟨es, clock, hb, _⟩ := h.2.1
    unfold Blk at hk
    rw [hb] at hk
    cases hk)
  refine ⟨w', hrun, ⟨hb _ _ _ h.1, r1, h.2.2.1, h.2.2.2.1, h.2.2.2.2.trans (hf.to_below h.2.2.2.2.size (fun b hb e => by have := h.2.2.2.1; omega))⟩, hb⟩
/-- an answer is written over a row of 7 -/
theorem ans7 {cs : Array Value} {d0 d1 d2 d3 d4 d5 d6 : Value} (h : LIn w0 w q bm n D cs) {k : Nat} (hk : Blk w k 33 #[d0, d1, d2, d3, d4, d5, d6]) (hB : w0.heap.size ≤ k) (a0 a1 a2 a3 a4 a5 a6 : Value) :
    Blk (((((((w.setCell ⟨k, 0, none⟩ a0).setCell ⟨k, 1, none⟩ a1).setCell ⟨k, 2, none⟩ a2).setCell ⟨k, 3, none⟩ a3).setCell ⟨k, 4, none⟩ a4).setCell ⟨k, 5, none⟩ a5).setCell ⟨k, 6, none⟩ a6) k 33 #[a0, a1, a2, a3, a4, a5, a6] ∧
    LIn w0 (((((((w.setCell ⟨k, 0, none⟩ a0).setCell ⟨k, 1, none⟩ a1).setCell ⟨k, 2, none⟩ a2).setCell ⟨k, 3, none⟩ a3).setCell ⟨k, 4, none⟩ a4).setCell ⟨k, 5, none⟩ a5).setCell ⟨k, 6, none⟩ a6) q bm n D cs ∧ ∀ k' t ds, k' ≠ k → Blk w k' t ds → Blk (((((((w.setCell ⟨k, 0, none⟩ a0).setCell ⟨k, 1, none⟩ a1).setCell ⟨k, 2, none⟩ a2).setCell ⟨k, 3, none⟩ a3).setCell ⟨k, 4, none⟩ a4).setCell ⟨k, 5, none⟩ a5).setCell ⟨k, 6, none⟩ a6) k' t ds := by
  have h33 : (33 : TypeId) ≠ 52 := by decide
  have l0 := h.put hk h33 hB 0 a0
  have b0 := hk.put 0 a0
  have l1 := l0.put b0 h33 hB 1 a1
  have b1 := b0.put 1 a1
  have l2 := l1.put b1 h33 hB 2 a2
  have b2 := b1.put 2 a2
  have l3 := l2.put b2 h33 hB 3 a3
  have b3 := b2.put 3 a3
  have l4 := l3.put b3 h33 hB 4 a4
  have b4 := b3.put 4 a4
  have l5 := l4.put b4 h33 hB 5 a5
  have b5 := b4.put 5 a5
  have l6 := l5.put b5 h33 hB 6 a6
  have b6 := b5.put 6 a6
  exact ⟨b6.eq (by simp), l6, fun k' t ds hne hb => ((((((hb.far (p := ⟨k, 0, none⟩) hne a0).far (p := ⟨k, 1, none⟩) hne a1).far (p := ⟨k, 2, none⟩) hne a2).far (p := ⟨k, 3, none⟩) hne a3).far (p := ⟨k, 4, none⟩) hne a4).far (p := ⟨k, 5, none⟩) hne a5).far (p := ⟨k, 6, none⟩) hne a6⟩
theorem infoAns : (Try.prog.info? 33).map (·.size) = some 7 := by kernel_rfl
theorem ans7d {cs : Array Value} {d0 d1 d2 d3 d4 d5 d6 : Value} (h : LIn w0 w q bm n D cs) {k : Nat} (hk : Blk w k 33 #[d0, d1, d2, d3, d4, d5, d6]) (hB : w0.heap.size ≤ k) (a0 a1 a2 a3 a4 a5 a6 : Value) :
    (loadVar 33 ⟨k, 0, none⟩).run Try.prog ((((((((w.setCell ⟨k, 0, none⟩ a0).setCell ⟨k, 1, none⟩ a1).setCell ⟨k, 2, none⟩ a2).setCell ⟨k, 3, none⟩ a3).setCell ⟨k, 4, none⟩ a4).setCell ⟨k, 5, none⟩ a5).setCell ⟨k, 6, none⟩ a6).drew) = .ok (.agg #[a0, a1, a2, a3, a4, a5, a6]) ((((((((w.setCell ⟨k, 0, none⟩ a0).setCell ⟨k, 1, none⟩ a1).setCell ⟨k, 2, none⟩ a2).setCell ⟨k, 3, none⟩ a3).setCell ⟨k, 4, none⟩ a4).setCell ⟨k, 5, none⟩ a5).setCell ⟨k, 6, none⟩ a6).drew) ∧ LIn w0 ((((((((w.setCell ⟨k, 0, none⟩ a0).setCell ⟨k, 1, none⟩ a1).setCell ⟨k, 2, none⟩ a2).setCell ⟨k, 3, none⟩ a3).setCell ⟨k, 4, none⟩ a4).setCell ⟨k, 5, none⟩ a5).setCell ⟨k, 6, none⟩ a6).drew) q bm n D cs ∧ ∀ k' t ds, k' ≠ k → Blk w k' t ds → Blk ((((((((w.setCell ⟨k, 0, none⟩ a0).setCell ⟨k, 1, none⟩ a1).setCell ⟨k, 2, none⟩ a2).setCell ⟨k, 3, none⟩ a3).setCell ⟨k, 4, none⟩ a4).setCell ⟨k, 5, none⟩ a5).setCell ⟨k, 6, none⟩ a6).drew) k' t ds := by
  obtain ⟨h1, h2, h4⟩ := ans7 h hk hB a0 a1 a2 a3 a4 a5 a6
  have h3 := h1.drawn 1
  exact ⟨run_loadVar_row _ k 33 33 _ (0, 0) _ h3 Try.underlying33 rfl infoAns, h2.drew, fun k' t ds hne hb => (h4 k' t ds hne hb).drawn 1⟩
theorem LIn.ne {cs : Array Value} (h : LIn w0 w q bm n D cs) : bm ≠ q := by
  rintro rfl
  obtain ⟨es, clock, hb, _⟩ := h.2.1
  have := h.1
  unfold Blk at this
  rw [hb] at this
  cases this
theorem look_int {P : Program} {k e t : TypeId} {qk : IntKind} (h : w.ownsMap P k (plainElem P e) bm n D) (K : Keyed P k) (ht : P.underlying t = some (.map k e)) (he : P.underlying e = some (.int qk)) (hz : (zeroValue e).run P w = .ok (.int qk 0) w)
    {key : Value} {kl : Lit} (hkey : keyOf P k key = some kl) : ∃ c, (Instr.lookup t (.map (some bm)) key true).run P w = .ok (.tuple #[.int qk c, .bool (Maps.has D kl)]) w ∧ D.atKey kl (.lit (.int qk 0)) = .lit (.int qk c) ∧ (Lit.int qk c).wf = true := by
  obtain ⟨v, ps, hrun, hv⟩ := h.look_ok K ht hz (zd := .lit (.int qk 0)) (zp := []) (plainElem_int he (by cases qk <;> decide)) hkey
  obtain ⟨c, rfl, hc, hwc⟩ := plainElem_int_inv he hv
  exact ⟨c, hrun, congrArg Prod.fst hc, hwc⟩
set_option maxHeartbeats 2000000 in
set_option maxRecDepth 100000 in
theorem do_get (hv gv tv lv : Value) (h : LIn w0 w q bm n D #[lv, .int .u32 0, .int .i64 2000, .int .i64 2, .int .u64 100, .int .i64 4, .map (some bm), hv, gv, tv, .int .i64 (d : Int), .int .u64 0]) :
    Calls Try.prog 9 #[.pointer (some ⟨q, 0, none⟩), .agg #[.int .u8 1, .int .u64 7, .int .u64 0, .int .u64 0, .int .u64 0, .bool false, .int .i64 0, .int .i64 0, .slice none 0 0, .int .u64 0, .int .u64 0]] w fun e w' => (∃ c, e = .returned (.agg #[.int .i64 0, .bool (Maps.has D (.int .u64 7)), .int .u64 c, .bool false, .int .u64 0, .slice none 0 0, .int .u64 0]) ∧ D.atKey (.int .u64 7) (.lit (.int .u64 0)) = .lit (.int .u64 c)) ∧ LIn w0 w' q bm n D #[lv, .int .u32 0, .int .i64 2000, .int .i64 2, .int .u64 100, .int .i64 4, .map (some bm), hv, gv, tv, .int .i64 (d : Int), .int .u64 0] ∧ ∀ k' t ds, Blk w k' t ds → Blk w' k' t ds := by
  have hkey := keyOf_int_mk (P := Try.prog) (k := 23) Try.underlying23 (a := 7) (by decide)
  have h2 := (h.alloc (.cells #[.int .u8 1, .int .u64 7, .int .u64 0, .int .u64 0, .int .u64 0, .bool false, .int .i64 0, .int .i64 0, .slice none 0 0, .int .u64 0, .int .u64 0] 28)).alloc (.cells #[.int .i64 0, .bool false, .int .u64 0, .bool false, .int .u64 0, .slice none 0 0, .int .u64 0] 33)
  have bo := (Blk.made w 28 #[.int .u8 1, .int .u64 7, .int .u64 0, .int .u64 0, .int .u64 0, .bool false, .int .i64 0, .int .i64 0, .slice none 0 0, .int .u64 0, .int .u64 0]).alloc (.cells #[.int .i64 0, .bool false, .int .u64 0, .bool false, .int .u64 0, .slice none 0 0, .int .u64 0] 33)
  have br := Blk.made (w.alloc (.cells #[.int .u8 1, .int .u64 7, .int .u64 0, .int .u64 0, .int .u64 0, .bool false, .int .i64 0, .int .i64 0, .slice none 0 0, .int .u64 0, .int .u64 0] 28)) 33 #[.int .i64 0, .bool false, .int .u64 0, .bool false, .int .u64 0, .slice none 0 0, .int .u64 0]
  rw [World.size_alloc] at br
  have hlt := h.1.lt
  have HWK : Hid (∀ k' t ds, Blk w k' t ds → Blk ((w.alloc (.cells #[.int .u8 1, .int .u64 7, .int .u64 0, .int .u64 0, .int .u64 0, .bool false, .int .i64 0, .int .i64 0, .slice none 0 0, .int .u64 0, .int .u64 0] 28)).alloc (.cells #[.int .i64 0, .bool false, .int .u64 0, .bool false, .int .u64 0, .slice none 0 0, .int .u64 0] 33)) k' t ds) := Lib.hid (fun k' t ds hb => (hb.alloc _).alloc _)
  have hq2 := h.2.2.1
  have hwB := h.2.2.2.2.size
  clear h
  go_enter Try.func9, Try.ntmps9
  go_upto_region 2 with fail
  generalize ((w.alloc (.cells #[.int .u8 1, .int .u64 7, .int .u64 0, .int .u64 0, .int .u64 0, .bool false, .int .i64 0, .int .i64 0, .slice none 0 0, .int .u64 0, .int .u64 0] 28)).alloc (.cells #[.int .i64 0, .bool false, .int .u64 0, .bool false, .int .u64 0, .slice none 0 0, .int .u64 0] 33)) = W at *
  obtain ⟨c, hlk, hat, hcw⟩ := look_int h2.2.1.drew law23 Try.underlying48 Try.underlying23 (zero23 _) hkey
  have m6 : W.cell? ⟨q, 6, none⟩ = some (.map (some bm)) := h2.1.cell 6
  have o1 : W.cell? ⟨w.heap.size, 1, none⟩ = some (.int .u64 7) := bo.cell 1
  have H2 := Lib.hid (And.intro h2 (And.intro bo br))
  clear h2 bo br
  go_region_held3 (fun wx => wx.cell? ⟨q, 6, none⟩ = some (.map (some bm)) ∧ wx.cell? ⟨w.heap.size, 1, none⟩ = some (.int .u64 7)) (exact ⟨m6, o1⟩) (fail)
  have o2 := H2.out.2.1.alloc (.cells #[.int .i64 0, .bool (Maps.has D (.int .u64 7)), .int .u64 c, .bool false, .int .u64 0, .slice none 0 0, .int .u64 0] 33)
  have b2 := H2.out.2.2.alloc (.cells #[.int .i64 0, .bool (Maps.has D (.int .u64 7)), .int .u64 c, .bool false, .int .u64 0, .slice none 0 0, .int .u64 0] 33)
  have g0 : (W.alloc (.cells #[.int .i64 0, .bool (Maps.has D (.int .u64 7)), .int .u64 c, .bool false, .int .u64 0, .slice none 0 0, .int .u64 0] 33)).cell? ⟨w.heap.size, 0, none⟩ = some (.int .u8 1) := o2.cell 0
  have r0 : (W.alloc (.cells #[.int .i64 0, .bool (Maps.has D (.int .u64 7)), .int .u64 c, .bool false, .int .u64 0, .slice none 0 0, .int .u64 0] 33)).cell? ⟨w.heap.size + 1, 0, none⟩ = some (.int .i64 0) := b2.cell 0
  have f0 := b2.cold 0
  have r1 : (W.alloc (.cells #[.int .i64 0, .bool (Maps.has D (.int .u64 7)), .int .u64 c, .bool false, .int .u64 0, .slice none 0 0, .int .u64 0] 33)).cell? ⟨w.heap.size + 1, 1, none⟩ = some (.bool false) := b2.cell 1
  have f1 := b2.cold 1
  have r2 : (W.alloc (.cells #[.int .i64 0, .bool (Maps.has D (.int .u64 7)), .int .u64 c, .bool false, .int .u64 0, .slice none 0 0, .int .u64 0] 33)).cell? ⟨w.heap.size + 1, 2, none⟩ = some (.int .u64 0) := b2.cell 2
  have f2 := b2.cold 2
  have r3 : (W.alloc (.cells #[.int .i64 0, .bool (Maps.has D (.int .u64 7)), .int .u64 c, .bool false, .int .u64 0, .slice none 0 0, .int .u64 0] 33)).cell? ⟨w.heap.size + 1, 3, none⟩ = some (.bool false) := b2.cell 3
  have f3 := b2.cold 3
  have r4 : (W.alloc (.cells #[.int .i64 0, .bool (Maps.has D (.int .u64 7)), .int .u64 c, .bool false, .int .u64 0, .slice none 0 0, .int .u64 0] 33)).cell? ⟨w.heap.size + 1, 4, none⟩ = some (.int .u64 0) := b2.cell 4
  have f4 := b2.cold 4
  have r5 : (W.alloc (.cells #[.int .i64 0, .bool (Maps.has D (.int .u64 7)), .int .u64 c, .bool false, .int .u64 0, .slice none 0 0, .int .u64 0] 33)).cell? ⟨w.heap.size + 1, 5, none⟩ = some (.slice none 0 0) := b2.cell 5
  have f5 := b2.cold 5
  have r6 : (W.alloc (.cells #[.int .i64 0, .bool (Maps.has D (.int .u64 7)), .int .u64 c, .bool false, .int .u64 0, .slice none 0 0, .int .u64 0] 33)).cell? ⟨w.heap.size + 1, 6, none⟩ = some (.int .u64 0) := b2.cell 6
  have f6 := b2.cold 6
  have HB2 := Lib.hid b2
  clear o2 b2 m6 o1
  go_wp2_with fail
  have HA := ans7d (H2.out.1.alloc (.cells #[.int .i64 0, .bool (Maps.has D (.int .u64 7)), .int .u64 c, .bool false, .int .u64 0, .slice none 0 0, .int .u64 0] 33)) HB2.out (by omega) (.int .i64 0) (.bool (Maps.has D (.int .u64 7))) (.int .u64 c) (.bool false) (.int .u64 0) (.slice none 0 0) (.int .u64 0)
  have hkk := fun k' t ds (hb : Blk w k' t ds) => HA.2.2 k' t ds (by have := hb.lt; omega) ((HWK.out k' t ds hb).alloc (.cells #[.int .i64 0, .bool (Maps.has D (.int .u64 7)), .int .u64 c, .bool false, .int .u64 0, .slice none 0 0, .int .u64 0] 33))
  exact ⟨rfl, _, res_cell1 rfl rfl HA.1, ⟨c, rfl, hat⟩, HA.2.1, hkk⟩
set_option maxHeartbeats 2000000 in
set_option maxRecDepth 100000 in
theorem do_put (hv gv tv lv : Value) (hn : n < 1000) (h : LIn w0 w q bm n D #[lv, .int .u32 0, .int .i64 2000, .int .i64 2, .int .u64 100, .int .i64 4, .map (some bm), hv, gv, tv, .int .i64 (d : Int), .int .u64 0]) :
    Calls Try.prog 9 #[.pointer (some ⟨q, 0, none⟩), .agg #[.int .u8 2, .int .u64 7, .int .u64 1, .int .u64 0, .int .u64 0, .bool false, .int .i64 0, .int .i64 0, .slice none 0 0, .int .u64 0, .int .u64 0]] w fun e w' => (∃ c, e = .returned (.agg #[.int .i64 0, .bool (Maps.has D (.int .u64 7)), .int .u64 c, .bool false, .int .u64 0, .slice none 0 0, .int .u64 0]) ∧ D.atKey (.int .u64 7) (.lit (.int .u64 0)) = .lit (.int .u64 c)) ∧ LIn w0 w' q bm (n + 1) (D.put (.int .u64 7) (.lit (.int .u64 1))) #[lv, .int .u32 0, .int .i64 2000, .int .i64 2, .int .u64 100, .int .i64 4, .map (some bm), hv, gv, tv, .int .i64 (d : Int), .int .u64 0] ∧ ∀ k' t ds, Blk w k' t ds → Blk w' k' t ds := by
  have hkey := keyOf_int_mk (P := Try.prog) (k := 23) Try.underlying23 (a := 7) (by decide)
  have h2 := (h.alloc (.cells #[.int .u8 2, .int .u64 7, .int .u64 1, .int .u64 0, .int .u64 0, .bool false, .int .i64 0, .int .i64 0, .slice none 0 0, .int .u64 0, .int .u64 0] 28)).alloc (.cells #[.int .i64 0, .bool false, .int .u64 0, .bool false, .int .u64 0, .slice none 0 0, .int .u64 0] 33)
  have bo := (Blk.made w 28 #[.int .u8 2, .int .u64 7, .int .u64 1, .int .u64 0, .int .u64 0, .bool false, .int .i64 0, .int .i64 0, .slice none 0 0, .int .u64 0, .int .u64 0]).alloc (.cells #[.int .i64 0, .bool false, .int .u64 0, .bool false, .int .u64 0, .slice none 0 0, .int .u64 0] 33)
  have br := Blk.made (w.alloc (.cells #[.int .u8 2, .int .u64 7, .int .u64 1, .int .u64 0, .int .u64 0, .bool false, .int .i64 0, .int .i64 0, .slice none 0 0, .int .u64 0, .int .u64 0] 28)) 33 #[.int .i64 0, .bool false, .int .u64 0, .bool false, .int .u64 0, .slice none 0 0, .int .u64 0]
  rw [World.size_alloc] at br
  have hlt := h.1.lt
  have HWK : Hid (∀ k' t ds, Blk w k' t ds → Blk ((w.alloc (.cells #[.int .u8 2, .int .u64 7, .int .u64 1, .int .u64 0, .int .u64 0, .bool false, .int .i64 0, .int .i64 0, .slice none 0 0, .int .u64 0, .int .u64 0] 28)).alloc (.cells #[.int .i64 0, .bool false, .int .u64 0, .bool false, .int .u64 0, .slice none 0 0, .int .u64 0] 33)) k' t ds) := Lib.hid (fun k' t ds hb => (hb.alloc _).alloc _)
  have hq2 := h.2.2.1
  have hwB := h.2.2.2.2.size
  clear h
  go_enter Try.func9, Try.ntmps9
  go_upto_region 2 with fail
  generalize ((w.alloc (.cells #[.int .u8 2, .int .u64 7, .int .u64 1, .int .u64 0, .int .u64 0, .bool false, .int .i64 0, .int .i64 0, .slice none 0 0, .int .u64 0, .int .u64 0] 28)).alloc (.cells #[.int .i64 0, .bool false, .int .u64 0, .bool false, .int .u64 0, .slice none 0 0, .int .u64 0] 33)) = W at *
  obtain ⟨c, hlk, hat, hcw⟩ := look_int h2.2.1.drew law23 Try.underlying48 Try.underlying23 (zero23 _) hkey
  have m6 : W.cell? ⟨q, 6, none⟩ = some (.map (some bm)) := h2.1.cell 6
  have o1 : W.cell? ⟨w.heap.size, 1, none⟩ = some (.int .u64 7) := bo.cell 1
  have H2 := Lib.hid (And.intro h2 (And.intro bo br))
  clear h2 bo br
  go_region_held3 (fun wx => wx.cell? ⟨q, 6, none⟩ = some (.map (some bm)) ∧ wx.cell? ⟨w.heap.size, 1, none⟩ = some (.int .u64 7)) (exact ⟨m6, o1⟩) (fail)
  have o2 := H2.out.2.1.alloc (.cells #[.int .i64 0, .bool (Maps.has D (.int .u64 7)), .int .u64 c, .bool false, .int .u64 0, .slice none 0 0, .int .u64 0] 33)
  have b2 := H2.out.2.2.alloc (.cells #[.int .i64 0, .bool (Maps.has D (.int .u64 7)), .int .u64 c, .bool false, .int .u64 0, .slice none 0 0, .int .u64 0] 33)
  have g0 : (W.alloc (.cells #[.int .i64 0, .bool (Maps.has D (.int .u64 7)), .int .u64 c, .bool false, .int .u64 0, .slice none 0 0, .int .u64 0] 33)).cell? ⟨w.heap.size, 0, none⟩ = some (.int .u8 2) := o2.cell 0
  have r0 : (W.alloc (.cells #[.int .i64 0, .bool (Maps.has D (.int .u64 7)), .int .u64 c, .bool false, .int .u64 0, .slice none 0 0, .int .u64 0] 33)).cell? ⟨w.heap.size + 1, 0, none⟩ = some (.int .i64 0) := b2.cell 0
  have f0 := b2.cold 0
  have r1 : (W.alloc (.cells #[.int .i64 0, .bool (Maps.has D (.int .u64 7)), .int .u64 c, .bool false, .int .u64 0, .slice none 0 0, .int .u64 0] 33)).cell? ⟨w.heap.size + 1, 1, none⟩ = some (.bool false) := b2.cell 1
  have f1 := b2.cold 1
  have r2 : (W.alloc (.cells #[.int .i64 0, .bool (Maps.has D (.int .u64 7)), .int .u64 c, .bool false, .int .u64 0, .slice none 0 0, .int .u64 0] 33)).cell? ⟨w.heap.size + 1, 2, none⟩ = some (.int .u64 0) := b2.cell 2
  have f2 := b2.cold 2
  have r3 : (W.alloc (.cells #[.int .i64 0, .bool (Maps.has D (.int .u64 7)), .int .u64 c, .bool false, .int .u64 0, .slice none 0 0, .int .u64 0] 33)).cell? ⟨w.heap.size + 1, 3, none⟩ = some (.bool false) := b2.cell 3
  have f3 := b2.cold 3
  have r4 : (W.alloc (.cells #[.int .i64 0, .bool (Maps.has D (.int .u64 7)), .int .u64 c, .bool false, .int .u64 0, .slice none 0 0, .int .u64 0] 33)).cell? ⟨w.heap.size + 1, 4, none⟩ = some (.int .u64 0) := b2.cell 4
  have f4 := b2.cold 4
  have r5 : (W.alloc (.cells #[.int .i64 0, .bool (Maps.has D (.int .u64 7)), .int .u64 c, .bool false, .int .u64 0, .slice none 0 0, .int .u64 0] 33)).cell? ⟨w.heap.size + 1, 5, none⟩ = some (.slice none 0 0) := b2.cell 5
  have f5 := b2.cold 5
  have r6 : (W.alloc (.cells #[.int .i64 0, .bool (Maps.has D (.int .u64 7)), .int .u64 c, .bool false, .int .u64 0, .slice none 0 0, .int .u64 0] 33)).cell? ⟨w.heap.size + 1, 6, none⟩ = some (.int .u64 0) := b2.cell 6
  have f6 := b2.cold 6
  have HB2 := Lib.hid b2
  clear o2 b2 m6 o1
  have hX : Blk (W.alloc (.cells #[.int .i64 0, .bool (Maps.has D (.int .u64 7)), .int .u64 c, .bool false, .int .u64 0, .slice none 0 0, .int .u64 0] 33)).drew W.heap.size 33 _ := (Blk.made W 33 #[.int .i64 0, .bool (Maps.has D (.int .u64 7)), .int .u64 c, .bool false, .int .u64 0, .slice none 0 0, .int .u64 0]).drawn 1
  have hV := (H2.out.1.alloc (.cells #[.int .i64 0, .bool (Maps.has D (.int .u64 7)), .int .u64 c, .bool false, .int .u64 0, .slice none 0 0, .int .u64 0] 33)).drew
  have hO : Blk (W.alloc (.cells #[.int .i64 0, .bool (Maps.has D (.int .u64 7)), .int .u64 c, .bool false, .int .u64 0, .slice none 0 0, .int .u64 0] 33)).drew w.heap.size 28 _ := (H2.out.2.1.alloc (.cells #[.int .i64 0, .bool (Maps.has D (.int .u64 7)), .int .u64 c, .bool false, .int .u64 0, .slice none 0 0, .int .u64 0] 33)).drawn 1
  have hR : Blk (W.alloc (.cells #[.int .i64 0, .bool (Maps.has D (.int .u64 7)), .int .u64 c, .bool false, .int .u64 0, .slice none 0 0, .int .u64 0] 33)).drew (w.heap.size + 1) 33 _ := HB2.out.drawn 1
  have HVK : Hid (∀ k' t ds, Blk W k' t ds → Blk (W.alloc (.cells #[.int .i64 0, .bool (Maps.has D (.int .u64 7)), .int .u64 c, .bool false, .int .u64 0, .slice none 0 0, .int .u64 0] 33)).drew k' t ds) := Lib.hid (fun k' t ds hb => (hb.alloc (.cells #[.int .i64 0, .bool (Maps.has D (.int .u64 7)), .int .u64 c, .bool false, .int .u64 0, .slice none 0 0, .int .u64 0] 33)).drawn 1)
  go_upto_region 8 with fail
  generalize hVV : (W.alloc (.cells #[.int .i64 0, .bool (Maps.has D (.int .u64 7)), .int .u64 c, .bool false, .int .u64 0, .slice none 0 0, .int .u64 0] 33)).drew = V at *
  clear hVV H2 HB2 g0 r0 r1 r2 r3 r4 r5 r6 f0 f1 f2 f3 f4 f5 f6 hlk
  generalize W.heap.size = wb at *
  obtain ⟨V5, hup, hV5, hk5⟩ := hV.drew.turn hn (x := 7) (v := 1) hkey (by decide)
  have m6 : V.cell? ⟨q, 6, none⟩ = some (.map (some bm)) := hV.1.cell 6
  have o1 : V.cell? ⟨w.heap.size, 1, none⟩ = some (.int .u64 7) := hO.cell 1
  have o2 : V.cell? ⟨w.heap.size, 2, none⟩ = some (.int .u64 1) := hO.cell 2
  have O5 := hk5 _ _ _ hO
  have R5 := hk5 _ _ _ hR
  have X5 := hk5 _ _ _ hX
  have m65 : V5.cell? ⟨q, 6, none⟩ = some (.map (some bm)) := hV5.1.cell 6
  have o15 : V5.cell? ⟨w.heap.size, 1, none⟩ = some (.int .u64 7) := O5.cell 1
  have o25 : V5.cell? ⟨w.heap.size, 2, none⟩ = some (.int .u64 1) := O5.cell 2
  have HK5 := Lib.hid hk5
  clear hX hO hR hk5
  go_region_held3 (fun wx => wx.cell? ⟨q, 6, none⟩ = some (.map (some bm)) ∧ wx.cell? ⟨w.heap.size, 1, none⟩ = some (.int .u64 7) ∧ wx.cell? ⟨w.heap.size, 2, none⟩ = some (.int .u64 1)) (first | exact ⟨m6, o1, o2⟩ | exact ⟨m65, o15, o25⟩) (fail)
  have r0 : V5.cell? ⟨w.heap.size + 1, 0, none⟩ = some (.int .i64 0) := R5.cell 0
  have f0 := R5.cold 0
  have x0 : V5.cell? ⟨wb, 0, none⟩ = some (.int .i64 0) := X5.cell 0
  have r1 : V5.cell? ⟨w.heap.size + 1, 1, none⟩ = some (.bool false) := R5.cell 1
  have f1 := R5.cold 1
  have x1 : V5.cell? ⟨wb, 1, none⟩ = some (.bool (Maps.has D (.int .u64 7))) := X5.cell 1
  have r2 : V5.cell? ⟨w.heap.size + 1, 2, none⟩ = some (.int .u64 0) := R5.cell 2
  have f2 := R5.cold 2
  have x2 : V5.cell? ⟨wb, 2, none⟩ = some (.int .u64 c) := X5.cell 2
  have r3 : V5.cell? ⟨w.heap.size + 1, 3, none⟩ = some (.bool false) := R5.cell 3
  have f3 := R5.cold 3
  have x3 : V5.cell? ⟨wb, 3, none⟩ = some (.bool false) := X5.cell 3
  have r4 : V5.cell? ⟨w.heap.size + 1, 4, none⟩ = some (.int .u64 0) := R5.cell 4
  have f4 := R5.cold 4
  have x4 : V5.cell? ⟨wb, 4, none⟩ = some (.int .u64 0) := X5.cell 4
  have r5 : V5.cell? ⟨w.heap.size + 1, 5, none⟩ = some (.slice none 0 0) := R5.cell 5
  have f5 := R5.cold 5
  have x5 : V5.cell? ⟨wb, 5, none⟩ = some (.slice none 0 0) := X5.cell 5
  have r6 : V5.cell? ⟨w.heap.size + 1, 6, none⟩ = some (.int .u64 0) := R5.cell 6
  have f6 := R5.cold 6
  have x6 : V5.cell? ⟨wb, 6, none⟩ = some (.int .u64 0) := X5.cell 6
  have HV5 := Lib.hid (And.intro hV5 R5)
  clear hV5 O5 R5 X5 hV m6 o1 o2 hup m65 o15 o25
  go_wp2_with fail
  have HA := ans7 HV5.out.1 HV5.out.2 (by omega) (.int .i64 0) (.bool (Maps.has D (.int .u64 7))) (.int .u64 c) (.bool false) (.int .u64 0) (.slice none 0 0) (.int .u64 0)
  have hl := run_loadVar_row _ (w.heap.size + 1) 33 33 _ (0, 0) _ HA.1 Try.underlying33 rfl infoAns
  have hkk := fun k' t ds (hb : Blk w k' t ds) => HA.2.2 k' t ds (by have := hb.lt; omega) (HK5.out k' t ds (HVK.out k' t ds (HWK.out k' t ds hb)))
  exact ⟨rfl, _, res_cell1 rfl rfl hl, ⟨c, rfl, hat⟩, HA.2.1, hkk⟩
end
end Go.Proofs.Ytfjilcneiaekaaa

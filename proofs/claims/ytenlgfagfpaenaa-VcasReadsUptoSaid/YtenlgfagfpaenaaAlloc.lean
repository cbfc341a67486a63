/-
  The plain memory's Alloc: values are copied behind what was handed out, if there is room. No condition.
-/
import Derived.Test.YtenlgfagfpaenaaTrace
import Derived.Laws.CopyRow
import Derived.Laws.CopyOwn
import Derived.Deep.RegionHeld3
import Derived.IntWalk
namespace Go.Proofs.Ytenlgfagfpaenaa
open Go Go.RowKit
set_option linter.unusedSimpArgs false
set_option linter.unusedVariables false
theorem step_copy_row {P : Program} {ops : Array Oper} {o : Oper} {a : Act} {w : World} {K : Act → World → Prop} {Q : Exit → Act → World → Prop} {E : Prop} (hgd : o.guard = none) (d s : Operand) (dT sT : TypeId)
    (ho : o.op = .call { callee := .builtin .copy, args := #[d, s], argTypes := #[dT, sT] }) (elem : TypeId) (hu : P.underlying dT = some (.slice elem)) (hsz : (P.info? elem).map (·.size) = some 1)
    (g off dLen dCap : Nat) (ad : Addr) (sLen sCap : Nat) (hd : a.eval d = .slice (some ⟨g, off, none⟩) dLen dCap) (hs : a.eval s = .slice (some ad) sLen sCap)
    (cur : Array Value) (t : TypeId) (hg : w.heap[g]? = some (.cells cur t (0, 0))) (cs : List Value) (hn : cs.length = Nat.min sLen dLen)
    (hsrc : ∀ j v, cs[j]? = some v → w.cell? (ad.add j) = some v) (hfit : off + cs.length ≤ cur.size) (h1 : ∀ v ∈ cs, v.oneCell' = true)
    (h : K (a.put o.dst (goInt cs.length)) (w.setRow g (cur.toList.take off ++ (cs ++ cur.toList.drop (off + cs.length))).toArray)) :
    if Region.wanted o (yielded ops a.tmps) = true then Oper.wp P o a w K Q else E := by
  have hw : Region.wanted o (yielded ops a.tmps) = true := by simp [Region.wanted, hgd]
  rw [if_pos hw]
  have hrun := run_copy_row (P := P) w dT sT o.type elem g off dLen dCap ad sLen sCap cur t cs hu hsz hg hn hsrc hfit h1
  unfold Oper.wp
  simp [execOp, ho, resolve, invoke, builtin, hd, hs, hrun, Result.andThen]
  exact h
/-- a value reads as this list of numbers, wherever it lies -/
def VA (w : World) (v : Value) (vs : List Int) : Prop :=
  ∃ p c, v = .slice p vs.length c ∧ (vs = [] ∨ ∃ ad, p = some ad ∧ ad.block < w.heap.size ∧ ∀ j u, (us vs)[j]? = some u → w.cell? (ad.add j) = some u)
/-- none of what it reads lies in S -/
def Off (v : Value) (S : Nat → Prop) : Prop := ∀ ad n c, v = .slice (some ad) n c → ¬ S ad.block
def Mem.fits (A : Mem) (vs : List Int) : Bool := decide (vs ≠ [] ∧ A.next + vs.length ≤ A.cells.length)
def Mem.laid (A : Mem) (vs : List Int) : Mem := { A with cells := splice A.cells A.next vs, next := A.next + vs.length }
def Mem.spot (A : Mem) (vs : List Int) : Int := if A.fits vs then A.next else 0
def Mem.alloc (A : Mem) (t : Int) (vs : List Int) : Mem := (if A.fits vs then A.laid vs else A).note ⟨t, 5, A.spot vs, 0, 0, vs, 0, false⟩
section
variable {w w' : World} {F G S : Nat → Prop} {bm q r v : Nat} {tv av : Value} {rows : List (Acc × Value)} {A : Mem} {vs : List Int} {th made : Int} {g : Nat} {t : TypeId} {cs cs' : Array Value}
theorem Blk.row (h : Blk w g t cs) (cs' : Array Value) : Blk (w.setRow g cs') g t cs' := setRow_heap w g cs cs' t (0, 0) h
theorem Blk.row_far (h : Blk w g t cs) {k : Nat} (hk : g ≠ k) (cs' : Array Value) : Blk (w.setRow k cs') g t cs := (setRow_other w k g cs' hk).trans h
theorem Fr.row (w : World) (k : Nat) (cs' : Array Value) : Fr (fun b => b = k) w (w.setRow k cs') := ⟨rfl, rfl, rfl, by simp [World.setRow], fun b _ hb => setRow_other w k b cs' hb⟩
theorem splice_us (A : Mem) (vs : List Int) : us (splice A.cells A.next vs) = splice (us A.cells) A.next (us vs) := by simp [us, splice, List.map_take, List.map_drop]
/-- values are laid behind what was handed out -/
theorem splice_more {α : Type} (L sp : List α) (off : Nat) (cs : List α) (h : off + cs.length ≤ L.length) : splice (L ++ sp) off cs = splice L off cs ++ sp := by
  simp only [splice, List.take_append_of_le_length (show off ≤ L.length by omega), List.drop_append_of_le_length (show off + cs.length ≤ L.length by omega), List.append_assoc]
theorem PMx.lay (h : PMx w F bm q r tv rows A) (hf : A.next + vs.length ≤ A.cells.length) {sp : List Value} (hR : Blk w r 23 (us A.cells ++ sp).toArray) {cap : Nat} (hcap : A.cells.length ≤ cap) (hQ : Blk w q 117 #[.slice (some ⟨r, 0, none⟩) A.cells.length cap, .int .i64 A.next]) :
    PMx ((w.setRow r (splice (us A.cells ++ sp) A.next (us vs)).toArray).setCell ⟨q, 1, none⟩ (.int .i64 ((A.next : Int) + vs.length))) F bm q r tv rows (A.laid vs) ∧
    Fr (fun b => b = q ∨ b = r) w ((w.setRow r (splice (us A.cells ++ sp) A.next (us vs)).toArray).setCell ⟨q, 1, none⟩ (.int .i64 ((A.next : Int) + vs.length))) := by
  have f : Fr (fun b => b = q ∨ b = r) w ((w.setRow r (splice (us A.cells ++ sp) A.next (us vs)).toArray).setCell ⟨q, 1, none⟩ (.int .i64 ((A.next : Int) + vs.length))) :=
    ((Fr.row w r _).mono (fun _ _ e => .inr e)).put (p := ⟨q, 1, none⟩) (.inl (.inl rfl)) _
  have hqr : q ≠ r := Blk.ne hQ hR (by decide)
  have hlen : (splice A.cells A.next vs).length = A.cells.length := length_splice _ _ _ hf
  refine ⟨⟨h.bM.fr f ?_, ?_, ?_, own_fr h.own f ?_, h.fst, ?_, h.fM, h.fQ, h.fR, h.fT⟩, f⟩
  · rintro (e | e)
    · exact Blk.ne h.bM hQ (by decide) e
    · exact Blk.ne h.bM hR (by decide) e
  · have h2 := (hQ.row_far hqr (splice (us A.cells ++ sp) A.next (us vs)).toArray).put 1 (.int .i64 ((A.next : Int) + vs.length))
    refine ⟨cap, by simpa only [Mem.laid, hlen] using hcap, h2.eq ?_⟩
    simp only [Mem.laid, hlen]
    simp
  · have h2 := (hR.row (splice (us A.cells ++ sp) A.next (us vs)).toArray).far (p := ⟨q, 1, none⟩) (fun e => hqr e.symm) (.int .i64 ((A.next : Int) + vs.length))
    refine ⟨sp, h2.eq ?_⟩
    rw [splice_more _ _ _ _ (by simpa [us] using hf)]
    simp only [Mem.laid, splice_us]
  · rintro g e (rfl | rfl)
    · exact own_ne h.own hQ (by decide) e
    · exact own_ne h.own hR (by decide) e
  · intro y hy
    refine (h.vals y hy).fr f ?_
    rintro k _ hk ⟨cs, hb⟩ (rfl | rfl)
    · exact Blk.ne hb hQ (by decide) rfl
    · exact hk rfl
theorem palloc_no (h : PMx w F bm q r tv rows A) (p : Option Addr) (n c : Nat) (hn : ¬ A.next + n ≤ A.cells.length) (hA : A.next ≤ A.cells.length) (hl : A.cells.length ≤ 4194304) :
    Calls Try.prog 124 #[.pointer (some ⟨q, 0, none⟩), .slice p n c] w fun e w' => e = .returned (.int .u64 0) ∧ ∃ k, w' = w.drewN k := by
  obtain ⟨cp, hcp, hbQ⟩ := h.bQ'
  have c0 : w.cell? ⟨q, 0, none⟩ = some _ := hbQ.cell 0
  have c1 : w.cell? ⟨q, 1, none⟩ = some _ := hbQ.cell 1
  have t1 : decide (((A.cells.length : Int) - (A.next : Int)) < (n : Int)) = true := by simp; omega
  generalize A.cells.length = m at *
  generalize A.next = x at *
  have t2 : wrap64 ((m : Int) - (x : Int)) = (m : Int) - (x : Int) := by unfold wrap64; omega
  clear hn hA hl h hbQ hcp
  go_enter Try.func124, Try.ntmps124
  go_wp2_with fail
  go_quiet (fail)
  all_goals
    go_wp2
    go_ret
    exact ⟨rfl, _, rfl⟩
set_option maxRecDepth 100000 in
theorem palloc_yes (h : PMx w F bm q r tv rows A) (hv : VA w av vs) (h0 : vs ≠ []) (hf : A.next + vs.length ≤ A.cells.length) (hl : A.cells.length ≤ 4194304) :
    Calls Try.prog 124 #[.pointer (some ⟨q, 0, none⟩), av] w fun e w' => e = .returned (.int .u64 A.next) ∧ PMx w' F bm q r tv rows (A.laid vs) ∧ Fr (fun b => b = q ∨ b = r) w w' := by
  obtain ⟨cp, hcp, hbQ⟩ := h.bQ'
  obtain ⟨sp, hbR⟩ := h.bR'
  have c0 : w.cell? ⟨q, 0, none⟩ = some _ := hbQ.cell 0
  have c1 : w.cell? ⟨q, 1, none⟩ = some _ := hbQ.cell 1
  have f1 := hbQ.cold 1
  obtain ⟨p, c, rfl, hv⟩ := hv
  obtain ⟨ad, rfl, hb, hc⟩ := hv.resolve_left h0
  have HL := Lib.hid (h.lay hf hbR hcp hbQ)
  have t1 : decide (((A.cells.length : Int) - (A.next : Int)) < (vs.length : Int)) = false := by simp; omega
  have hpos : 0 < vs.length := List.length_pos_iff.2 h0
  have hqr : q ≠ r := Blk.ne hbQ hbR (by decide)
  have hrow := Lib.hid hbR
  have hQ := Lib.hid hbQ
  have hul : A.cells.length ≤ (us A.cells ++ sp).length := by simp [us]
  have huv : (us vs).length = vs.length := by simp [us]
  have H1 : Hid (∀ v ∈ us vs, v.oneCell' = true) := by
    intro u hu
    obtain ⟨y, _, rfl⟩ := List.mem_map.1 hu; rfl
  have HC := Lib.hid hc
  have HU := Lib.hid hul
  have HV := Lib.hid huv
  clear hbR hbQ
  generalize us A.cells ++ sp = uc at *
  generalize us vs = uv at *
  generalize hm : A.cells.length = m at *
  generalize A.next = x at *
  generalize vs.length = n at *
  have t2 : wrap64 ((m : Int) - (x : Int)) = (m : Int) - (x : Int) := by unfold wrap64; omega
  have t3 : IntKind.i64.wrap ((x : Int) + (n : Int)) = (x : Int) + (n : Int) := IntWalk.i64_in _ (by omega)
  have t4 : x ≤ m := by omega
  have t5 : ¬ m = x := by omega
  have t6 : ¬ cp = x := by omega
  have t7 : x ≤ cp := by omega
  clear hc h hm hul
  subst huv
  go_enter Try.func124, Try.ntmps124
  go_wp2_with fail
  go_quiet (fail)
  go_wp2_with fail
  have hrow1 := Lib.hid (show Blk (w.drewN nq) r 23 uc.toArray from hrow.out.drawn nq)
  have hQ1 := Lib.hid (show Blk (w.drewN nq) q 117 _ from hQ.out.drawn nq)
  have HC1 : Hid (∀ j u, uv[j]? = some u → (w.drewN nq).cell? (ad.add j) = some u) := HC.out
  have HL1 : Hid (PMx (((w.drewN nq).setRow r (splice uc x uv).toArray).setCell ⟨q, 1, none⟩ (.int .i64 ((x : Int) + uv.length))) F bm q r tv rows (A.laid vs) ∧ Fr (fun b => b = q ∨ b = r) w (((w.drewN nq).setRow r (splice uc x uv).toArray).setCell ⟨q, 1, none⟩ (.int .i64 ((x : Int) + uv.length)))) :=
    ⟨HL.out.1.fr ((Fr.refl (fun _ => False) _).drawn nq) (fun _ _ e => e), HL.out.2.drawn nq⟩
  have HL2 : Hid (PMx (((w.drewN nq).drew.setRow r (splice uc x uv).toArray).setCell ⟨q, 1, none⟩ (.int .i64 ((x : Int) + uv.length))) F bm q r tv rows (A.laid vs) ∧ Fr (fun b => b = q ∨ b = r) w (((w.drewN nq).drew.setRow r (splice uc x uv).toArray).setCell ⟨q, 1, none⟩ (.int .i64 ((x : Int) + uv.length)))) :=
    ⟨HL1.out.1.fr ((Fr.refl (fun _ => False) _).drawn 1) (fun _ _ e => e), HL1.out.2.drawn 1⟩
  clear c0 c1 f1
  generalize w.drewN nq = w1 at *
  have c0 : w1.cell? ⟨q, 0, none⟩ = some _ := hQ1.out.cell 0
  have c1 : w1.cell? ⟨q, 1, none⟩ = some _ := hQ1.out.cell 1
  have n0 : ∀ cs, (w1.drew.setRow r cs).cell? ⟨q, 0, none⟩ = some (.slice (some ⟨r, 0, none⟩) m cp) := fun cs => ((show Blk w1.drew q 117 _ from hQ1.out).row_far hqr cs).cell 0
  have n1 : ∀ cs, (w1.drew.setRow r cs).cell? ⟨q, 1, none⟩ = some (.int .i64 x) := fun cs => ((show Blk w1.drew q 117 _ from hQ1.out).row_far hqr cs).cell 1
  have nf : ∀ cs, (w1.drew.setRow r cs).frozen? ⟨q, 1, none⟩ = false := fun cs => ((show Blk w1.drew q 117 _ from hQ1.out).row_far hqr cs).cold 1
  go_region_law (refine step_copy_row rfl (.tmp 32) (.tmp 33) 22 22 rfl 23 Try.underlying22 (by kernel_rfl) r x (m - x) (cp - x) ad uv.length c (by simp [Act.eval, Act.put]) (by simp [Act.eval, Act.put]) uc.toArray 23 hrow1.out uv (Nat.min_eq_left (by omega)).symm HC1.out (by have := HU.out; simp; omega) H1.out ?_)
  all_goals
    go_wp2
    go_ret
    exact ⟨rfl, HL2.out⟩
theorem VA.fr (h : VA w av vs) (hf : Fr S w w') (ho : Off av S) : VA w' av vs := by
  obtain ⟨p, c, rfl, h⟩ := h
  refine ⟨p, c, rfl, ?_⟩
  rcases h with h | ⟨ad, rfl, hb, hc⟩
  · exact .inl h
  · refine .inr ⟨ad, rfl, Nat.lt_of_lt_of_le hb hf.size, fun j u hu => ?_⟩
    have h2 := hf.block ad.block hb (ho ad _ _ rfl)
    have e : w'.cell? (ad.add j) = w.cell? (ad.add j) := by
      have hk : (ad.add j).block = ad.block := add_block ad j
      unfold World.cell?
      rw [hk, h2]
    rw [e]; exact hc j u hu
theorem vals_own {B r : Nat} {u : Value} (h : w.ownsRow B 23 1 u vs.length (us vs)) (hr : r < B) : Vals w (fun k => B ≤ k) r u vs := by
  refine .inr ⟨⟨h.1, ?_⟩, ?_⟩
  · rcases h.2 with h0 | ⟨g, cap, cur, h1, _, h2⟩
    · exact .inl h0
    · exact .inr ⟨g, cap, cur, h1, Nat.zero_le _, h2⟩
  · intro g e
    rcases h.2 with ⟨rfl, _⟩ | ⟨g', cap, cur, rfl, hb, _⟩
    · cases e
    · have : g' = g := by simpa [Value.ownBlock] using e
      subst this
      exact ⟨hb, by omega⟩
/-- a copy of values, as a trace keeps it -/
theorem CloneV_any (h : VA w av vs) (hn : vs.length ≤ 1000000000) {r : Nat} (hr : r < w.heap.size) :
    Calls Try.prog 72 #[av] w fun e w' => ∃ v', e = .returned v' ∧ Vals w' (fun k => w.heap.size ≤ k) r v' vs ∧ Below w.heap.size w w' := by
  obtain ⟨p, c, rfl, h⟩ := h
  cases p with
  | none =>
    have h0 : vs = [] := by
      rcases h with h | ⟨ad, h, _⟩
      · exact h
      · cases h
    subst h0
    have heq := fun (w : World) (a : Option Addr) (n c n' c' : Nat) => Lib.run_eql_slice_nil (P := Try.prog) w 22 23 a n c n' c' Try.underlying22
    clear h
    simp only [List.length_nil]
    go_enter Try.func72, Try.ntmps72
    go_wp2
    go_ret
    exact ⟨_, rfl, .inl ⟨none, 0, rfl, rfl⟩, Below.refl _ _⟩
  | some ad =>
    refine (CloneU_some w ad vs.length c vs (by simp [us]) hn ?_).mono ?_
    · intro o j u hu
      rcases h with rfl | ⟨ad', e, hb, hc⟩
      · simp [us] at hu
      · injection e with e; subst e
        rw [World.cell?_alloc_lt w o _ (by rw [add_block]; exact hb)]
        exact hc j u hu
    · rintro e w' ⟨v', rfl, ho, hb⟩
      exact ⟨v', rfl, vals_own ho hr, hb⟩
theorem Ext.mono_size {F : Nat → Prop} {w w' : World} (h : w.heap.size ≤ w'.heap.size) : ∀ k, Ext (Ext F w) w' k → Ext F w k := by
  rintro k (hk | hk)
  · exact hk
  · exact .inr (Nat.le_trans h hk)
theorem VA.cl (h : VA w av vs) : ∃ p c, av = .slice p vs.length c := by
  obtain ⟨p, c, rfl, _⟩ := h; exact ⟨p, c, rfl⟩
theorem Alloc_tail {w1 w2 w3 : World} {A' : Mem} {x : Acc} {u : Value} (h1 : PMx w1 F bm q r tv rows A') (hv : VW w v bm th made) (hf1 : Fr F w w1) (hFv : ¬ F v) (hb : Below w1.heap.size w1 w2) (hu : Vals w2 (fun k => w1.heap.size ≤ k) r u x.vals) :
    PMx w2 (Ext F w) bm q r tv rows A' ∧ VW w2 v bm th made ∧ Vals w2 (Ext F w) r u x.vals ∧ (Noted w2 w3 (Ext F w) bm v th made A' x → Did w w3 F bm v th made { A' with trace := A'.trace ++ [{ x with thread := th }] }) := by
  have hfb : Fr (fun _ => False) w1 w2 := Fr.of_below hb
  refine ⟨(h1.fr hfb (fun _ _ e => e)).wide (fun _ hk => .inl hk), (VW.fr hv hf1 hFv).fr hfb (fun e => e), hu.wide (fun k hk => .inr (Nat.le_trans hf1.size hk)), ?_⟩
  rintro ⟨hp, hw, hf⟩
  have hs : w.heap.size ≤ w2.heap.size := Nat.le_trans hf1.size hb.size
  refine ⟨hp.wide (Ext.mono_size hs), hw, ⟨hf.os.trans (hb.os.trans hf1.os), hf.tape.trans (hb.tape.trans hf1.tape), hf.output.trans (hb.output.trans hf1.output), Nat.le_trans hs hf.size, fun k hk hn => ?_⟩⟩
  have e1 := hf1.block k hk (fun e => hn (.inl e))
  have e2 := hb.block k (Nat.lt_of_lt_of_le hk hf1.size)
  have e3 := hf.block k (Nat.lt_of_lt_of_le hk hs) (by
    rintro ((e | e) | e)
    · exact hn (.inl e)
    · omega
    · exact hn (.inr e))
  exact e3.trans (e2.trans e1)
set_option maxRecDepth 100000 in
theorem Alloc_x (h : PMx w F bm q r tv rows A) (hv : VW w v bm th made) (hFv : ¬ F v) (ha : VA w av vs) (ho : vs ≠ [] → Off av F) (hvl : vs.length ≤ 1000000000) (hA : A.next ≤ A.cells.length) (hn : A.cells.length ≤ 4194304) (ht : A.trace.length ≤ 1000000000) (hm0 : 0 ≤ made) (hm1 : made ≤ 1000000000) :
    Calls Try.prog 60 #[.pointer (some ⟨v, 0, none⟩), av] w fun e w' => e = .returned (.int .u64 (A.spot vs)) ∧ Did w w' F bm v th made (A.alloc th vs) := by
  have c1 : w.cell? ⟨v, 0, none⟩ = some _ := Blk.cell hv 0
  have d1 : w.cell? ⟨bm, 0, none⟩ = some _ := h.bM.cell 0
  have hrl := h.bR.choose_spec.lt
  have hrows : rows.length ≤ 1000000000 := by have := h.len; omega
  obtain ⟨p, c, rfl⟩ := ha.cl
  simp only [Mem.alloc, Mem.note]
  by_cases h0 : vs = []
  · have hfit : A.fits vs = false := by simp [Mem.fits, h0]
    simp only [Mem.spot, hfit, Bool.false_eq_true, if_false]
    subst h0
    have HC := Lib.hid (CloneV_any ha hvl hrl)
    have HT := Lib.hid (fun w2 w3 u => Alloc_tail (w3 := w3) (w2 := w2) (u := u) (x := ⟨0, 5, 0, 0, 0, [], 0, false⟩) h hv (Fr.refl F w) hFv)
    simp only [List.length_nil] at *
    clear ha h
    go_enter Try.func60, Try.ntmps60
    go_wp2_with fail
    refine HC.out.mono ?_
    rintro e w2 ⟨u, rfl, hu, hb⟩
    obtain ⟨k1, k2, k3, k4⟩ := HT.out w2 w2 u hb hu
    obtain ⟨p', c', rfl⟩ := k3.some_slice
    have HN := Lib.hid (note_any k1 k2 ⟨0, 5, 0, 0, 0, [], 0, false⟩ _ k3 hrows hm0 hm1)
    go_wp2_with fail
    refine HN.out.mono ?_
    rintro e w3 ⟨rfl, hN⟩
    go_wp2
    go_ret
    exact ⟨rfl, (HT.out w2 w3 _ hb hu).2.2.2 hN⟩
  · have hpos : 0 < vs.length := List.length_pos_iff.2 h0
    have t0 : decide ((0 : Int) < (vs.length : Int)) = true := by simpa using hpos
    have hvF : ∀ k, k = q ∨ k = r → F k := by rintro k (rfl | rfl); exact h.fQ; exact h.fR
    by_cases hf : A.next + vs.length ≤ A.cells.length
    · have hfit : A.fits vs = true := by simp [Mem.fits, h0, hf]
      simp only [Mem.spot, hfit, if_true]
      have HP := Lib.hid (palloc_yes h ha h0 hf hn)
      clear hfit
      have HO := Lib.hid ho
      have HA := Lib.hid ha
      have HV := Lib.hid hv
      clear ha h
      go_enter Try.func60, Try.ntmps60
      go_wp2_with fail
      refine HP.out.mono ?_
      rintro e w1 ⟨rfl, h1, hf1⟩
      have hf1' : Fr F w w1 := hf1.mono (fun k _ hk => hvF k hk)
      have HC := Lib.hid (CloneV_any (HA.out.fr hf1' (HO.out h0)) hvl (h1.bR.choose_spec.lt))
      have H1 := Lib.hid h1
      have H2 := Lib.hid hf1'
      clear h1 hf1 hf1'
      go_wp2_with fail
      refine HC.out.mono ?_
      rintro e w2 ⟨u, rfl, hu, hb⟩
      obtain ⟨k1, k2, k3, k4⟩ := Alloc_tail (w3 := w2) (x := ⟨0, 5, A.next, 0, 0, vs, 0, false⟩) H1.out HV.out H2.out hFv hb hu
      obtain ⟨p', c', rfl⟩ := k3.some_slice
      have HN := Lib.hid (note_any k1 k2 ⟨0, 5, A.next, 0, 0, vs, 0, false⟩ _ k3 hrows hm0 hm1)
      go_wp2_with fail
      refine HN.out.mono ?_
      rintro e w3 ⟨rfl, hN⟩
      go_wp2
      go_ret
      exact ⟨rfl, (Alloc_tail (w3 := w3) (x := ⟨0, 5, A.next, 0, 0, vs, 0, false⟩) H1.out HV.out H2.out hFv hb hu).2.2.2 hN⟩
    · have hfit : A.fits vs = false := by simp only [Mem.fits, hf, and_false, decide_false]
      simp only [Mem.spot, hfit, Bool.false_eq_true, if_false]
      have HP := Lib.hid (palloc_no h p vs.length c hf hA hn)
      clear hfit
      have HO := Lib.hid ho
      have HA := Lib.hid ha
      have HV := Lib.hid hv
      have HH := Lib.hid h
      clear ha h
      go_enter Try.func60, Try.ntmps60
      go_wp2_with fail
      refine HP.out.mono ?_
      rintro e w1 ⟨rfl, k, rfl⟩
      have hf1' : Fr F w (w.drewN k) := (Fr.refl F w).drawn k
      have h1 := HH.out.fr ((Fr.refl (fun _ => False) w).drawn k) (fun _ _ e => e)
      have HC := Lib.hid (CloneV_any (HA.out.fr hf1' (HO.out h0)) hvl (h1.bR.choose_spec.lt))
      go_wp2_with fail
      refine HC.out.mono ?_
      rintro e w2 ⟨u, rfl, hu, hb⟩
      obtain ⟨k1, k2, k3, k4⟩ := Alloc_tail (w3 := w2) (x := ⟨0, 5, 0, 0, 0, vs, 0, false⟩) h1 HV.out hf1' hFv hb hu
      obtain ⟨p', c', rfl⟩ := k3.some_slice
      have HN := Lib.hid (note_any k1 k2 ⟨0, 5, 0, 0, 0, vs, 0, false⟩ _ k3 hrows hm0 hm1)
      go_wp2_with fail
      refine HN.out.mono ?_
      rintro e w3 ⟨rfl, hN⟩
      go_wp2
      go_ret
      exact ⟨rfl, (Alloc_tail (w3 := w3) (x := ⟨0, 5, 0, 0, 0, vs, 0, false⟩) h1 HV.out hf1' hFv hb hu).2.2.2 hN⟩
end
end Go.Proofs.Ytenlgfagfpaenaa

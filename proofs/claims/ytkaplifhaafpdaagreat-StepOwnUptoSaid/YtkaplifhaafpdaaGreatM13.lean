/-
  StProcs, StQE: the texts of the proof, merged. No condition.
-/
import Derived.Test.YtkaplifhaafpdaaGreatM12
import Derived.Maps.AppendAt
import Derived.Test.YtkaplifhaafpdaaGreatM10
import Derived.Deep.RegionHeld3
section
/-
  procs: the law's procs of plans, and the rows that name them. No condition.
-/
namespace Go.Proofs.YtkaplifhaafpdaaGreat
open Go Go.RowKit
set_option linter.unusedSimpArgs false
set_option linter.unusedVariables false
theorem app_one {e t : TypeId} {z : Value} {bytes : Nat} (hinfo : (Tryz.prog.info? e).map (fun i => (i.zero, i.size, i.bytes)) = some (some z, 1, bytes)) (ht : Tryz.prog.underlying t = some (.slice e)) (hz : z.cells.size = 1) (hby : bytes ≤ 64)
    {ops : Array Oper} {rest : List Oper} {o : Oper} {a : Act} {Q : Exit → Act → World → Prop} {w12 : World} {v x0 : Value} {base n : Nat} {xs : List Value} (hgd : o.guard = none) (s x : Operand)
    (ho : o.op = .call { callee := .builtin .append, args := #[s, x], argTypes := #[t, t] }) (hs : a.eval s = v)
    (hown : (w12.alloc (.cells #[x0] e)).ownsRow base e 1 v n xs) {bn : Nat} (hx : a.eval x = .slice (some ⟨bn, 0, none⟩) 1 1) (hbn : bn = w12.heap.size) (h1 : x0.oneCell' = true) (hn : n ≤ 1000000000) (hbase : base ≤ w12.heap.size)
    (h : ∀ v' w', w'.ownsRow base e 1 v' (n + 1) (xs ++ [x0]) → (w12.alloc (.cells #[x0] e)).grownBy w' v.ownBlock →
      (v'.ownBlock = v.ownBlock ∨ v'.ownBlock = some (w12.alloc (.cells #[x0] e)).heap.size) → wpList Tryz.prog ops Q rest (a.put o.dst v') w') :
    wpList Tryz.prog ops Q (o :: rest) a (w12.alloc (.cells #[x0] e)) := by
  subst hbn
  obtain ⟨i0, hi, hz0, hz1, hz2⟩ := info_parts hinfo
  have hbb : (n + 1) * bytes ≤ 140737488355328 := by
    have : (n + 1) * bytes ≤ 1000000001 * 64 := Nat.mul_le_mul (by omega) hby
    omega
  refine wpList_append_own_at _ hgd s x t ho base e i0 z 1 bytes ht hi hz0 hz1 hz2 hz (by decide) v n xs hs hown ⟨w12.heap.size, 0, none⟩ 1 1 [x0] hx rfl (World.news_of_block (heap_alloc_new _ _)) (by simp [h1]) (by unfold maxLen; omega) hbb (by simp; omega) ?_
  intro v' w' k1 k2 _ k4
  exact h v' w' k1 k2 k4
theorem infoRowP : (Tryz.prog.info? 73).map (fun i => (i.zero, i.size, i.bytes)) = some (some (.slice none 0 0), 1, 24) := by kernel_rfl
theorem infoRowM : (Tryz.prog.info? 120).map (fun i => (i.zero, i.size, i.bytes)) = some (some (.slice none 0 0), 1, 24) := by kernel_rfl
theorem infoPtrM : (Tryz.prog.info? 123).map (fun i => (i.zero, i.size, i.bytes)) = some (some (.pointer none), 1, 8) := by kernel_rfl
def pval : Option Nat → Value
  | none => .nilIface
  | some pb => .iface 123 (.pointer (some ⟨pb, 0, none⟩))
def pptr (pb : Nat) : Value := .pointer (some ⟨pb, 0, none⟩)
def mptrs (lay : List (Option Nat)) : List Value := (lay.filterMap id).map pptr
/-- a proc that has not begun -/
def PrAt (B : Nat) (w0 w : World) (x : Plan) (pb : Nat) : Prop := ∃ lv, x.none = false ∧ DosAt w0 lv x.l ∧ Blk w pb 122 #[lv, .int .i64 0, .slice none 0 0] ∧ B ≤ pb
/-- the procs of a thread -/
structure ProcsIn (B : Nat) (w0 w : World) (pl : List Plan) (lay : List (Option Nat)) : Prop where
  pr : ∀ (j pb : Nat), lay[j]? = some (some pb) → ∃ x, pl[j]? = some x ∧ PrAt B w0 w x pb
  no : ∀ (j : Nat), lay[j]? = some none → ∃ x, pl[j]? = some x ∧ x.none = true
  nd : (lay.filterMap id).Nodup
/-- a thread's rows and procs, as far as they are made -/
structure InP (w0 wi wr : World) (pl : List Plan) (lay : List (Option Nat)) (lr mr : List Value) (lv mv : Value) : Prop where
  bel : Below wi.heap.size wi wr
  ol : wr.ownsRow wi.heap.size 88 1 lv lr.length lr
  om : wr.ownsRow wi.heap.size 123 1 mv mr.length mr
  pr : ProcsIn wi.heap.size w0 wr pl lay
section
variable {w0 w wi wr w1 w5 w7 : World} {S : Nat → Prop} {pl : List Plan} {lay : List (Option Nat)} {lr mr : List Value} {lv mv v' : Value} {B pb : Nat} {x : Plan}
theorem own_ge {base : Nat} {e : TypeId} {size n g : Nat} {v : Value} {xs : List Value} (h : w.ownsRow base e size v n xs) (hg : v.ownBlock = some g) : base ≤ g := by
  rcases h.2 with ⟨rfl, _⟩ | ⟨g', cap, cur, rfl, hb, _⟩
  · simp [Value.ownBlock] at hg
  · have : g' = g := by simpa [Value.ownBlock] using hg
    subst this
    exact hb
theorem own_base {base base' : Nat} {e : TypeId} {size n : Nat} {v : Value} {xs : List Value} (h : w.ownsRow base e size v n xs) (hb : base' ≤ base) : w.ownsRow base' e size v n xs :=
  ⟨h.1, h.2.imp id fun ⟨g, cap, cur, a, b, c⟩ => ⟨g, cap, cur, a, Nat.le_trans hb b, c⟩⟩
theorem PrAt.fr (h : PrAt B w0 w x pb) (hf : Fr S w w1) (hS : ¬ S pb) : PrAt B w0 w1 x pb := let ⟨lv, a, b, c, d⟩ := h; ⟨lv, a, b, c.fr hf hS, d⟩
theorem PrAt.blk (h : PrAt B w0 w x pb) : ∃ cs, Blk w pb 122 cs := let ⟨_, _, _, c, _⟩ := h; ⟨_, c⟩
theorem ProcsIn.fr (h : ProcsIn B w0 w pl lay) (hf : Fr S w w1) (hS : ∀ k cs, Blk w k 122 cs → ¬ S k) : ProcsIn B w0 w1 pl lay :=
  ⟨fun j pb hj => let ⟨x, h1, h2⟩ := h.pr j pb hj; ⟨x, h1, h2.fr hf (let ⟨cs, hc⟩ := h2.blk; hS _ cs hc)⟩, h.no, h.nd⟩
theorem ProcsIn.low {B' : Nat} (h : ProcsIn B w0 w pl lay) (hb : B' ≤ B) : ProcsIn B' w0 w pl lay :=
  ⟨fun j pb hj => let ⟨x, h1, lv, a, b, c, d⟩ := h.pr j pb hj; ⟨x, h1, lv, a, b, c, Nat.le_trans hb d⟩, h.no, h.nd⟩
theorem InP.start (w0 wi : World) (pl : List Plan) : InP w0 wi wi pl [] [] [] (.slice none 0 0) (.slice none 0 0) :=
  ⟨Below.refl _ _, World.ownsRow_nil _ _ _ _, World.ownsRow_nil _ _ _ _, ⟨fun j pb h => by simp at h, fun j h => by simp at h, by simp⟩⟩
theorem InP.drawn (h : InP w0 wi wr pl lay lr mr lv mv) (n : Nat) : InP w0 wi (wr.drewN n) pl lay lr mr lv mv := by
  have f : Fr (fun _ => False) wr (wr.drewN n) := (Fr.refl (fun _ => False) wr).drawn n
  exact ⟨h.bel.trans (f.to_below h.bel.size (fun _ _ e => e)), own_fr h.ol f (fun _ _ e => e), own_fr h.om f (fun _ _ e => e), h.pr.fr f (fun _ _ _ e => e)⟩
theorem InP.pushL (h : InP w0 wi wr pl lay lr mr lv mv) {u : Value} {o : Obj} (hown : w5.ownsRow wi.heap.size 88 1 v' (lr.length + 1) (lr ++ [u])) (hg : (wr.alloc o).grownBy w5 lv.ownBlock) : InP w0 wi w5 pl lay (lr ++ [u]) mr v' mv := by
  have f : Fr (fun b => lv.ownBlock = some b) wr w5 := ((Fr.refl (fun b => lv.ownBlock = some b) wr).alloc o).grown hg (fun k e => .inl e)
  refine ⟨h.bel.trans (f.to_below h.bel.size fun k hk e => ?_), by simpa using hown, own_fr h.om f ?_, h.pr.fr f ?_⟩
  · have := own_ge h.ol e; omega
  · intro g e e2
    obtain ⟨cs, hb⟩ := bk_blk h.om e
    exact own_ne h.ol hb (by decide) e2
  · intro k cs hb e
    exact own_ne h.ol hb (by decide) e
theorem InP.pushM (h : InP w0 wi wr pl lay lr mr lv mv) {u : Value} {o : Obj} (hown : w5.ownsRow wi.heap.size 123 1 v' (mr.length + 1) (mr ++ [u])) (hg : (wr.alloc o).grownBy w5 mv.ownBlock) : InP w0 wi w5 pl lay lr (mr ++ [u]) lv v' := by
  have f : Fr (fun b => mv.ownBlock = some b) wr w5 := ((Fr.refl (fun b => mv.ownBlock = some b) wr).alloc o).grown hg (fun k e => .inl e)
  refine ⟨h.bel.trans (f.to_below h.bel.size fun k hk e => ?_), own_fr h.ol f ?_, by simpa using hown, h.pr.fr f ?_⟩
  · have := own_ge h.om e; omega
  · intro g e e2
    obtain ⟨cs, hb⟩ := bk_blk h.ol e
    exact own_ne h.om hb (by decide) e2
  · intro k cs hb e
    exact own_ne h.om hb (by decide) e
theorem ProcsIn.skip (h : ProcsIn B w0 w pl lay) (hx : pl[lay.length]? = some x) (hn : x.none = true) : ProcsIn B w0 w pl (lay ++ [none]) := by
  refine ⟨fun j pb hj => ?_, fun j hj => ?_, by simpa using h.nd⟩
  · rw [List.getElem?_append] at hj
    split at hj
    · exact h.pr j pb hj
    · have : j - lay.length = 0 := by
        have := (List.getElem?_eq_some_iff.1 hj).1
        simp at this; omega
      rw [this] at hj; simp at hj
  · rw [List.getElem?_append] at hj
    split at hj
    · exact h.no j hj
    · have h2 : j = lay.length := by
        have := (List.getElem?_eq_some_iff.1 hj).1
        simp at this; omega
      subst h2
      exact ⟨x, hx, hn⟩
theorem InP.skip (h : InP w0 wi wr pl lay lr mr lv mv) (hx : pl[lay.length]? = some x) (hn : x.none = true) : InP w0 wi wr pl (lay ++ [none]) lr mr lv mv := ⟨h.bel, h.ol, h.om, h.pr.skip hx hn⟩
theorem InP.box (h : InP w0 wi wr pl lay lr mr lv mv) (hx : pl[lay.length]? = some x) (hn : x.none = false) {u : Value} (hu : DosAt w0 u x.l) :
    InP w0 wi (wr.alloc (.cells #[u, .int .i64 0, .slice none 0 0] 122)) pl (lay ++ [some wr.heap.size]) lr mr lv mv := by
  have f : Fr (fun _ => False) wr (wr.alloc (.cells #[u, .int .i64 0, .slice none 0 0] 122)) := (Fr.refl (fun _ => False) wr).alloc _
  have hp := h.pr.fr f (fun _ _ _ e => e)
  have hs := h.bel.size
  refine ⟨h.bel.trans (f.to_below hs (fun _ _ e => e)), own_fr h.ol f (fun _ _ e => e), own_fr h.om f (fun _ _ e => e), ⟨fun j pb hj => ?_, fun j hj => ?_, ?_⟩⟩
  · rw [List.getElem?_append] at hj
    split at hj
    · exact hp.pr j pb hj
    · have h2 : j = lay.length := by
        have := (List.getElem?_eq_some_iff.1 hj).1
        simp at this; omega
      subst h2
      simp at hj
      subst hj
      exact ⟨x, hx, u, hn, hu, Blk.made _ _ _, hs⟩
  · rw [List.getElem?_append] at hj
    split at hj
    · exact hp.no j hj
    · have h2 : j - lay.length = 0 := by
        have := (List.getElem?_eq_some_iff.1 hj).1
        simp at this; omega
      rw [h2] at hj; simp at hj
  · rw [List.filterMap_append, List.nodup_append]
    refine ⟨h.pr.nd, by simp, ?_⟩
    intro a ha b hb e
    simp at hb
    subst hb
    subst e
    simp at ha
    obtain ⟨j, hj⟩ := List.getElem?_of_mem ha
    obtain ⟨y, _, h2⟩ := h.pr.pr j _ hj
    obtain ⟨cs, hc⟩ := h2.blk
    have := hc.lt
    omega
end
/-- all threads' rows and procs, as far as they are made -/
structure OutP (w0 w wr : World) (ll : List (List Plan)) (lays : List (List (Option Nat))) (av mv : Value) (rs ms : List Value) : Prop where
  bel : Below w.heap.size w wr
  oa : wr.ownsRow w.heap.size 73 1 av rs.length rs
  om : wr.ownsRow w.heap.size 120 1 mv ms.length ms
  rl : rs.length = lays.length
  ml : ms.length = lays.length
  row : ∀ (i : Nat) lay, lays[i]? = some lay → ∃ l r m, ll[i]? = some l ∧ l.length = lay.length ∧ rs[i]? = some r ∧ ms[i]? = some m ∧ wr.ownsRow w.heap.size 88 1 r lay.length (lay.map pval) ∧ wr.ownsRow w.heap.size 123 1 m (mptrs lay).length (mptrs lay) ∧ ProcsIn w.heap.size w0 wr l lay
  dj : ∀ (i j : Nat) (r r' : Value) g, rs[i]? = some r → rs[j]? = some r' → r.ownBlock = some g → r'.ownBlock = some g → i = j
  nd : (lays.flatten.filterMap id).Nodup
section
variable {w0 w wi wr w1 w5 w7 : World} {S : Nat → Prop} {ll : List (List Plan)} {lays : List (List (Option Nat))} {pl : List Plan} {lay : List (Option Nat)} {rs ms lr mr : List Value} {av lv mv mv' v' : Value} {B pb : Nat} {x : Plan}
theorem OutP.start (w0 w : World) (ll : List (List Plan)) : OutP w0 w w ll [] (.slice none 0 0) (.slice none 0 0) [] [] :=
  ⟨Below.refl _ _, World.ownsRow_nil _ _ _ _, World.ownsRow_nil _ _ _ _, rfl, rfl, fun i lay h => by simp at h, fun i j r r' g h => by simp at h, by simp⟩
/-- memory of other kinds may turn -/
theorem OutP.fr (h : OutP w0 w wr ll lays av mv rs ms) (hf : Fr S wr w1) (hB : ∀ k, k < w.heap.size → ¬ S k) (h1 : ∀ k cs, Blk wr k 73 cs → ¬ S k) (h2 : ∀ k cs, Blk wr k 120 cs → ¬ S k) (h3 : ∀ k cs, Blk wr k 88 cs → ¬ S k) (h4 : ∀ k cs, Blk wr k 123 cs → ¬ S k) (h5 : ∀ k cs, Blk wr k 122 cs → ¬ S k) : OutP w0 w w1 ll lays av mv rs ms := by
  refine ⟨h.bel.trans (hf.to_below h.bel.size hB), own_fr h.oa hf fun g e => ?_, own_fr h.om hf fun g e => ?_, h.rl, h.ml, fun i lay hl => ?_, h.dj, h.nd⟩
  · obtain ⟨cs, hb⟩ := bk_blk h.oa e; exact h1 g cs hb
  · obtain ⟨cs, hb⟩ := bk_blk h.om e; exact h2 g cs hb
  · obtain ⟨l, r, m, a, b, c, d, e1, e2, e3⟩ := h.row i lay hl
    refine ⟨l, r, m, a, b, c, d, own_fr e1 hf fun g e => ?_, own_fr e2 hf fun g e => ?_, e3.fr hf h5⟩
    · obtain ⟨cs, hb⟩ := bk_blk e1 e; exact h3 g cs hb
    · obtain ⟨cs, hb⟩ := bk_blk e2 e; exact h4 g cs hb
theorem OutP.bl (h : OutP w0 w wr ll lays av mv rs ms) (hb : Below wr.heap.size wr w1) : OutP w0 w w1 ll lays av mv rs ms :=
  h.fr (Fr.of_below (S := fun _ => False) hb) (fun _ _ e => e) (fun _ _ _ e => e) (fun _ _ _ e => e) (fun _ _ _ e => e) (fun _ _ _ e => e) (fun _ _ _ e => e)
theorem OutP.next (h : OutP w0 w wi ll lays av mv rs ms) (hi : InP w0 wi wr pl lay (lay.map pval) (mptrs lay) lv mv') (hll : ll[lays.length]? = some pl) (hlen : pl.length = lay.length) :
    (wr.alloc (.cells #[lv] 73)).ownsRow w.heap.size 73 1 av rs.length rs ∧
    ∀ v1 w5, w5.ownsRow w.heap.size 73 1 v1 (rs.length + 1) (rs ++ [lv]) → (wr.alloc (.cells #[lv] 73)).grownBy w5 av.ownBlock →
      (w5.alloc (.cells #[mv'] 120)).ownsRow w.heap.size 120 1 mv ms.length ms ∧
      ∀ v2 w7, w7.ownsRow w.heap.size 120 1 v2 (ms.length + 1) (ms ++ [mv']) → (w5.alloc (.cells #[mv'] 120)).grownBy w7 mv.ownBlock →
        OutP w0 w w7 ll (lays ++ [lay]) v1 v2 (rs ++ [lv]) (ms ++ [mv']) := by
  have hr := h.bl hi.bel
  have hsi := h.bel.size
  have f0 : Fr (fun _ => False) wr (wr.alloc (.cells #[lv] 73)) := (Fr.refl (fun _ => False) wr).alloc _
  refine ⟨own_fr hr.oa f0 (fun _ _ e => e), fun v1 w5 hown5 hg5 => ?_⟩
  have f5 : Fr (fun b => av.ownBlock = some b) wr w5 := (f0.mono (fun _ _ e => e.elim)).grown hg5 (fun k e => .inl e)
  have f5' : Fr (fun b => av.ownBlock = some b) wr (w5.alloc (.cells #[mv'] 120)) := f5.alloc _
  have hom5 : (w5.alloc (.cells #[mv'] 120)).ownsRow w.heap.size 120 1 mv ms.length ms := by
    refine own_fr hr.om f5' fun g e e2 => ?_
    obtain ⟨cs, hb⟩ := bk_blk hr.om e
    exact own_ne hr.oa hb (by decide) e2
  refine ⟨hom5, fun v2 w7 hown7 hg7 => ?_⟩
  have f6 : Fr (fun b => mv.ownBlock = some b) w5 w7 := ((Fr.refl (fun b => mv.ownBlock = some b) w5).alloc _).grown hg7 (fun k e => .inl e)
  have f7 : Fr (fun b => av.ownBlock = some b ∨ mv.ownBlock = some b) wr w7 := (f5.mono (fun _ _ e => .inl e)).trans (f6.mono (fun _ _ e => .inr e))
  have nS : ∀ (e : TypeId) k cs, Blk wr k e cs → 73 ≠ e → 120 ≠ e → ¬ (av.ownBlock = some k ∨ mv.ownBlock = some k) := by
    rintro e k cs hb n1 n2 (e1 | e1)
    · exact own_ne hr.oa hb n1 e1
    · exact own_ne hr.om hb n2 e1
  have nO : ∀ {e : TypeId} {b n : Nat} {v : Value} {xs : List Value}, wr.ownsRow b e 1 v n xs → 73 ≠ e → 120 ≠ e → w7.ownsRow b e 1 v n xs := by
    intro e b n v xs hv n1 n2
    refine own_fr hv f7 fun g e1 => ?_
    obtain ⟨cs, hb⟩ := bk_blk hv e1
    exact nS e g cs hb n1 n2
  have hP : ∀ {B l la}, ProcsIn B w0 wr l la → ProcsIn B w0 w7 l la := fun hp => hp.fr f7 (fun k cs hb => nS _ k cs hb (by decide) (by decide))
  refine ⟨?_, ?_, by simpa using hown7, by simp [h.rl], by simp [h.ml], fun i la hla => ?_, fun i j r r' g h1 h2 e1 e2 => ?_, ?_⟩
  · refine hr.bel.trans (f7.to_below (Nat.le_trans hsi hi.bel.size) fun k hk e => ?_)
    rcases e with e | e
    · have := own_ge hr.oa e; omega
    · have := own_ge hr.om e; omega
  · have := own_fr hown5 f6 fun g e e2 => ?_
    · simpa using this
    · obtain ⟨cs, hb⟩ := bk_blk hown5 e
      have hm5 : w5.ownsRow w.heap.size 120 1 mv ms.length ms := own_fr hr.om f5 fun g e e2 => by
        obtain ⟨cs, hb⟩ := bk_blk hr.om e
        exact own_ne hr.oa hb (by decide) e2
      exact own_ne hm5 hb (by decide) e2
  · by_cases hlt : i < lays.length
    · rw [List.getElem?_append_left hlt] at hla
      obtain ⟨l, r, m, a, b, c, d, e1, e2, e3⟩ := hr.row i la hla
      refine ⟨l, r, m, a, b, ?_, ?_, nO e1 (by decide) (by decide), nO e2 (by decide) (by decide), hP e3⟩
      · rw [List.getElem?_append_left (by rw [h.rl]; exact hlt)]; exact c
      · rw [List.getElem?_append_left (by rw [h.ml]; exact hlt)]; exact d
    · have hi2 := (List.getElem?_eq_some_iff.1 hla).1
      simp at hi2
      obtain rfl : i = lays.length := by omega
      simp at hla
      subst hla
      refine ⟨pl, lv, mv', hll, hlen, ?_, ?_, ?_, ?_, hP (hi.pr.low hsi)⟩
      · rw [← h.rl]; simp
      · rw [← h.ml]; simp
      · have := nO (own_base hi.ol hsi) (by decide) (by decide)
        simpa using this
      · exact nO (own_base hi.om hsi) (by decide) (by decide)
  · have old : ∀ (i : Nat) r g, rs[i]? = some r → r.ownBlock = some g → g < wi.heap.size := by
      intro i r g hr e
      obtain ⟨la, hla⟩ : ∃ la, lays[i]? = some la := ⟨_, List.getElem?_eq_getElem (by have := (List.getElem?_eq_some_iff.1 hr).1; rw [← h.rl]; exact this)⟩
      obtain ⟨l, r', m, a, b, c, d, e1, e2, e3⟩ := h.row i la hla
      rw [hr] at c
      injection c with c
      subst c
      exact own_lt e1 e
    have new : ∀ g, lv.ownBlock = some g → wi.heap.size ≤ g := fun g e => own_ge hi.ol e
    rw [List.getElem?_append] at h1 h2
    split at h1 <;> split at h2
    · exact h.dj i j r r' g h1 h2 e1 e2
    · have h3 : r' = lv := by
        have := (List.getElem?_eq_some_iff.1 h2).1
        simp at this
        have h0 : j - rs.length = 0 := by omega
        rw [h0] at h2; simpa using h2.symm
      subst h3
      have := old i r g h1 e1
      have := new g e2
      omega
    · have h3 : r = lv := by
        have := (List.getElem?_eq_some_iff.1 h1).1
        simp at this
        have h0 : i - rs.length = 0 := by omega
        rw [h0] at h1; simpa using h1.symm
      subst h3
      have := old j r' g h2 e2
      have := new g e1
      omega
    · have a1 := (List.getElem?_eq_some_iff.1 h1).1
      have a2 := (List.getElem?_eq_some_iff.1 h2).1
      simp at a1 a2
      omega
  · rw [List.flatten_append, List.filterMap_append, List.nodup_append]
    refine ⟨h.nd, by simpa using hi.pr.nd, ?_⟩
    intro a ha b hb e
    subst e
    have ha : some a ∈ lays.flatten := by
      rw [List.mem_filterMap] at ha
      obtain ⟨y, hy, e⟩ := ha
      simp only [id] at e
      subst e; exact hy
    have hb : some a ∈ lay := by
      rw [List.flatten_singleton, List.mem_filterMap] at hb
      obtain ⟨y, hy, e⟩ := hb
      simp only [id] at e
      subst e; exact hy
    obtain ⟨la, hla, ha2⟩ := List.mem_flatten.1 ha
    obtain ⟨i, hi1⟩ := List.getElem?_of_mem hla
    obtain ⟨j, hj⟩ := List.getElem?_of_mem ha2
    obtain ⟨l, r', m, _, _, _, _, _, _, e3⟩ := h.row i la hi1
    obtain ⟨_, _, h2⟩ := e3.pr j _ hj
    obtain ⟨cs, hc⟩ := h2.blk
    have h4 := hc.lt
    obtain ⟨j', hj'⟩ := List.getElem?_of_mem hb
    obtain ⟨_, _, _, _, _, _, h5⟩ := hi.pr.pr j' _ hj'
    omega
end
end Go.Proofs.YtkaplifhaafpdaaGreat
end
section
/-
  The law's own proc, with no step left. No condition.
-/
namespace Go.Proofs.YtkaplifhaafpdaaGreat
open Go Go.RowKit
set_option linter.unusedSimpArgs false
set_option linter.unusedVariables false
set_option maxRecDepth 100000 in
theorem QStep_end {w : World} {F : Nat → Prop} {bm v pb i n c : Nat} {th made : Int} {A : Mem} {p : Option Addr} {gv : Value} {got : List Int} {vp : Value} (h : PSt w F bm v pb th made A (.slice p n c) i gv got) (hi : n ≤ i) (hn : i ≤ 1000000000) :
    Calls Tryz.prog 104 #[.pointer (some ⟨pb, 0, none⟩), vp] w fun e w' => e = .returned (.bool true) ∧ ∃ k, w' = w.drewN k := by
  have c0 : w.cell? ⟨pb, 0, none⟩ = some (.slice p n c) := h.pr.cell 0
  have c1 : w.cell? ⟨pb, 1, none⟩ = some (.int .i64 i) := h.pr.cell 1
  have t0 : decide ((i : Int) < (n : Int)) = false := by simp; omega
  have t1 : decide ((n : Int) ≤ (i : Int)) = true := by simp; omega
  clear h
  go_enter Tryz.func104, Tryz.ntmps104
  go_wp2_with fail
  go_quiet (fail)
  have d0 : (w.drewN nq).cell? ⟨pb, 0, none⟩ = some (.slice p n c) := c0
  have d1 : (w.drewN nq).cell? ⟨pb, 1, none⟩ = some (.int .i64 i) := c1
  have HW : Hid (∃ k, w.drewN nq = w.drewN k) := ⟨nq, rfl⟩
  generalize w.drewN nq = w1 at *
  go_wp2_with fail
  go_quiet (fail)
  go_wp2_with fail
  go_ret
  obtain ⟨k, hk⟩ := HW.out
  exact ⟨rfl, k + nq, by rw [hk]; simp [World.drewN, Nat.add_assoc]⟩
end Go.Proofs.YtkaplifhaafpdaaGreat
end

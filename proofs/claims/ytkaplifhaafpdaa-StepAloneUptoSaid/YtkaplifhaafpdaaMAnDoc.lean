/-
  The document's memory under way, beside what a proc was told. No condition.
-/
import Derived.Test.YtkaplifhaafpdaaMAnPlan
import Derived.Test.YtkaplifhaafpdaaMAnStart
import Derived.Test.YtkaplifhaafpdaaM34
import Derived.Test.YtkaplifhaafpdaaM35
namespace Go.Proofs.Ytkaplifhaafpdaa
open Go Go.RowKit
set_option linter.unusedSimpArgs false
set_option linter.unusedVariables false
structure DX (F0 : Nat → Prop) (w0 w : World) (rm : Nat) (B : Mem) (gv : Value) (gs : List Int) (FZ : Nat → Prop) : Prop where
  rm : RM w FZ rm false B
  fz : ∀ k, FZ k → k < w.heap.size ∧ (F0 k ∨ w0.heap.size ≤ k)
  fr : Fr F0 w0 w
  own : w.ownsRow w0.heap.size 22 1 gv gs.length (us gs)
  gF : ∀ g, gv.ownBlock = some g → ¬ FZ g
def DI (F0 : Nat → Prop) (w0 w : World) (rm : Nat) (B : Mem) (gv : Value) (gs : List Int) : Prop := ∃ FZ, DX F0 w0 w rm B gv gs FZ
section
variable {F0 S : Nat → Prop} {w0 w w' W : World} {rm i a : Nat} {B : Mem} {gv : Value} {gs : List Int} {l : List Plan} {lay : List (Option Nat)} {s : St} {p : Plan} {d : Do} {G : Nat → Prop} {rp bm v : Nat} {ap : Option Addr} {ac : Nat}
theorem DI.begin (h : RM w F0 rm false B) (hF : ∀ k, F0 k → k < w.heap.size) : DI F0 w w rm B (.slice none 0 0) [] :=
  ⟨F0, h, fun k hk => ⟨hF k hk, .inl hk⟩, .refl _ _, World.ownsRow_nil _ _ _ _, fun g e => by simp [Value.ownBlock] at e⟩
theorem DI.fresh (h : DI F0 w0 w rm B gv gs) : DI F0 w0 w rm B (.slice none 0 0) [] :=
  let ⟨FZ, h⟩ := h; ⟨FZ, h.rm, h.fz, h.fr, World.ownsRow_nil _ _ _ _, fun g e => by simp [Value.ownBlock] at e⟩
theorem DI.drawn (h : DI F0 w0 w rm B gv gs) (n : Nat) : DI F0 w0 (w.drewN n) rm B gv gs := by
  obtain ⟨FZ, h⟩ := h
  have f : Fr (fun _ => False) w (w.drewN n) := (Fr.refl (fun _ => False) w).drawn n
  exact ⟨FZ, h.rm.fr f (fun _ _ e => e), h.fz, h.fr.drawn n, own_fr h.own f (fun _ _ e => e), h.gF⟩
theorem DI.size (h : DI F0 w0 w rm B gv gs) : w0.heap.size ≤ w.heap.size := let ⟨_, h⟩ := h; h.fr.size
theorem DI.vr (h : DI F0 w0 w rm B gv gs) : VR w gv gs := by
  obtain ⟨FZ, h⟩ := h
  exact VR_of (F := fun k => gv.ownBlock = some k) (r := w.heap.size) (.inr ⟨own_base h.own (Nat.zero_le _), fun g e => ⟨e, fun e2 => by have := own_lt h.own e; omega⟩⟩)
theorem DI.make (h : DI F0 w0 w rm B gv gs) (hd : d.fits) (hv : VA w (.slice ap d.vals.length ac) d.vals) (ho : d.vals ≠ [] → ∀ q, ap = some q → ¬ F0 q.block ∧ q.block < w0.heap.size) (hnil : ap = none → ac = 0) (hl : d.vals.length ≤ 1048576) (hf : B.Fit) :
    Calls Try.prog 36 #[.pointer (some ⟨rm, 0, none⟩), .int .i64 3, .agg #[.int .u8 d.kind, .int .u64 d.addr, .int .u64 d.a, .int .u64 d.b, .slice ap d.vals.length ac]] w fun e w' => e = .returned (.int .u64 (B.tell d)) ∧ Hid (DI F0 w0 w' rm (B.make 3 d) gv gs) := by
  obtain ⟨FZ, h⟩ := h
  obtain ⟨r, tv, rows, hx⟩ := h.rm
  have hoff : d.vals ≠ [] → Off (.slice ap d.vals.length ac) FZ := by
    intro hne ad n c e hk
    injection e with e _ _
    obtain ⟨h1, h2⟩ := ho hne ad e
    rcases (h.fz _ hk).2 with h3 | h3
    · exact h1 h3
    · omega
  refine (Make_any hx hd.1 hd.2 hv hoff (by intro n c e; injection e with e1 _ e3; exact e3 ▸ hnil e1) 3 (by omega) hf).mono ?_
  rintro e w' ⟨rfl, h1, h2⟩
  refine ⟨rfl, _, h1.tight2, fun k hk => ⟨hk.2, ?_⟩, ⟨h2.os.trans h.fr.os, h2.tape.trans h.fr.tape, h2.output.trans h.fr.output, Nat.le_trans h.fr.size h2.size, fun k hk hn => ?_⟩, own_fr h.own h2 (fun g e => h.gF g e), fun g e hg => ?_⟩
  · rcases hk.1 with h3 | h3
    · exact (h.fz k h3).2
    · exact .inr (Nat.le_trans h.fr.size h3)
  · refine (h2.block k (Nat.lt_of_lt_of_le hk h.fr.size) (fun hz => ?_)).trans (h.fr.block k hk hn)
    rcases (h.fz k hz).2 with h3 | h3
    · exact hn h3
    · omega
  · rcases hg.1 with h3 | h3
    · exact h.gF g e h3
    · have := own_lt h.own e; omega
theorem DI.push (h : DI F0 w0 w rm B gv gs) {o : Obj} {u : Int} {v' : Value} (hown : w'.ownsRow w0.heap.size 22 1 v' (gs.length + 1) (us gs ++ [.int .u64 u])) (hg : (w.alloc o).grownBy w' gv.ownBlock) (hat : v'.ownBlock = gv.ownBlock ∨ v'.ownBlock = some (w.alloc o).heap.size) :
    DI F0 w0 w' rm B v' (gs ++ [u]) := by
  obtain ⟨FZ, h⟩ := h
  have f : Fr (fun b => gv.ownBlock = some b) w w' := ((Fr.refl (fun b => gv.ownBlock = some b) w).alloc o).grown hg (fun k e => .inl e)
  refine ⟨FZ, h.rm.fr f (fun k hk e => h.gF k e hk), fun k hk => ⟨Nat.lt_of_lt_of_le (h.fz k hk).1 f.size, (h.fz k hk).2⟩, ⟨f.os.trans h.fr.os, f.tape.trans h.fr.tape, f.output.trans h.fr.output, Nat.le_trans h.fr.size f.size, fun k hk hn => (f.block k (Nat.lt_of_lt_of_le hk h.fr.size) (fun e => ?_)).trans (h.fr.block k hk hn)⟩, ?_, fun g e hz => ?_⟩
  · have := own_ge h.own e; omega
  · have e : us (gs ++ [u]) = us gs ++ [.int .u64 u] := by simp [us]
    rw [e]; simpa using hown
  · rcases hat with h1 | h1
    · exact h.gF g (h1 ▸ e) hz
    · rw [h1] at e
      injection e with e
      have := (h.fz g hz).1
      have h2 : w.heap.size ≤ (w.alloc o).heap.size := by simp
      omega
theorem DI.cell {q : Addr} (h : DI F0 w0 w rm B gv gs) (hq : q.block < w0.heap.size) (hn : ¬ F0 q.block) : w.cell? q = w0.cell? q := by
  obtain ⟨FZ, h⟩ := h
  have e := h.fr.block q.block hq hn
  simp only [World.cell?, e]
theorem DI.ag (h : DI F0 w0 w rm B gv gs) (hA : AG W w0 G rp bm v l lay s) (hk : AnOK l lay) (ok : s.Ok (l4 l)) (hF : ∀ k, F0 k → W.heap.size ≤ k ∧ ¬ G k) : AG W w G rp bm v l lay s := by
  obtain ⟨FZ, h⟩ := h
  exact hA.fr hk ok h.fr hF
/-- what the procs were told, as it lies -/
theorem AG.got (h : AG W w G rp bm v l lay s) (hk : AnOK l lay) (ok : s.Ok (l4 l)) (hp : l[i]? = some p) {pb : Nat} (hl : lay[i]? = some (some pb)) : ∃ u, w.cell? ⟨pb, 2, none⟩ = some u ∧ VR w u (gotOf s i) := by
  obtain ⟨R, E, sv, h, hG⟩ := h
  obtain ⟨F, gvf, he⟩ := h.env
  obtain ⟨x, hx⟩ : ∃ x, s.th[3]? = some x := ⟨_, List.getElem?_eq_getElem (by rw [ok.tl]; simp [l4])⟩
  obtain ⟨⟨lv, b0, _⟩, o0, _, _, _⟩ := he.pr 3 i pb x l p (by simp [layAt, y4, hl]) hx rfl hp
  have e : gotOf s i = x.got.getD i [] := by unfold gotOf; rw [hx]
  rw [e]
  refine ⟨_, b0.cell 2, VR_of (F := fun k => (gvf pb).ownBlock = some k) (r := w.heap.size) (.inr ⟨o0, fun g e => ⟨e, fun e2 => by have := own_lt o0 e; omega⟩⟩)⟩
theorem AG.Trace (h : AG W w G rp bm v l lay s) (hs : s.A.trace.length ≤ 1000000000) (ht : s.TrOK) : Calls Try.prog 38 #[.pointer (some ⟨bm, 0, none⟩)] w fun e w' => ∃ u, e = .returned u ∧ TL w' u s.A.trace ∧ Below w.heap.size w w' := by
  obtain ⟨R, E, sv, h, hG⟩ := h
  obtain ⟨F, gvf, he⟩ := h.env
  obtain ⟨qq, r, tv2, rows, hm⟩ := he.pm
  refine (Trace_x hm hs (fun x hx => by have := ht x hx; omega)).mono ?_
  rintro e w' ⟨p, c, rfl, h1, h2⟩
  exact ⟨_, rfl, h1.tl, h2⟩
theorem DI.trace (h : DI F0 w0 w rm B gv gs) : ∃ u, w.cell? ⟨rm, 2, none⟩ = some u ∧ TL w u B.trace := by
  obtain ⟨FZ, h⟩ := h
  obtain ⟨r, tv, rows, hm⟩ := h.rm
  obtain ⟨p, c, e⟩ := bk_form hm.own
  have hl := hm.len
  refine ⟨tv, hm.bM.cell 2, ?_⟩
  have ho := hm.own
  rw [e] at ho ⊢
  rw [hl]
  exact TL_of hm.fst ho (fun x hx => VR_of (hm.vals x hx))
theorem AG.view (h : AG W w G rp bm v l lay s) : ∃ made : Int, VW w v bm 3 made := by
  obtain ⟨R, E, sv, h, hG⟩ := h
  obtain ⟨F, gvf, he⟩ := h.env
  obtain ⟨⟨m, hm, _⟩, _⟩ := he.vw 3 v ⟨rfl, rfl⟩
  exact ⟨m, hm⟩
set_option maxRecDepth 100000 in
/-- a row that is done -/
theorem AG.doneStep (h : AG W w G rp bm v l lay s) (ok : s.Ok (l4 l)) (hd : left3 l s = true) (hlen : lay.length = l.length) : Calls Try.prog 35 #[.pointer (some ⟨rp, 0, none⟩), .pointer (some ⟨v, 0, none⟩)] w fun e w' => e = .returned (.bool true) ∧ w = w' := by
  obtain ⟨R, E, sv, h, hG⟩ := h
  obtain ⟨x, hx⟩ : ∃ x, s.th[3]? = some x := ⟨_, List.getElem?_eq_getElem (by rw [ok.tl]; simp [l4])⟩
  have hc : x.call = l.length := by unfold left3 at hd; rw [hx] at hd; simpa using hd
  have c0 : w.cell? ⟨rp, 0, none⟩ = some sv := h.blk.cell 0
  obtain ⟨ad, c, rfl⟩ := h.fin x hx hc
  clear h hx hG
  go_enter Try.func35, Try.ntmps35
  go_wp2_with fail
  go_ret
  exact ⟨rfl, rfl⟩
theorem tr_one (h : s.TrOK) (hn : FitsP (l4 l)) : (s.one (l4 l) 3).TrOK := by
  cases hi : s.idle (l4 l) 3
  · obtain ⟨k, x, p, e, h1, h2⟩ := idle_false hi
    rw [h2]
    obtain ⟨hx, l', hl, hp⟩ := at_some h1
    have hd := (hn.p l' (List.mem_of_getElem? hl) p (List.mem_of_getElem? hp)).2
    show ∀ y ∈ (s.mem k (p.act x.at_)).trace, _
    unfold St.mem
    split
    · rename_i d hac
      refine make_tr _ _ _ h (hd d ?_).2
      unfold Plan.act at hac
      split at hac
      · cases hac
      · exact List.mem_of_getElem? hac
    · exact h
  · rw [idle_true hi]; exact h
theorem run_tr (h : s.TrOK) (hn : FitsP (l4 l)) : ∀ k, (run3 l s k).TrOK
  | 0 => h
  | k + 1 => tr_one (run_tr h hn k) hn
theorem DocAt.fit {M c : Nat} {lf : Int} (h : DocAt l s M c lf B) (hB : Bgn l s) (hc : c ≤ 30000000) : B.Fit := by
  rw [h.mem]
  exact ((run_ok hB.ok hB.h0 (min c M) (by omega)).1).fit
theorem DI.bel (h : DI F0 w0 w rm B gv gs) (hb : Below W.heap.size W w0) (hF : ∀ k, F0 k → W.heap.size ≤ k) : Below W.heap.size W w := by
  obtain ⟨FZ, h⟩ := h
  exact hb.trans (h.fr.to_below hb.size fun k hk e => by have := hF k e; omega)
theorem fitsP_of (hw : planWt l ≤ 1048576) (hf : ∀ y ∈ l, ∀ d ∈ y.l, d.fits) : FitsP (l4 l) := ⟨fun l' hl' x hx => by
  have e : l = l' := by
    have : l' = [] ∨ l = l' := by simpa [l4, eq_comm] using hl'
    rcases this with h | h
    · subst h; simp at hx
    · exact h
  subst e
  have h1 : x.wt ≤ _ := wt_mem Plan.wt l x hx
  have e1 : planWt l = 1 + (l.map Plan.wt).sum := rfl
  have e2 : x.wt = 1 + (x.l.map fun d => 1 + d.vals.length).sum := rfl
  have h2 := wt_len (fun d : Do => 1 + d.vals.length) (fun d => by omega) x.l
  refine ⟨by omega, fun d hd => ⟨hf x hx d hd, ?_⟩⟩
  have h3 : 1 + d.vals.length ≤ _ := wt_mem (fun d : Do => 1 + d.vals.length) x.l d hd
  omega⟩
theorem make_unreal {t : Int} (h : d.real = false) : B.make t d = B := by
  have h : ¬ (1 ≤ d.kind ∧ d.kind ≤ 5) := by simpa [Do.real] using h
  unfold Mem.make
  rw [if_neg (by omega), if_neg (by omega), if_neg (by omega), if_neg (by omega), if_neg (by omega)]
end
/-- the document's memory, and the pointers to the procs, beside G -/
structure Rx (W w : World) (G FZ : Nat → Prop) (rm : Nat) (B : Mem) (mp : Nat) (lay : List (Option Nat)) : Prop where
  rm : RM w FZ rm false B
  fz : ∀ k, FZ k → ¬ G k ∧ W.heap.size ≤ k ∧ k < w.heap.size
  mc : ∃ m, w.cell? ⟨mp, 0, none⟩ = some m ∧ w.ownsRow 0 70 1 m (mptrs lay).length (mptrs lay) ∧ ∀ g, m.ownBlock = some g → ¬ FZ g ∧ ¬ G g ∧ W.heap.size ≤ g
  mb : ¬ FZ mp ∧ ¬ G mp ∧ W.heap.size ≤ mp ∧ mp < w.heap.size
section
variable {W w w' w0 w1 : World} {G G' FZ F S : Nat → Prop} {rm mp rp v bm n mc : Nat} {B : Mem} {lay : List (Option Nat)} {l : List Plan} {av sv : Value} {rs ms : List Value}
theorem Rx.gk (h : Rx W w G FZ rm B mp lay) (hg : Gk w w' G G') : Rx W w' G' FZ rm B mp lay := by
  obtain ⟨m, h1, h2, h3⟩ := h.mc
  obtain ⟨a, b, c, d⟩ := h.mb
  refine ⟨h.rm.fr hg.fr (fun k hk => (h.fz k hk).1), fun k hk => ⟨hg.ne k (h.fz k hk).2.2 (h.fz k hk).1, (h.fz k hk).2.1, Nat.lt_of_lt_of_le (h.fz k hk).2.2 hg.fr.size⟩, ⟨m, ?_, own_fr h2 hg.fr (fun g e => (h3 g e).2.1), fun g e => ⟨(h3 g e).1, hg.ne g (own_lt h2 e) (h3 g e).2.1, (h3 g e).2.2⟩⟩, a, hg.ne mp d b, c, Nat.lt_of_lt_of_le d hg.fr.size⟩
  have e := hg.fr.block mp d b
  rw [← h1]
  simp only [World.cell?, e]
theorem Rx.bl (h : Rx W w G FZ rm B mp lay) (hb : Below w.heap.size w w') : Rx W w' G FZ rm B mp lay := h.gk ⟨fun _ _ e => e, Fr.of_below hb⟩
theorem Rx.start (hO : OutP W w0 w1 [l] [lay] av (.slice (some ⟨mp, 0, none⟩) n mc) rs ms) (hn : 1 ≤ n) (hf : Fr S w1 w) (hS : ∀ k, S k → (∃ cs, Blk w1 k 38 cs) ∨ ∃ cs, Blk w1 k 80 cs)
    (hR : RM w FZ rm false B) (hF : ∀ k, F k → k < w0.heap.size) (hZ : ∀ k, FZ k → W.heap.size ≤ k ∧ k < w0.heap.size ∧ ¬ F k) (hW : W.heap.size ≤ w0.heap.size)
    (hv2 : w1.heap.size ≤ v) (hr2 : w1.heap.size ≤ rp) (hs : w.ownsRow w1.heap.size 80 1 sv lay.length (lay.map pval)) :
    Rx W w (fun k => ((k = rp ∨ sv.ownBlock = some k) ∨ (k < W.heap.size ∨ F k ∨ k = v ∨ ∃ j : Nat, lay[j]? = some (some k))) ∧ W.heap.size ≤ k) FZ rm B mp lay := by
  have hs01 := hO.bel.size
  have hsz := hf.size
  obtain ⟨l', r, m, a1, a2, a3, a4, a5, a6, e3⟩ := hO.row 0 lay rfl
  have pos : ∀ (j pb : Nat), lay[j]? = some (some pb) → w0.heap.size ≤ pb ∧ pb < w1.heap.size ∧ ∃ cs, Blk w1 pb 69 cs := by
    intro j pb h
    obtain ⟨x, q1, lv, q2, q3, q4, q5⟩ := e3.pr j pb h
    exact ⟨q5, q4.lt, _, q4⟩
  have hG : ∀ k t cs, Blk w1 k t cs → w0.heap.size ≤ k → t ≠ 69 → ¬ (((k = rp ∨ sv.ownBlock = some k) ∨ (k < W.heap.size ∨ F k ∨ k = v ∨ ∃ j : Nat, lay[j]? = some (some k))) ∧ W.heap.size ≤ k) := by
    rintro k t cs hb hk ht ⟨(e | e) | (e | e | e | ⟨j, e⟩), h2⟩
    · have := hb.lt; omega
    · have := own_ge hs e; have := hb.lt; omega
    · omega
    · have := hF k e; omega
    · have := hb.lt; omega
    · obtain ⟨_, _, cs', hb'⟩ := pos j k e
      exact Blk.ne hb hb' ht rfl
  obtain ⟨cs, hbm⟩ := bk_blk hO.om rfl
  have hmp : w0.heap.size ≤ mp := own_ge hO.om rfl
  have hSm : ¬ S mp := fun e => by
    rcases hS mp e with ⟨cs', h⟩ | ⟨cs', h⟩
    · exact Blk.ne hbm h (by decide) rfl
    · exact Blk.ne hbm h (by decide) rfl
  refine ⟨hR, fun k hk => ⟨?_, (hZ k hk).1, by have := (hZ k hk).2.1; omega⟩, ⟨m, ?_, own_base (own_fr a6 hf fun g e hg => ?_) (Nat.zero_le _), fun g e => ?_⟩, ⟨fun e => Nat.not_le_of_lt (hZ mp e).2.1 hmp, hG mp _ _ hbm hmp (by decide), Nat.le_trans hW hmp, Nat.lt_of_lt_of_le hbm.lt hsz⟩⟩
  · obtain ⟨z1, z2, z3⟩ := hZ k hk
    rintro ⟨(e | e) | (e | e | e | ⟨j, e⟩), h2⟩
    · omega
    · have := own_ge hs e; omega
    · omega
    · exact z3 e
    · omega
    · have := (pos j k e).1; omega
  · have e := hf.block mp hbm.lt hSm
    have hml := (List.getElem?_eq_some_iff.1 a4).1
    obtain ⟨g, c, e1, _⟩ := bk_form1 hO.om (by omega)
    injection e1 with e1 e2 e3
    injection e1 with e1
    injection e1 with e1
    have h1 : w1.cell? ⟨mp, 0, none⟩ = some m := own_cell (w := w1) (base := w0.heap.size) (e := 66) (size := 1) (n := n) (c := mc) (xs := ms) (by have ho := hO.om; rw [← e2] at ho; exact ho) a4
    rw [← h1]
    simp only [World.cell?, e]
  · obtain ⟨cs', hb'⟩ := bk_blk a6 e
    rcases hS g hg with ⟨cs2, h⟩ | ⟨cs2, h⟩
    · exact Blk.ne hb' h (by decide) rfl
    · exact Blk.ne hb' h (by decide) rfl
  · obtain ⟨cs', hb'⟩ := bk_blk a6 e
    have hge := own_ge a6 e
    exact ⟨fun e => by have := (hZ g e).2.1; omega, hG g _ _ hb' hge (by decide), by omega⟩
/-- the k-th pointer, wherever the document's memory has gone -/
theorem Rx.ptr {rm' k : Nat} {y : Value} (h : Rx W w0 G FZ rm B mp lay) (hy : (mptrs lay)[k]? = some y) : ∃ g c, ∀ w, (∃ B' gv gs, DI FZ w0 w rm' B' gv gs) → w.cell? ⟨mp, 0, none⟩ = some (.slice (some ⟨g, 0, none⟩) (mptrs lay).length c) ∧ w.cell? ⟨g, k, none⟩ = some y := by
  obtain ⟨m, h1, h2, h3⟩ := h.mc
  obtain ⟨a, b, c, d⟩ := h.mb
  have hk := (List.getElem?_eq_some_iff.1 hy).1
  obtain ⟨g, c, rfl, _⟩ := bk_form1 h2 (by omega)
  refine ⟨g, c, fun w hw => ?_⟩
  obtain ⟨B', gv, gs, hw⟩ := hw
  exact ⟨(hw.cell (q := ⟨mp, 0, none⟩) d a).trans h1, (hw.cell (q := ⟨g, k, none⟩) (own_lt h2 rfl) (h3 g rfl).1).trans (own_cell h2 hy)⟩
end
end Go.Proofs.Ytkaplifhaafpdaa

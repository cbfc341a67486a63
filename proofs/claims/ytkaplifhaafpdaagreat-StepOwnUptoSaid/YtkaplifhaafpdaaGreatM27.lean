/-
  The document's pick of a thread. No condition.
-/
import Derived.Test.YtkaplifhaafpdaaGreatM17
import Derived.Deep.CutRange
namespace Go.Proofs.YtkaplifhaafpdaaGreat
open Go Go.RowKit
set_option linter.unusedSimpArgs false
set_option linter.unusedVariables false
section
variable {w0 w w1 : World} {lab : Nat → Nat} {q rm cg ag gg : Nat} {pv ev wv : Value} {ll : List (List Plan)} {s : St} {gvs : List Value}
set_option maxRecDepth 100000 in
theorem ZPick_idle (h : ZR w0 w lab q rm ll s) (hn : Fits ll) (hs : s.steps ≤ 100000000) (t : Int) (hi : s.idle ll t = true) : Calls Tryz.prog 7 #[.pointer (some ⟨q, 0, none⟩), .int .i64 t] w fun e w' => e = .returned (.bool false) ∧ ∃ lab', ZR w0 w' lab' q rm ll { s with steps := s.steps + 1 } ∧ Zk w w' lab lab' := by
  have h' := h
  obtain ⟨⟨pv, cg, ag, gg, ev, wv, gvs, hx, hp⟩, hb, ok, lb⟩ := h
  obtain ⟨h1, k1⟩ := hx.count (s.steps + 1)
  have hr : ZR w0 (w.setCell ⟨q, 4, none⟩ (.int .i64 ((s.steps + 1 : Nat) : Int))) lab q rm ll { s with steps := s.steps + 1 } :=
    ⟨⟨pv, cg, ag, gg, ev, wv, gvs, h1, hp⟩, k1.bel hb lb, ⟨ok.tl, ok.th, ok.fit, ok.wl, Nat.le_trans ok.tr (by simp), by have := ok.el; show s.evs.length ≤ 2 * (s.steps + 1); omega, fun t x hx => Nat.le_trans (ok.gt t x hx) (by simp)⟩, lb⟩
  have HI := Lib.hid (left_any hr hn t)
  have hi' : ({ s with steps := s.steps + 1 } : St).idle ll t = true := hi
  rw [hi'] at HI
  have HR := Lib.hid (And.intro hr k1)
  have c1 : w.cell? ⟨q, 4, none⟩ = some (.int .i64 s.steps) := hx.blk.cell 4
  have f1 := hx.blk.cold 4
  clear h' hx hp hb ok lb h1 k1 hr hi hi'
  go_enter Tryz.func7, Tryz.ntmps7
  go_wp2_with fail
  refine HI.out.mono ?_
  rintro e w2 ⟨rfl, n, rfl⟩
  go_wp2
  go_ret
  exact ⟨rfl, lab, HR.out.1.drawn n, HR.out.2.drawn n⟩
theorem infoPlan : (Tryz.prog.info? 104).map (fun i => (i.zero, i.size, i.bytes)) = some (some (.agg #[.bool false, .slice none 0 0]), 2, 32) := by kernel_rfl
/-- in the middle of a pick -/
def St.mid (s : St) (A : Mem) (evs : List Ev) (wh : List Int) (tolds : List (List Int)) : Zs := ⟨A, s.th.map (·.call), s.th.map (·.at_), s.steps + 1, evs, wh, tolds⟩
def St.tolds (s : St) : List (List Int) := s.th.map fun x => x.got.flatten
def St.zq (s : St) (t : Nat) (x : TS) (p : Plan) (calls ats : List Nat) (evs : List Ev) : Zs := ⟨s.mem t (p.act x.at_), calls, ats, s.steps + 1, evs, s.wh ++ List.replicate ((s.mem t (p.act x.at_)).trace.length - s.A.trace.length) (s.steps : Int), s.tolds.set t (x.got.flatten ++ s.says (p.act x.at_))⟩
theorem go_z {ll : List (List Plan)} {s : St} {t : Nat} {x : TS} {p : Plan} (ok : s.Ok ll) (hat : s.at? ll t = some (x, p)) : (s.go t x p).z = s.zq t x p ((s.th.map (·.call)).set t (if p.dn x.at_ then x.call + 1 else x.call)) ((s.th.map (·.at_)).set t (if p.dn x.at_ then 0 else x.at_ + 1)) (if p.dn x.at_ then s.began t x ++ [⟨s.steps, t, x.call, true⟩] else s.began t x) := by
  obtain ⟨hx, l, hl, hp⟩ := at_some hat
  have hf := (ok.th t x l hx hl).flat hp (s.says (p.act x.at_)) (p.dn x.at_)
  unfold St.go St.z St.zq
  simp only [List.map_set, hf]
  rfl
/-- the document's runner in the middle of a pick, with the plan's box -/
def ZMid (w0 wb : World) (lab0 : Nat → Nat) (q rm n cg ag gg : Nat) (pv : Value) (bx : Nat) (bn : Bool) (bl : Value) (z : Zs) (wx : World) : Prop :=
  ∃ lab ev wv gvs, ZX wx lab q rm n pv z cg ag gg ev wv gvs ∧ Zk wb wx lab0 lab ∧ (∀ k, lab k ≠ 0 → w0.heap.size ≤ k) ∧ lab bx = 0 ∧ Blk wx bx 104 #[.bool bn, bl] ∧ Below w0.heap.size w0 wx
theorem make_not {A : Mem} {d : Do} (t : Int) (h : d.real = false) : A.make t d = A := by
  have h2 : ¬ (1 ≤ d.kind ∧ d.kind ≤ 5) := by simpa [Do.real] using h
  unfold Mem.make
  rw [if_neg (by omega), if_neg (by omega), if_neg (by omega), if_neg (by omega), if_neg (by omega)]
theorem set_same {α : Type} {l : List α} {t : Nat} {a : α} (h : l[t]? = some a) : l.set t a = l := by
  apply List.ext_getElem?
  intro i
  rw [List.getElem?_set]
  split
  · rename_i e; subst e; rw [h, if_pos (List.getElem?_eq_some_iff.1 h).1]
  · rfl
theorem mid_none {s : St} {t : Nat} {x : TS} (hx : s.th[t]? = some x) (evs : List Ev) (o : Option Do) (ho : s.mem t o = s.A) (hs : s.says o = []) :
    s.mid (s.mem t o) evs (s.wh ++ List.replicate ((s.mem t o).trace.length - s.A.trace.length) (s.steps : Int)) (s.tolds.set t (x.got.flatten ++ s.says o)) = s.mid s.A evs s.wh s.tolds := by
  rw [ho, hs, Nat.sub_self, List.append_nil]
  simp only [List.replicate_zero, List.append_nil]
  rw [set_same (by simp [St.tolds, hx])]
theorem Zk.low {w w' : World} {lab lab' : Nat → Nat} (h : Zk w w' lab lab') (lb : ∀ k, lab k ≠ 0 → w0.heap.size ≤ k) (hw : w0.heap.size ≤ w.heap.size) : ∀ k, lab' k ≠ 0 → w0.heap.size ≤ k := by
  intro k hk
  rcases Nat.lt_or_ge k w.heap.size with h1 | h1
  · rw [h.ag k h1] at hk; exact lb k hk
  · omega
theorem ZMid.next {wb wx wy : World} {lab0 labx laby : Nat → Nat} {n bx : Nat} {bn : Bool} {bl : Value} {z' : Zs} (hk : Zk wb wx lab0 labx) (lb : ∀ k, labx k ≠ 0 → w0.heap.size ≤ k) (hb : labx bx = 0) (hx : Blk wx bx 104 #[.bool bn, bl]) (hbl : Below w0.heap.size w0 wx)
    (h : ZX wy laby q rm n pv z' cg ag gg ev wv gvs) (k : Zk wx wy labx laby) : ZMid w0 wb lab0 q rm n cg ag gg pv bx bn bl z' wy :=
  ⟨laby, ev, wv, gvs, h, hk.trans k, k.low lb hbl.size, by rw [k.ag bx hx.lt]; exact hb, hx.fr k.fr (by simp [hb]), k.bel hbl lb⟩
theorem ZMid.drawn {wb wx : World} {lab0 : Nat → Nat} {n bx : Nat} {bn : Bool} {bl : Value} {z : Zs} (h : ZMid w0 wb lab0 q rm n cg ag gg pv bx bn bl z wx) (m : Nat) : ZMid w0 wb lab0 q rm n cg ag gg pv bx bn bl z (wx.drewN m) := by
  obtain ⟨lab, ev, wv, gvs, h1, h2, h3, h4, h5, h6⟩ := h
  exact ⟨lab, ev, wv, gvs, h1.drawn m, h2.drawn m, h3, h4, h5.drawn m, h6.trans (((Fr.refl (fun _ => False) wx).drawn m).to_below h6.size (fun _ _ e => e))⟩
/-- the pieces of Pick -/
def cseq1 : Code → Code | .seq a _ => a | c => c
def cseq2 : Code → Code | .seq _ b => b | c => c
set_option maxHeartbeats 4000000 in
set_option maxRecDepth 100000 in
theorem ZPick_D {t bx dc : Nat} {x : TS} {p : Plan} {dp : Option Addr} (cc : Code) (hcc : (cseq2 (cseq1 (cseq2 (cseq2 (cseq2 (cseq2 (cseq2 (cseq2 (Tryz.f7.body.getD .ret))))))))) = cc) (hn : Fits ll) (hs : s.steps ≤ 100000000) (HOK : Hid (s.Ok ll)) (HAT : Hid (s.at? ll t = some (x, p))) (HDO : Hid (∀ (k : Nat) (d : Do), p.l[k]? = some d → ∃ b o ap ac, dp = some ⟨b, o, none⟩ ∧ DoAt w0 b o k d (.slice ap d.vals.length ac) ∧ VA w0 (.slice ap d.vals.length ac) d.vals ∧ (ap = none → ac = 0))) {w5 : World} (HM5 : Hid (ZMid w0 w lab q rm ll.length cg ag gg pv bx p.none (.slice dp p.l.length dc) (s.mid s.A (s.began t x) s.wh s.tolds) w5)) (u2 u3 u4 u7 u8 u9 u10 u11 u12 u13 u14 u15 u16 u17 u18 u19 u20 u21 u22 u23 u24 u25 u26 u27 u28 u29 u30 u31 u32 u33 u34 u35 u36 u37 u38 u39 u40 u41 u42 u43 u44 u45 u46 u47 u48 u49 u50 u51 u52 u53 u54 u55 u56 u57 u58 u59 u60 u61 u62 u63 u64 u65 u66 u67 u68 u69 u70 u71 u72 u73 u74 u75 u76 u77 u78 u79 u80 u81 u82 u84 u85 u86 u87 u88 u89 u90 u91 u92 u93 u94 u95 u96 u97 u98 u99 u100 u101 u102 u103 u104 u105 u106 u107 u108 u109 u110 u111 u112 u113 u114 u115 u116 u117 u118 u119 u120 u121 u122 u123 u124 u125 u126 u127 u128 u129 u130 u131 u132 u133 u134 u135 u136 u137 u138 u139 u140 u141 u142 u143 u144 u145 u146 u147 u148 u149 u150 u151 u152 u153 u154 u155 u156 u157 u158 u159 u160 u161 u162 u163 u164 u165 u166 u167 u168 u169 u170 u171 u172 u173 u174 u175 u176 u177 u178 u179 u180 u181 u182 u183 u184 u185 u186 u187 u188 u189 u190 u191 u192 u193 u194 u195 u196 u197 u198 u199 u200 u201 u202 u203 u204 u205 u206 u207 u208 u209 u210 u211 u212 u213 : Value) (K : Act → World → Prop)
    (hQ : ∀ (u7 u8 u9 u10 u11 u12 u13 u14 u15 u16 u17 u18 u19 u20 u21 u22 u23 u24 u25 u26 u27 u28 u29 u30 u31 u32 u33 u34 u35 u36 u37 u38 u39 u40 u41 u42 u43 u44 u45 u46 u47 u48 u49 u50 u51 u52 u53 u54 u55 u56 u57 u58 u59 u60 u61 u62 u63 u64 u65 u66 u67 u68 u69 u70 u71 u72 u73 u74 u75 u76 u77 u78 u79 u80 u81 u82 u83 u84 u85 u86 u87 u88 u89 u90 u91 u92 u93 u94 u95 u96 u97 u98 u99 u100 u101 u102 u103 u104 u105 u106 u107 u108 u109 u110 u111 u112 u113 u114 u115 u116 u117 u118 u119 u120 u121 u122 u123 u124 u125 u126 u127 u128 u129 u130 u131 u132 u133 u134 u135 u136 u137 u138 u139 u140 u141 u142 u143 u144 u145 u146 u147 u148 u149 u150 u151 u152 u153 u154 u155 u156 u157 u158 u159 u160 u161 u162 u163 u164 u165 u166 u167 u168 u169 u170 u171 u172 u173 u174 u175 u176 u177 u178 u179 u180 u181 u182 u183 u184 u185 u186 u187 u188 u189 u190 u191 u192 u193 u194 u195 u196 u197 u198 u199 u200 u201 u202 u203 u204 u205 u206 u207 u208 u209 u210 u211 u212 u213 : Value) (wx : World), Hid (ZMid w0 w lab q rm ll.length cg ag gg pv bx p.none (.slice dp p.l.length dc) (s.mid (s.mem t (p.act x.at_)) (s.began t x) (s.wh ++ List.replicate ((s.mem t (p.act x.at_)).trace.length - s.A.trace.length) (s.steps : Int)) (s.tolds.set t (x.got.flatten ++ s.says (p.act x.at_)))) wx) → K { tmps := ((.pointer (some ⟨q, 0, none⟩) : Value) :: (.int .i64 (t : Int) : Value) :: u2 :: u3 :: u4 :: (.int .i64 s.steps : Value) :: (.pointer (some ⟨bx, 0, none⟩) : Value) :: u7 :: u8 :: u9 :: u10 :: u11 :: u12 :: u13 :: u14 :: u15 :: u16 :: u17 :: u18 :: u19 :: u20 :: u21 :: u22 :: u23 :: u24 :: u25 :: u26 :: u27 :: u28 :: u29 :: u30 :: u31 :: u32 :: u33 :: u34 :: u35 :: u36 :: u37 :: u38 :: u39 :: u40 :: u41 :: u42 :: u43 :: u44 :: u45 :: u46 :: u47 :: u48 :: u49 :: u50 :: u51 :: u52 :: u53 :: u54 :: u55 :: u56 :: u57 :: u58 :: u59 :: u60 :: u61 :: u62 :: u63 :: u64 :: u65 :: u66 :: u67 :: u68 :: u69 :: u70 :: u71 :: u72 :: u73 :: u74 :: u75 :: u76 :: u77 :: u78 :: u79 :: u80 :: u81 :: u82 :: u83 :: u84 :: u85 :: u86 :: u87 :: u88 :: u89 :: u90 :: u91 :: u92 :: u93 :: u94 :: u95 :: u96 :: u97 :: u98 :: u99 :: u100 :: u101 :: u102 :: u103 :: u104 :: u105 :: u106 :: u107 :: u108 :: u109 :: u110 :: u111 :: u112 :: u113 :: u114 :: u115 :: u116 :: u117 :: u118 :: u119 :: u120 :: u121 :: u122 :: u123 :: u124 :: u125 :: u126 :: u127 :: u128 :: u129 :: u130 :: u131 :: u132 :: u133 :: u134 :: u135 :: u136 :: u137 :: u138 :: u139 :: u140 :: u141 :: u142 :: u143 :: u144 :: u145 :: u146 :: u147 :: u148 :: u149 :: u150 :: u151 :: u152 :: u153 :: u154 :: u155 :: u156 :: u157 :: u158 :: u159 :: u160 :: u161 :: u162 :: u163 :: u164 :: u165 :: u166 :: u167 :: u168 :: u169 :: u170 :: u171 :: u172 :: u173 :: u174 :: u175 :: u176 :: u177 :: u178 :: u179 :: u180 :: u181 :: u182 :: u183 :: u184 :: u185 :: u186 :: u187 :: u188 :: u189 :: u190 :: u191 :: u192 :: u193 :: u194 :: u195 :: u196 :: u197 :: u198 :: u199 :: u200 :: u201 :: u202 :: u203 :: u204 :: u205 :: u206 :: u207 :: u208 :: u209 :: u210 :: u211 :: u212 :: u213 :: []).toArray, defers := [] } wx) :
    cc.wp Tryz.prog (Exit.then K (bodyPost Tryz.prog Tryz.f7 fun e w' => e = .returned (.bool true) ∧ ∃ lab', ZR w0 w' lab' q rm ll (s.go t x p) ∧ Zk w w' lab lab')) { tmps := ((.pointer (some ⟨q, 0, none⟩) : Value) :: (.int .i64 (t : Int) : Value) :: u2 :: u3 :: u4 :: (.int .i64 s.steps : Value) :: (.pointer (some ⟨bx, 0, none⟩) : Value) :: u7 :: u8 :: u9 :: u10 :: u11 :: u12 :: u13 :: u14 :: u15 :: u16 :: u17 :: u18 :: u19 :: u20 :: u21 :: u22 :: u23 :: u24 :: u25 :: u26 :: u27 :: u28 :: u29 :: u30 :: u31 :: u32 :: u33 :: u34 :: u35 :: u36 :: u37 :: u38 :: u39 :: u40 :: u41 :: u42 :: u43 :: u44 :: u45 :: u46 :: u47 :: u48 :: u49 :: u50 :: u51 :: u52 :: u53 :: u54 :: u55 :: u56 :: u57 :: u58 :: u59 :: u60 :: u61 :: u62 :: u63 :: u64 :: u65 :: u66 :: u67 :: u68 :: u69 :: u70 :: u71 :: u72 :: u73 :: u74 :: u75 :: u76 :: u77 :: u78 :: u79 :: u80 :: u81 :: u82 :: (.bool (p.act x.at_).isSome : Value) :: u84 :: u85 :: u86 :: u87 :: u88 :: u89 :: u90 :: u91 :: u92 :: u93 :: u94 :: u95 :: u96 :: u97 :: u98 :: u99 :: u100 :: u101 :: u102 :: u103 :: u104 :: u105 :: u106 :: u107 :: u108 :: u109 :: u110 :: u111 :: u112 :: u113 :: u114 :: u115 :: u116 :: u117 :: u118 :: u119 :: u120 :: u121 :: u122 :: u123 :: u124 :: u125 :: u126 :: u127 :: u128 :: u129 :: u130 :: u131 :: u132 :: u133 :: u134 :: u135 :: u136 :: u137 :: u138 :: u139 :: u140 :: u141 :: u142 :: u143 :: u144 :: u145 :: u146 :: u147 :: u148 :: u149 :: u150 :: u151 :: u152 :: u153 :: u154 :: u155 :: u156 :: u157 :: u158 :: u159 :: u160 :: u161 :: u162 :: u163 :: u164 :: u165 :: u166 :: u167 :: u168 :: u169 :: u170 :: u171 :: u172 :: u173 :: u174 :: u175 :: u176 :: u177 :: u178 :: u179 :: u180 :: u181 :: u182 :: u183 :: u184 :: u185 :: u186 :: u187 :: u188 :: u189 :: u190 :: u191 :: u192 :: u193 :: u194 :: u195 :: u196 :: u197 :: u198 :: u199 :: u200 :: u201 :: u202 :: u203 :: u204 :: u205 :: u206 :: u207 :: u208 :: u209 :: u210 :: u211 :: u212 :: u213 :: []).toArray, defers := [] } w5 := by
  obtain ⟨hxt, l, hl, hp⟩ := at_some HAT.out
  have htl := (List.getElem?_eq_some_iff.1 hl).1
  have hcl := (List.getElem?_eq_some_iff.1 hp).1
  have HL := Lib.hid hl
  have HPL := Lib.hid hp
  have HX := Lib.hid hxt
  have hn1 := hn.n
  have hn2 := hn.l l (List.mem_of_getElem? hl)
  clear hp hl hxt
  have i0 : (0 : Int) ≤ (t : Int) := by omega
  have i1 : (t : Int) < (ll.length : Int) := by omega
  have i2 : (0 : Int) ≤ (x.call : Int) := by omega
  have i3 : (x.call : Int) < (l.length : Int) := by omega
  have el : s.evs.length ≤ 1000000000 := by have := HOK.out.el; omega
  have hal : x.at_ ≠ 0 → p.none = false ∧ x.at_ < p.l.length := (HOK.out.th t x l HX.out HL.out).at_ p HPL.out
  have hact : (p.act x.at_).isSome = (!p.none && decide (x.at_ < p.l.length)) := by
    unfold Plan.act
    cases p.none
    · by_cases hq : x.at_ < p.l.length
      · simp [hq]
      · simp [hq]
    · simp
  have HQ0 := Lib.hid hQ
  clear hQ
  unfold Tryz.f7 at hcc
  dsimp only [cseq1, cseq2, Option.getD_some] at hcc
  subst hcc
  try dsimp only
  cases hac : p.act x.at_ with
  | none =>
    have HM6 : Hid (ZMid w0 w lab q rm ll.length cg ag gg pv bx p.none (.slice dp p.l.length dc) (s.mid (s.mem t Option.none) (s.began t x) (s.wh ++ List.replicate ((s.mem t Option.none).trace.length - s.A.trace.length) (s.steps : Int)) (s.tolds.set t (x.got.flatten ++ s.says Option.none))) w5) := by
      rw [mid_none HX.out _ _ rfl rfl]
      exact HM5.out
    go_wp2_with fail
    refine HQ0.out _ _ _ _ _ _ _ _ _ _ _ _ _ _ _ _ _ _ _ _ _ _ _ _ _ _ _ _ _ _ _ _ _ _ _ _ _ _ _ _ _ _ _ _ _ _ _ _ _ _ _ _ _ _ _ _ _ _ _ _ _ _ _ _ _ _ _ _ _ _ _ _ _ _ _ _ _ _ _ _ _ _ _ _ _ _ _ _ _ _ _ _ _ _ _ _ _ _ _ _ _ _ _ _ _ _ _ _ _ _ _ _ _ _ _ _ _ _ _ _ _ _ _ _ _ _ _ _ _ _ _ _ _ _ _ _ _ _ _ _ _ _ _ _ _ _ _ _ _ _ _ _ _ _ _ _ _ _ _ _ _ _ _ _ _ _ _ _ _ _ _ _ _ _ _ _ _ _ _ _ _ _ _ _ _ _ _ _ _ _ _ _ _ _ _ _ _ _ _ _ _ _ _ _ _ _ _ _ ?_
    rw [hac]
    exact HM6
  | some d =>
    have hd : p.none = false ∧ p.l[x.at_]? = some d := by
      unfold Plan.act at hac
      cases hpn : p.none
      · rw [hpn] at hac; exact ⟨rfl, by simpa using hac⟩
      · rw [hpn] at hac; simp at hac
    have hal2 := (List.getElem?_eq_some_iff.1 hd.2).1
    obtain ⟨b3, o3, ap, ac, rfl, hdo3, hva3, hnil3⟩ := HDO.out x.at_ d hd.2
    obtain ⟨lab5, ev5, wv5, gvs5, z5, k5, lb5, lx5, bx5, bl5⟩ := HM5.out
    have hdo5 := hdo3.below bl5
    obtain ⟨hbl5, e0, e1, e2, e3, e4⟩ := hdo5
    have g1 : w5.cell? ⟨q, 3, none⟩ = some (.slice (some ⟨ag, 0, none⟩) ll.length ll.length) := z5.blk.cell 3
    have g2 : w5.cell? ⟨ag, t, none⟩ = some (.int .i64 x.at_) := z5.acell (by simp [St.mid, HX.out])
    have g4 : w5.cell? ⟨bx, 1, none⟩ = some (.slice (some ⟨b3, o3, none⟩) p.l.length dc) := bx5.cell 1
    have hlt : q < w5.heap.size ∧ ag < w5.heap.size ∧ bx < w5.heap.size := ⟨z5.blk.lt, z5.aB.lt, bx5.lt⟩
    have HSS : Hid (∀ o', (w5.alloc o').cell? ⟨q, 3, none⟩ = some (.slice (some ⟨ag, 0, none⟩) ll.length ll.length) ∧ (w5.alloc o').cell? ⟨ag, t, none⟩ = some (.int .i64 x.at_) ∧ (w5.alloc o').cell? ⟨bx, 1, none⟩ = some (.slice (some ⟨b3, o3, none⟩) p.l.length dc) ∧
        (w5.alloc o').cell? ⟨b3, o3 + x.at_ * 5, none⟩ = some (.int .u8 d.kind) ∧ (w5.alloc o').cell? ⟨b3, o3 + x.at_ * 5 + 1, none⟩ = some (.int .u64 d.addr) ∧ (w5.alloc o').cell? ⟨b3, o3 + x.at_ * 5 + 2, none⟩ = some (.int .u64 d.a) ∧ (w5.alloc o').cell? ⟨b3, o3 + x.at_ * 5 + 3, none⟩ = some (.int .u64 d.b) ∧ (w5.alloc o').cell? ⟨b3, o3 + x.at_ * 5 + 4, none⟩ = some (.slice ap d.vals.length ac)) := fun o' =>
      ⟨(World.cell?_alloc_lt w5 o' _ hlt.1).trans g1, (World.cell?_alloc_lt w5 o' _ hlt.2.1).trans g2, (World.cell?_alloc_lt w5 o' _ hlt.2.2).trans g4, (World.cell?_alloc_lt w5 o' _ hbl5).trans e0, (World.cell?_alloc_lt w5 o' _ hbl5).trans e1, (World.cell?_alloc_lt w5 o' _ hbl5).trans e2, (World.cell?_alloc_lt w5 o' _ hbl5).trans e3, (World.cell?_alloc_lt w5 o' _ hbl5).trans e4⟩
    have HZ5 := Lib.hid z5
    have HK5 := Lib.hid (And.intro k5 (And.intro lb5 (And.intro lx5 (And.intro bx5 bl5))))
    have HVA := Lib.hid hva3
    have HAC := Lib.hid hac
    have HD := Lib.hid hd
    have j0 : (0 : Int) ≤ (x.at_ : Int) := by omega
    have j1 : (x.at_ : Int) < (p.l.length : Int) := by omega
    clear z5 k5 lb5 lx5 bx5 bl5 hdo3 hva3 hact hal hlt hd
    go_upto_region 9 with fail
    go_region_held3 (fun w' => w'.cell? ⟨q, 3, none⟩ = some (.slice (some ⟨ag, 0, none⟩) ll.length ll.length) ∧ w'.cell? ⟨ag, t, none⟩ = some (.int .i64 x.at_) ∧ w'.cell? ⟨bx, 1, none⟩ = some (.slice (some ⟨b3, o3, none⟩) p.l.length dc) ∧
        w'.cell? ⟨b3, o3 + x.at_ * 5, none⟩ = some (.int .u8 d.kind) ∧ w'.cell? ⟨b3, o3 + x.at_ * 5 + 1, none⟩ = some (.int .u64 d.addr) ∧ w'.cell? ⟨b3, o3 + x.at_ * 5 + 2, none⟩ = some (.int .u64 d.a) ∧ w'.cell? ⟨b3, o3 + x.at_ * 5 + 3, none⟩ = some (.int .u64 d.b) ∧ w'.cell? ⟨b3, o3 + x.at_ * 5 + 4, none⟩ = some (.slice ap d.vals.length ac))
      (first | exact ⟨g1, g2, g4, e0, e1, e2, e3, e4⟩ | exact HSS.out _) (fail)
    have HM6 : Hid (∃ lab6 ev6 wv6 gvs6, ZX (w5.alloc (.cells #[.int .u8 d.kind, .int .u64 d.addr, .int .u64 d.a, .int .u64 d.b, .slice ap d.vals.length ac] 109)).drew lab6 q rm ll.length pv (s.mid s.A (s.began t x) s.wh s.tolds) cg ag gg ev6 wv6 gvs6 ∧ Zk w (w5.alloc (.cells #[.int .u8 d.kind, .int .u64 d.addr, .int .u64 d.a, .int .u64 d.b, .slice ap d.vals.length ac] 109)).drew lab lab6 ∧ (∀ k, lab6 k ≠ 0 → w0.heap.size ≤ k) ∧ lab6 bx = 0 ∧ Blk (w5.alloc (.cells #[.int .u8 d.kind, .int .u64 d.addr, .int .u64 d.a, .int .u64 d.b, .slice ap d.vals.length ac] 109)).drew bx 104 #[.bool p.none, .slice (some ⟨b3, o3, none⟩) p.l.length dc] ∧ Below w0.heap.size w0 (w5.alloc (.cells #[.int .u8 d.kind, .int .u64 d.addr, .int .u64 d.a, .int .u64 d.b, .slice ap d.vals.length ac] 109)).drew ∧ lab6 w5.heap.size = 0 ∧ Blk (w5.alloc (.cells #[.int .u8 d.kind, .int .u64 d.addr, .int .u64 d.a, .int .u64 d.b, .slice ap d.vals.length ac] 109)).drew w5.heap.size 109 #[.int .u8 d.kind, .int .u64 d.addr, .int .u64 d.a, .int .u64 d.b, .slice ap d.vals.length ac]) := by
      obtain ⟨k5, lb5, lx5, bx5, bl5⟩ := HK5.out
      have f : Fr (fun _ => False) w5 (w5.alloc (.cells #[.int .u8 d.kind, .int .u64 d.addr, .int .u64 d.a, .int .u64 d.b, .slice ap d.vals.length ac] 109)).drew := ((Fr.refl _ w5).alloc _).drawn 1
      have ha : Agree w5 lab5 (relab lab5 w5.heap.size 0) := fun k hk => by unfold relab; rw [if_neg (by omega)]
      refine ⟨relab lab5 w5.heap.size 0, ev5, wv5, gvs5, HZ5.out.fr f (fun _ _ e => e) ha, k5.trans ⟨ha, f.mono (fun _ _ e => e.elim)⟩, ?_, by rw [ha bx bx5.lt]; exact lx5, bx5.fr f (fun e => e), bl5.trans (f.to_below bl5.size (fun _ _ e => e)), by unfold relab; rw [if_pos (Nat.le_refl _)], Blk.made w5 _ _⟩
      intro k hk
      unfold relab at hk
      split at hk
      · exact absurd rfl hk
      · exact lb5 k hk
    clear HSS g1 g2 g4 e0 e1 e2 e3 e4 HZ5 HK5 hbl5 HM5
    generalize (w5.alloc _).drew = w6 at *
    generalize w5.heap.size = dx at *
    obtain ⟨lab6, ev6, wv6, gvs6, z6, k6, lb6, lx6, bx6, bl6, ld6, bd6⟩ := HM6.out
    have HZ6 := Lib.hid z6
    have HK6 := Lib.hid (And.intro k6 (And.intro lb6 (And.intro lx6 (And.intro bx6 bl6))))
    have e0 : w6.cell? ⟨dx, 0, none⟩ = some (.int .u8 d.kind) := bd6.cell 0
    have e1 : w6.cell? ⟨dx, 1, none⟩ = some (.int .u64 d.addr) := bd6.cell 1
    have e2 : w6.cell? ⟨dx, 2, none⟩ = some (.int .u64 d.a) := bd6.cell 2
    have e3 : w6.cell? ⟨dx, 3, none⟩ = some (.int .u64 d.b) := bd6.cell 3
    have e4 : w6.cell? ⟨dx, 4, none⟩ = some (.slice ap d.vals.length ac) := bd6.cell 4
    have HD6 := Lib.hid (And.intro ld6 bd6)
    clear z6 k6 lb6 lx6 bx6 bl6 ld6 bd6 HM6
    cases hre : d.real
    · skip
      -- [[
      have h2 : ¬ (1 ≤ d.kind ∧ d.kind ≤ 5) := by simpa [Do.real] using hre
      have HM7 : Hid (ZMid w0 w lab q rm ll.length cg ag gg pv bx p.none (.slice (some ⟨b3, o3, none⟩) p.l.length dc) (s.mid (s.mem t (p.act x.at_)) (s.began t x) (s.wh ++ List.replicate ((s.mem t (p.act x.at_)).trace.length - s.A.trace.length) (s.steps : Int)) (s.tolds.set t (x.got.flatten ++ s.says (p.act x.at_)))) w6) := by
        obtain ⟨k6, lb6, lx6, bx6, bl6⟩ := HK6.out
        rw [HAC.out, mid_none HX.out _ (some d) (make_not _ hre) (by simp [St.says, hre])]
        exact ⟨lab6, ev6, wv6, gvs6, HZ6.out, k6, lb6, lx6, bx6, bl6⟩
      have tt : (decide (1 ≤ d.kind) && decide (d.kind ≤ 5)) = false := by
        rw [Bool.and_eq_false_iff]
        simp only [decide_eq_false_iff_not]
        omega
      by_cases hk1 : 1 ≤ d.kind
      · have t1 : decide (1 ≤ d.kind) = true := by simpa using hk1
        have t2 : decide (d.kind ≤ 5) = false := by simp; omega
        go_wp2_with fail
        refine HQ0.out _ _ _ _ _ _ _ _ _ _ _ _ _ _ _ _ _ _ _ _ _ _ _ _ _ _ _ _ _ _ _ _ _ _ _ _ _ _ _ _ _ _ _ _ _ _ _ _ _ _ _ _ _ _ _ _ _ _ _ _ _ _ _ _ _ _ _ _ _ _ _ _ _ _ _ _ _ _ _ _ _ _ _ _ _ _ _ _ _ _ _ _ _ _ _ _ _ _ _ _ _ _ _ _ _ _ _ _ _ _ _ _ _ _ _ _ _ _ _ _ _ _ _ _ _ _ _ _ _ _ _ _ _ _ _ _ _ _ _ _ _ _ _ _ _ _ _ _ _ _ _ _ _ _ _ _ _ _ _ _ _ _ _ _ _ _ _ _ _ _ _ _ _ _ _ _ _ _ _ _ _ _ _ _ _ _ _ _ _ _ _ _ _ _ _ _ _ _ _ _ _ _ _ _ _ _ _ _ ?_
        exact HM7
      · have t1 : decide (1 ≤ d.kind) = false := by simpa using hk1
        go_wp2_with fail
        refine HQ0.out _ _ _ _ _ _ _ _ _ _ _ _ _ _ _ _ _ _ _ _ _ _ _ _ _ _ _ _ _ _ _ _ _ _ _ _ _ _ _ _ _ _ _ _ _ _ _ _ _ _ _ _ _ _ _ _ _ _ _ _ _ _ _ _ _ _ _ _ _ _ _ _ _ _ _ _ _ _ _ _ _ _ _ _ _ _ _ _ _ _ _ _ _ _ _ _ _ _ _ _ _ _ _ _ _ _ _ _ _ _ _ _ _ _ _ _ _ _ _ _ _ _ _ _ _ _ _ _ _ _ _ _ _ _ _ _ _ _ _ _ _ _ _ _ _ _ _ _ _ _ _ _ _ _ _ _ _ _ _ _ _ _ _ _ _ _ _ _ _ _ _ _ _ _ _ _ _ _ _ _ _ _ _ _ _ _ _ _ _ _ _ _ _ _ _ _ _ _ _ _ _ _ _ _ _ _ _ _ ?_
        exact HM7
      -- ]]
    · skip
      -- [[
      have h2 : 1 ≤ d.kind ∧ d.kind ≤ 5 := by simpa [Do.real] using hre
      have t1 : decide (1 ≤ d.kind) = true := by simpa using h2.1
      have t2 : decide (d.kind ≤ 5) = true := by simpa using h2.2
      obtain ⟨r6, tv6, rows6, rx6⟩ := HZ6.out.mem
      have rx6 : RMx w6 (fun k => lab6 k = 1) rm r6 tv6 rows6 false s.A := rx6
      obtain ⟨tp6, tc6, e6⟩ := bk_form rx6.own
      have hrl : rows6.length = s.A.trace.length := rx6.len
      have g1 : w6.cell? ⟨q, 7, none⟩ = some (.slice (some ⟨gg, 0, none⟩) ll.length ll.length) := HZ6.out.blk.cell 7
      have g2 : w6.cell? ⟨q, 0, none⟩ = some (.pointer (some ⟨rm, 0, none⟩)) := HZ6.out.blk.cell 0
      have g3 : w6.cell? ⟨rm, 2, none⟩ = some (.slice tp6 s.A.trace.length tc6) := by rw [← hrl, ← e6]; exact rx6.bM.cell 2
      have hgl : gvs6.length = ll.length := HZ6.out.gl
      obtain ⟨gv, hgv⟩ : ∃ gv, gvs6[t]? = some gv := ⟨_, List.getElem?_eq_getElem (by omega)⟩
      have hgt := Nat.le_trans (HOK.out.gt t x HX.out) hs
      have hto : (s.tolds)[t]? = some x.got.flatten := by simp [St.tolds, HX.out]
      have HTL : Hid (∃ y, y = x.got.flatten) := ⟨_, rfl⟩
      obtain ⟨tld, htld⟩ := HTL.out
      rw [← htld] at hto hgt
      have HTL := Lib.hid htld
      clear htld
      obtain ⟨gp, gc, e7⟩ := bk_form (HZ6.out.gvo t gv _ hgv hto)
      subst e7
      have g4 : w6.cell? ⟨gg, t, none⟩ = some (.slice gp tld.length gc) := HZ6.out.gcell hgv
      have HGV := Lib.hid hgv
      have HTO := Lib.hid hto
      have HRX := Lib.hid rx6
      clear hgv hto rx6 hrl e6
      have hfit := HOK.out.fit
      have hlow := (HK6.out.2.1)
      have hdf := (hn.p l (List.mem_of_getElem? HL.out) p (List.mem_of_getElem? HPL.out)).2 d (List.mem_of_getElem? HD.out.2)
      have hva6 : VA w6.drew (.slice ap d.vals.length ac) d.vals := (HVA.out.fr (Fr.of_below (S := fun _ => False) (HK6.out.2.2.2.2)) (fun _ _ _ _ e => e)).fr ((Fr.refl (fun _ => False) w6).drawn 1) (fun _ _ _ _ e => e)
      have hoff : d.vals ≠ [] → Off (.slice ap d.vals.length ac) (fun k => lab6 k = 1) := by
        intro hne ad n c e hk
        obtain ⟨p', c', e1', hq⟩ := HVA.out
        rcases hq with hq | ⟨ad', e2', hq, _⟩
        · exact hne hq
        · injection e with e _ _
          injection e1' with e1' _ _
          rw [e2'] at e1'
          rw [e1'] at e
          injection e with e
          subst e
          have := hlow _ (show lab6 _ ≠ 0 by rw [hk]; decide)
          omega
      have HC := Lib.hid (Make_any (HRX.out.fr ((Fr.refl (fun _ => False) w6).drawn 1) (fun _ _ e => e)) hdf.1.1 hdf.1.2 hva6 hoff (by intro n c e; injection e with e1 _ e3; exact e3 ▸ hnil3 e1) t (by have := hdf.2; omega) hfit)
      have HA : Hid (∀ w7, RDid w6.drew w7 (fun k => lab6 k = 1) rm false (s.A.make t d) → (w7.cell? ⟨q, 7, none⟩ = some (.slice (some ⟨gg, 0, none⟩) ll.length ll.length) ∧ w7.cell? ⟨q, 0, none⟩ = some (.pointer (some ⟨rm, 0, none⟩)) ∧ w7.cell? ⟨dx, 0, none⟩ = some (.int .u8 d.kind) ∧ w7.cell? ⟨dx, 1, none⟩ = some (.int .u64 d.addr) ∧ w7.cell? ⟨dx, 2, none⟩ = some (.int .u64 d.a) ∧ w7.cell? ⟨dx, 3, none⟩ = some (.int .u64 d.b) ∧ w7.cell? ⟨dx, 4, none⟩ = some (.slice ap d.vals.length ac)) ∧ (∀ o', (w7.alloc o').cell? ⟨q, 7, none⟩ = some (.slice (some ⟨gg, 0, none⟩) ll.length ll.length) ∧ (w7.alloc o').cell? ⟨q, 0, none⟩ = some (.pointer (some ⟨rm, 0, none⟩)) ∧ (w7.alloc o').cell? ⟨dx, 0, none⟩ = some (.int .u8 d.kind) ∧ (w7.alloc o').cell? ⟨dx, 1, none⟩ = some (.int .u64 d.addr) ∧ (w7.alloc o').cell? ⟨dx, 2, none⟩ = some (.int .u64 d.a) ∧ (w7.alloc o').cell? ⟨dx, 3, none⟩ = some (.int .u64 d.b) ∧ (w7.alloc o').cell? ⟨dx, 4, none⟩ = some (.slice ap d.vals.length ac)) ∧ w7.cell? ⟨gg, t, none⟩ = some (.slice gp tld.length gc) ∧ (∀ o', (w7.alloc o').cell? ⟨gg, t, none⟩ = some (.slice gp tld.length gc)) ∧
          Hid ((w7.alloc (.cells #[.int .u64 (s.A.tell d)] 72)).ownsRow 0 72 1 (.slice gp tld.length gc) tld.length (us tld) ∧
            ∀ g c w8, w8.ownsRow 0 72 1 (.slice (some ⟨g, 0, none⟩) (tld.length + 1) c) (tld.length + 1) (us tld ++ [.int .u64 (s.A.tell d)]) → (w7.alloc (.cells #[.int .u64 (s.A.tell d)] 72)).grownBy w8 (Value.slice gp tld.length gc).ownBlock → ((Value.slice gp tld.length gc).ownBlock = some g ∨ g = (w7.alloc (.cells #[.int .u64 (s.A.tell d)] 72)).heap.size) →
              w8.cell? ⟨gg, t, none⟩ = some (.slice gp tld.length gc) ∧ w8.frozen? ⟨gg, t, none⟩ = false ∧ (w8.cell? ⟨q, 7, none⟩ = some (.slice (some ⟨gg, 0, none⟩) ll.length ll.length) ∧ w8.cell? ⟨q, 0, none⟩ = some (.pointer (some ⟨rm, 0, none⟩)) ∧ w8.cell? ⟨dx, 0, none⟩ = some (.int .u8 d.kind) ∧ w8.cell? ⟨dx, 1, none⟩ = some (.int .u64 d.addr) ∧ w8.cell? ⟨dx, 2, none⟩ = some (.int .u64 d.a) ∧ w8.cell? ⟨dx, 3, none⟩ = some (.int .u64 d.b) ∧ w8.cell? ⟨dx, 4, none⟩ = some (.slice ap d.vals.length ac)) ∧ ((w8.setCell ⟨gg, t, none⟩ (.slice (some ⟨g, 0, none⟩) (tld.length + 1) c)).cell? ⟨q, 7, none⟩ = some (.slice (some ⟨gg, 0, none⟩) ll.length ll.length) ∧ (w8.setCell ⟨gg, t, none⟩ (.slice (some ⟨g, 0, none⟩) (tld.length + 1) c)).cell? ⟨q, 0, none⟩ = some (.pointer (some ⟨rm, 0, none⟩)) ∧ (w8.setCell ⟨gg, t, none⟩ (.slice (some ⟨g, 0, none⟩) (tld.length + 1) c)).cell? ⟨dx, 0, none⟩ = some (.int .u8 d.kind) ∧ (w8.setCell ⟨gg, t, none⟩ (.slice (some ⟨g, 0, none⟩) (tld.length + 1) c)).cell? ⟨dx, 1, none⟩ = some (.int .u64 d.addr) ∧ (w8.setCell ⟨gg, t, none⟩ (.slice (some ⟨g, 0, none⟩) (tld.length + 1) c)).cell? ⟨dx, 2, none⟩ = some (.int .u64 d.a) ∧ (w8.setCell ⟨gg, t, none⟩ (.slice (some ⟨g, 0, none⟩) (tld.length + 1) c)).cell? ⟨dx, 3, none⟩ = some (.int .u64 d.b) ∧ (w8.setCell ⟨gg, t, none⟩ (.slice (some ⟨g, 0, none⟩) (tld.length + 1) c)).cell? ⟨dx, 4, none⟩ = some (.slice ap d.vals.length ac)) ∧
              Hid (ZMid w0 w lab q rm ll.length cg ag gg pv bx p.none (.slice (some ⟨b3, o3, none⟩) p.l.length dc) (s.mid (s.A.make t d) (s.began t x) s.wh (s.tolds.set t (tld ++ [s.A.tell d]))) (w8.setCell ⟨gg, t, none⟩ (.slice (some ⟨g, 0, none⟩) (tld.length + 1) c))))) := by
        intro w7 hD
        obtain ⟨lab7, z7, k7⟩ := (HZ6.out.drawn 1).did hD
        have bd7 : Blk w7 dx 109 _ := (HD6.out.2.drawn 1).fr k7.fr (by simp [HD6.out.1])
        have sx : ∀ {W : World} {st : Nat} {evv wvv : Value}, Blk W q 101 (zcs rm pv ll.length cg ag gg st evv wvv) → Blk W dx 109 #[.int .u8 d.kind, .int .u64 d.addr, .int .u64 d.a, .int .u64 d.b, .slice ap d.vals.length ac] → (W.cell? ⟨q, 7, none⟩ = some (.slice (some ⟨gg, 0, none⟩) ll.length ll.length) ∧ W.cell? ⟨q, 0, none⟩ = some (.pointer (some ⟨rm, 0, none⟩)) ∧ W.cell? ⟨dx, 0, none⟩ = some (.int .u8 d.kind) ∧ W.cell? ⟨dx, 1, none⟩ = some (.int .u64 d.addr) ∧ W.cell? ⟨dx, 2, none⟩ = some (.int .u64 d.a) ∧ W.cell? ⟨dx, 3, none⟩ = some (.int .u64 d.b) ∧ W.cell? ⟨dx, 4, none⟩ = some (.slice ap d.vals.length ac)) := fun h1 h2 => ⟨h1.cell 7, h1.cell 0, h2.cell 0, h2.cell 1, h2.cell 2, h2.cell 3, h2.cell 4⟩
        refine ⟨sx z7.blk bd7, fun o' => sx (z7.blk.alloc o') (bd7.alloc o'), z7.gcell HGV.out, fun o' => ((z7.gB.alloc o').cell t).trans (by simpa using HGV.out), own_fr (z7.gvo t _ _ HGV.out HTO.out) ((Fr.refl (fun _ => False) w7).alloc _) (fun _ _ e => e), ?_⟩
        intro g c w8 hown8 hgrow8 hat8
        have f1 : Fr (fun k => (Value.slice gp tld.length gc).ownBlock = some k) w7 w8 := ((Fr.refl (fun k => (Value.slice gp tld.length gc).ownBlock = some k) w7).alloc _).grown hgrow8 (fun k e => .inl e)
        have ho7 := z7.gvo t _ _ HGV.out HTO.out
        obtain ⟨r1, r2, lab8, z8, k8⟩ := z7.tell HGV.out HTO.out ((Fr.refl (fun _ => False) w7).alloc _) hown8 hgrow8 (hat8.imp id fun e => by rw [e]; simp)
        have bd8 := bd7.fr f1 (own_ne ho7 bd7 (by decide))
        have hgd : gg ≠ dx := fun e => Blk.ne z7.gB (e ▸ bd7) (by decide) rfl
        obtain ⟨k6, lb6, lx6, bx6, bl6⟩ := HK6.out
        refine ⟨r1, r2, sx (z7.blk.fr f1 (own_ne ho7 z7.blk (by decide))) bd8, sx z8.blk (bd8.far (p := ⟨gg, t, none⟩) hgd.symm _), ?_⟩
        have hk : Zk w6 _ lab6 lab8 := (⟨k7.ag, ((Fr.refl (fun k => lab6 k ≠ 0) w6).drawn 1).trans k7.fr⟩ : Zk w6 w7 lab6 lab7).trans k8
        exact ZMid.next k6 lb6 lx6 bx6 bl6 z8 hk
      obtain ⟨i0, hi0, hz0, hz1, hz2⟩ := info_parts infoU
      have hre' := Lib.hid hre
      clear hfit hlow hdf hva6 hoff hgl h2 hre
      go_upto_region 12 with fail
      go_cut [] (fun wx => Hid (ZMid w0 w lab q rm ll.length cg ag gg pv bx p.none (.slice (some ⟨b3, o3, none⟩) p.l.length dc) (s.mid (s.A.make t d) (s.began t x) s.wh (s.tolds.set t (tld ++ [s.A.tell d]))) wx))
      case first =>
        -- [[
        refine wp_region_held_drew (S := (fun w' => w'.cell? ⟨q, 7, none⟩ = some (.slice (some ⟨gg, 0, none⟩) ll.length ll.length) ∧ w'.cell? ⟨q, 0, none⟩ = some (.pointer (some ⟨rm, 0, none⟩)) ∧ w'.cell? ⟨dx, 0, none⟩ = some (.int .u8 d.kind) ∧ w'.cell? ⟨dx, 1, none⟩ = some (.int .u64 d.addr) ∧ w'.cell? ⟨dx, 2, none⟩ = some (.int .u64 d.a) ∧ w'.cell? ⟨dx, 3, none⟩ = some (.int .u64 d.b) ∧ w'.cell? ⟨dx, 4, none⟩ = some (.slice ap d.vals.length ac))) (by kernel_rfl) (by exact ⟨g1, g2, e0, e1, e2, e3, e4⟩) (fun hHeld => ?_)
        refine wpAnyH_take (i := 0) (v := ?vvc12_1) rfl (by kernel_rfl) (by kernel_rfl) (by kernel_rfl) (fun _ _ _ h => h) (Or.inl ⟨by rfl, ?hyc12_1⟩) hHeld ?restc12_1
        case hyc12_1 => first | (intro w hSw; (try dsimp only at hSw); go_simp; done) | (intro w hSw; (try dsimp only at hSw); go_simp; with_reducible rfl)
        try simp only [Act.put, List.setIfInBounds_toArray, List.set_cons_zero, List.set_cons_succ]
        refine wpAnyH_take (i := 1) (v := ?vvc12_2) rfl (by kernel_rfl) (by kernel_rfl) (by kernel_rfl) (fun _ _ _ h => h) (Or.inl ⟨by rfl, ?hyc12_2⟩) hHeld ?restc12_2
        case hyc12_2 => first | (intro w hSw; (try dsimp only at hSw); go_simp; done) | (intro w hSw; (try dsimp only at hSw); go_simp; with_reducible rfl)
        try simp only [Act.put, List.setIfInBounds_toArray, List.set_cons_zero, List.set_cons_succ]
        refine wpAnyH_take (i := 2) (v := ?vvc12_3) rfl (by kernel_rfl) (by kernel_rfl) (by kernel_rfl) (fun _ _ _ h => h) (Or.inl ⟨by rfl, ?hyc12_3⟩) hHeld ?restc12_3
        case hyc12_3 => first | (intro w hSw; (try dsimp only at hSw); go_simp; done) | (intro w hSw; (try dsimp only at hSw); go_simp; with_reducible rfl)
        try simp only [Act.put, List.setIfInBounds_toArray, List.set_cons_zero, List.set_cons_succ]
        refine wpAnyH_take (i := 3) (v := ?vvc12_4) rfl (by kernel_rfl) (by kernel_rfl) (by kernel_rfl) (fun _ _ _ h => h) (Or.inl ⟨by rfl, ?hyc12_4⟩) hHeld ?restc12_4
        case hyc12_4 => first | (intro w hSw; (try dsimp only at hSw); go_simp; done) | (intro w hSw; (try dsimp only at hSw); go_simp; with_reducible rfl)
        try simp only [Act.put, List.setIfInBounds_toArray, List.set_cons_zero, List.set_cons_succ]
        refine wpAnyH_take (i := 4) (v := ?vvc12_5) rfl (by kernel_rfl) (by kernel_rfl) (by kernel_rfl) (fun _ _ _ h => h) (Or.inl ⟨by rfl, ?hyc12_5⟩) hHeld ?restc12_5
        case hyc12_5 => first | (intro w hSw; (try dsimp only at hSw); go_simp; done) | (intro w hSw; (try dsimp only at hSw); go_simp; with_reducible rfl)
        try simp only [Act.put, List.setIfInBounds_toArray, List.set_cons_zero, List.set_cons_succ]
        refine wpAnyH_take (i := 5) (v := ?vvc12_6) rfl (by kernel_rfl) (by kernel_rfl) (by kernel_rfl) (fun _ _ _ h => h) (Or.inl ⟨by rfl, ?hyc12_6⟩) hHeld ?restc12_6
        case hyc12_6 => first | (intro w hSw; (try dsimp only at hSw); go_simp; done) | (intro w hSw; (try dsimp only at hSw); go_simp; with_reducible rfl)
        try simp only [Act.put, List.setIfInBounds_toArray, List.set_cons_zero, List.set_cons_succ]
        refine wpAnyH_take (i := 6) (v := ?vvc12_7) rfl (by kernel_rfl) (by kernel_rfl) (by kernel_rfl) (fun _ _ _ h => h) (Or.inl ⟨by rfl, ?hyc12_7⟩) hHeld ?restc12_7
        case hyc12_7 => first | (intro w hSw; (try dsimp only at hSw); go_simp; done) | (intro w hSw; (try dsimp only at hSw); go_simp; with_reducible rfl)
        try simp only [Act.put, List.setIfInBounds_toArray, List.set_cons_zero, List.set_cons_succ]
        refine wpAnyH_take (i := 7) (v := ?vvc12_8) rfl (by kernel_rfl) (by kernel_rfl) (by kernel_rfl) (fun _ _ _ h => h) (Or.inl ⟨by rfl, ?hyc12_8⟩) hHeld ?restc12_8
        case hyc12_8 => first | (intro w hSw; (try dsimp only at hSw); go_simp; done) | (intro w hSw; (try dsimp only at hSw); go_simp; with_reducible rfl)
        try simp only [Act.put, List.setIfInBounds_toArray, List.set_cons_zero, List.set_cons_succ]
        refine wpAnyH_take (i := 8) (v := ?vvc12_9) rfl (by kernel_rfl) (by kernel_rfl) (by kernel_rfl) (fun _ _ _ h => h) (Or.inl ⟨by rfl, ?hyc12_9⟩) hHeld ?restc12_9
        case hyc12_9 => first | (intro w hSw; (try dsimp only at hSw); go_simp; done) | (intro w hSw; (try dsimp only at hSw); go_simp; with_reducible rfl)
        try simp only [Act.put, List.setIfInBounds_toArray, List.set_cons_zero, List.set_cons_succ]
        refine wpAnyH_take (i := 9) (v := ?vvc12_10) rfl (by kernel_rfl) (by kernel_rfl) (by kernel_rfl) (fun _ _ _ h => h) (Or.inl ⟨by rfl, ?hyc12_10⟩) hHeld ?restc12_10
        case hyc12_10 => first | (intro w hSw; (try dsimp only at hSw); go_simp; done) | (intro w hSw; (try dsimp only at hSw); go_simp; with_reducible rfl)
        try simp only [Act.put, List.setIfInBounds_toArray, List.set_cons_zero, List.set_cons_succ]
        refine wpAnyH_take (i := 10) (v := ?vvc12_11) rfl (by kernel_rfl) (by kernel_rfl) (by kernel_rfl) (fun _ _ _ h => h) (Or.inl ⟨by rfl, ?hyc12_11⟩) hHeld ?restc12_11
        case hyc12_11 => first | (intro w hSw; (try dsimp only at hSw); go_simp; done) | (intro w hSw; (try dsimp only at hSw); go_simp; with_reducible rfl)
        try simp only [Act.put, List.setIfInBounds_toArray, List.set_cons_zero, List.set_cons_succ]
        refine wpAnyH_take (i := 12) (v := ?vvc12_12) rfl (by kernel_rfl) (by kernel_rfl) (by kernel_rfl) (fun _ _ _ h => h) (Or.inl ⟨by rfl, ?hyc12_12⟩) hHeld ?restc12_12
        case hyc12_12 => first | (intro w hSw; (try dsimp only at hSw); go_simp; done) | (intro w hSw; (try dsimp only at hSw); go_simp; with_reducible rfl)
        try simp only [Act.put, List.setIfInBounds_toArray, List.set_cons_zero, List.set_cons_succ]
        refine wpAnyH_take (i := 13) (v := ?vvc12_13) rfl (by kernel_rfl) (by kernel_rfl) (by kernel_rfl) (fun _ _ _ h => h) (Or.inl ⟨by rfl, ?hyc12_13⟩) hHeld ?restc12_13
        case hyc12_13 => first | (intro w hSw; (try dsimp only at hSw); go_simp; done) | (intro w hSw; (try dsimp only at hSw); go_simp; with_reducible rfl)
        try simp only [Act.put, List.setIfInBounds_toArray, List.set_cons_zero, List.set_cons_succ]
        refine wpAnyH_take (i := 14) (v := ?vvc12_14) rfl (by kernel_rfl) (by kernel_rfl) (by kernel_rfl) (fun _ _ _ h => h) (Or.inl ⟨by rfl, ?hyc12_14⟩) hHeld ?restc12_14
        case hyc12_14 => first | (intro w hSw; (try dsimp only at hSw); go_simp; done) | (intro w hSw; (try dsimp only at hSw); go_simp; with_reducible rfl)
        try simp only [Act.put, List.setIfInBounds_toArray, List.set_cons_zero, List.set_cons_succ]
        refine wpAnyH_take (i := 15) (v := ?vvc12_15) rfl (by kernel_rfl) (by kernel_rfl) (by kernel_rfl) (fun _ _ _ h => h) (Or.inl ⟨by rfl, ?hyc12_15⟩) hHeld ?restc12_15
        case hyc12_15 => first | (intro w hSw; (try dsimp only at hSw); go_simp; done) | (intro w hSw; (try dsimp only at hSw); go_simp; with_reducible rfl)
        try simp only [Act.put, List.setIfInBounds_toArray, List.set_cons_zero, List.set_cons_succ]
        refine wpAnyH_take (i := 16) (v := ?vvc12_16) rfl (by kernel_rfl) (by kernel_rfl) (by kernel_rfl) (fun _ _ _ h => h) (Or.inl ⟨by rfl, ?hyc12_16⟩) hHeld ?restc12_16
        case hyc12_16 => first | (intro w hSw; (try dsimp only at hSw); go_simp; done) | (intro w hSw; (try dsimp only at hSw); go_simp; with_reducible rfl)
        try simp only [Act.put, List.setIfInBounds_toArray, List.set_cons_zero, List.set_cons_succ]
        refine wpAnyH_take (i := 17) (v := ?vvc12_17) rfl (by kernel_rfl) (by kernel_rfl) (by kernel_rfl) (fun _ _ _ h => h) (Or.inl ⟨by rfl, ?hyc12_17⟩) hHeld ?restc12_17
        case hyc12_17 => first | (intro w hSw; (try dsimp only at hSw); go_simp; done) | (intro w hSw; (try dsimp only at hSw); go_simp; with_reducible rfl)
        try simp only [Act.put, List.setIfInBounds_toArray, List.set_cons_zero, List.set_cons_succ]
        refine wpAnyH_ready (rs := [11, 18]) (by kernel_rfl) (by simp) ?_
        refine AllReadyH.cons rfl (fun K hK => ?_) (AllReadyH.cons rfl (fun K hK => ?_) AllReadyH.nil)
        · go_simp
          refine hK.out _ _ (by exact ⟨g1, g2, e0, e1, e2, e3, e4⟩) (fun hHeld => ?_)
          clear hK K
          refine wpAnyH_ready (rs := [18]) (by kernel_rfl) (by simp) ?_
          refine AllReadyH.cons rfl (fun K hK => ?_) AllReadyH.nil
          go_simp
          refine HC.out.mono ?_
          rintro e w7 ⟨rfl, hD7⟩
          obtain ⟨s1, s2, a1, a2, HE⟩ := HA.out _ hD7
          clear hD7
          refine hK.out _ _ (by exact s1) (fun hHeld => ?_)
          clear hK K
          refine wpAnyH_ready (rs := [19]) (by kernel_rfl) (by simp) ?_
          refine AllReadyH.cons rfl (fun K hK => ?_) AllReadyH.nil
          go_simp
          refine hK.out _ _ (by exact s2 _) (fun hHeld => ?_)
          clear hK K
          refine wpAnyH_ready (rs := [20]) (by kernel_rfl) (by simp) ?_
          refine AllReadyH.cons rfl (fun K hK => ?_) AllReadyH.nil
          refine step_append_lies _ rfl _ _ 107 rfl 0 72 i0 _ 1 8 Tryz.underlying107 hi0 hz0 hz1 hz2 rfl (by decide) _ tld.length _ rfl HE.out.1 ⟨w7.heap.size, 0, none⟩ 1 1 [.int .u64 (s.A.tell d)] rfl rfl (World.news_of_block (heap_alloc_new _ _)) (by simp [Value.oneCell']) (by decide) (by unfold maxLen; omega) (by omega) (Nat.zero_le _) _ rfl ?_
          intro g cap w8 hown8 hgrow8 hat8 hlt8
          obtain ⟨q1, q2, s5, s6, HQ⟩ := HE.out.2 g cap w8 hown8 hgrow8 hat8
          clear hown8 hgrow8 hat8 hlt8
          refine hK.out _ _ (by exact s5) (fun hHeld => ?_)
          clear hK K
          refine wpAnyH_take (i := 21) (v := ?vvc12_18) rfl (by kernel_rfl) (by kernel_rfl) (by kernel_rfl) (fun _ _ _ h => h) (Or.inl ⟨by rfl, ?hyc12_18⟩) hHeld ?restc12_18
          case hyc12_18 => first | (intro w hSw; (try dsimp only at hSw); go_simp; done) | (intro w hSw; (try dsimp only at hSw); go_simp; with_reducible rfl)
          try simp only [Act.put, List.setIfInBounds_toArray, List.set_cons_zero, List.set_cons_succ]
          refine wpAnyH_ready (rs := [22]) (by kernel_rfl) (by simp) ?_
          refine AllReadyH.cons rfl (fun K hK => ?_) AllReadyH.nil
          go_simp
          refine hK.out _ _ (by exact s6) (fun hHeld => ?_)
          clear hK K
          refine wpAnyH_done (by kernel_rfl) ?_ _
          go_wp2_with fail
          go_meet
          exact HQ
        · go_simp
          refine HC.out.mono ?_
          rintro e w7 ⟨rfl, hD7⟩
          obtain ⟨s1, s2, a1, a2, HE⟩ := HA.out _ hD7
          clear hD7
          refine hK.out _ _ (by exact s1) (fun hHeld => ?_)
          clear hK K
          refine wpAnyH_ready (rs := [11, 19]) (by kernel_rfl) (by simp) ?_
          refine AllReadyH.cons rfl (fun K hK => ?_) (AllReadyH.cons rfl (fun K hK => ?_) AllReadyH.nil)
          · go_simp
            refine hK.out _ _ (by exact s1) (fun hHeld => ?_)
            clear hK K
            refine wpAnyH_ready (rs := [19]) (by kernel_rfl) (by simp) ?_
            refine AllReadyH.cons rfl (fun K hK => ?_) AllReadyH.nil
            go_simp
            refine hK.out _ _ (by exact s2 _) (fun hHeld => ?_)
            clear hK K
            refine wpAnyH_ready (rs := [20]) (by kernel_rfl) (by simp) ?_
            refine AllReadyH.cons rfl (fun K hK => ?_) AllReadyH.nil
            refine step_append_lies _ rfl _ _ 107 rfl 0 72 i0 _ 1 8 Tryz.underlying107 hi0 hz0 hz1 hz2 rfl (by decide) _ tld.length _ rfl HE.out.1 ⟨w7.heap.size, 0, none⟩ 1 1 [.int .u64 (s.A.tell d)] rfl rfl (World.news_of_block (heap_alloc_new _ _)) (by simp [Value.oneCell']) (by decide) (by unfold maxLen; omega) (by omega) (Nat.zero_le _) _ rfl ?_
            intro g cap w8 hown8 hgrow8 hat8 hlt8
            obtain ⟨q1, q2, s5, s6, HQ⟩ := HE.out.2 g cap w8 hown8 hgrow8 hat8
            clear hown8 hgrow8 hat8 hlt8
            refine hK.out _ _ (by exact s5) (fun hHeld => ?_)
            clear hK K
            refine wpAnyH_take (i := 21) (v := ?vvc12_19) rfl (by kernel_rfl) (by kernel_rfl) (by kernel_rfl) (fun _ _ _ h => h) (Or.inl ⟨by rfl, ?hyc12_19⟩) hHeld ?restc12_19
            case hyc12_19 => first | (intro w hSw; (try dsimp only at hSw); go_simp; done) | (intro w hSw; (try dsimp only at hSw); go_simp; with_reducible rfl)
            try simp only [Act.put, List.setIfInBounds_toArray, List.set_cons_zero, List.set_cons_succ]
            refine wpAnyH_ready (rs := [22]) (by kernel_rfl) (by simp) ?_
            refine AllReadyH.cons rfl (fun K hK => ?_) AllReadyH.nil
            go_simp
            refine hK.out _ _ (by exact s6) (fun hHeld => ?_)
            clear hK K
            refine wpAnyH_done (by kernel_rfl) ?_ _
            go_wp2_with fail
            go_meet
            exact HQ
          · go_simp
            refine hK.out _ _ (by exact s2 _) (fun hHeld => ?_)
            clear hK K
            refine wpAnyH_ready (rs := [11]) (by kernel_rfl) (by simp) ?_
            refine AllReadyH.cons rfl (fun K hK => ?_) AllReadyH.nil
            go_simp
            refine hK.out _ _ (by exact s2 _) (fun hHeld => ?_)
            clear hK K
            refine wpAnyH_ready (rs := [20]) (by kernel_rfl) (by simp) ?_
            refine AllReadyH.cons rfl (fun K hK => ?_) AllReadyH.nil
            refine step_append_lies _ rfl _ _ 107 rfl 0 72 i0 _ 1 8 Tryz.underlying107 hi0 hz0 hz1 hz2 rfl (by decide) _ tld.length _ rfl HE.out.1 ⟨w7.heap.size, 0, none⟩ 1 1 [.int .u64 (s.A.tell d)] rfl rfl (World.news_of_block (heap_alloc_new _ _)) (by simp [Value.oneCell']) (by decide) (by unfold maxLen; omega) (by omega) (Nat.zero_le _) _ rfl ?_
            intro g cap w8 hown8 hgrow8 hat8 hlt8
            obtain ⟨q1, q2, s5, s6, HQ⟩ := HE.out.2 g cap w8 hown8 hgrow8 hat8
            clear hown8 hgrow8 hat8 hlt8
            refine hK.out _ _ (by exact s5) (fun hHeld => ?_)
            clear hK K
            refine wpAnyH_take (i := 21) (v := ?vvc12_20) rfl (by kernel_rfl) (by kernel_rfl) (by kernel_rfl) (fun _ _ _ h => h) (Or.inl ⟨by rfl, ?hyc12_20⟩) hHeld ?restc12_20
            case hyc12_20 => first | (intro w hSw; (try dsimp only at hSw); go_simp; done) | (intro w hSw; (try dsimp only at hSw); go_simp; with_reducible rfl)
            try simp only [Act.put, List.setIfInBounds_toArray, List.set_cons_zero, List.set_cons_succ]
            refine wpAnyH_ready (rs := [22]) (by kernel_rfl) (by simp) ?_
            refine AllReadyH.cons rfl (fun K hK => ?_) AllReadyH.nil
            go_simp
            refine hK.out _ _ (by exact s6) (fun hHeld => ?_)
            clear hK K
            refine wpAnyH_done (by kernel_rfl) ?_ _
            go_wp2_with fail
            go_meet
            exact HQ
        -- ]]
      case rest =>
        have HM7 := Lib.hid hcut.out
        have hml : (s.A.make t d).trace.length = s.A.trace.length + 1 := by rw [make_len]; simp [hre'.out]
        have htr := HOK.out.tr
        have hwl := HOK.out.wl
        have htr2 : s.A.trace.length ≤ 200000000 := by omega
        have hwl2 : s.wh.length ≤ 200000000 := by omega
        have HML := Lib.hid hml
        clear htr hwl hml g1 g2 g3 g4 e0 e1 e2 e3 e4 HA HC HZ6 HK6 HRX
        clear hcut
        go_upto_region 13 with fail
        go_wp2_with fail
        go_loopw [9] (fun s9 wr => ∃ k : Nat, s9 = .int .i64 ((s.A.trace.length + k : Nat) : Int) ∧ k ≤ 1 ∧ Hid (ZMid w0 w lab q rm ll.length cg ag gg pv bx p.none (.slice (some ⟨b3, o3, none⟩) p.l.length dc) (s.mid (s.A.make t d) (s.began t x) (s.wh ++ List.replicate k (s.steps : Int)) (s.tolds.set t (tld ++ [s.A.tell d]))) wr)) (fun s9 _ => s.A.trace.length + 1 - (intOf s9).toNat)
        case atStart => exact ⟨0, by simp, by omega, Lib.hid (by simpa using HM7.out)⟩
        case round =>
          obtain ⟨k, rfl, hk, HMk⟩ := hrel
          obtain ⟨labk, evk, wvk, gvsk, zk, kk, lbk, lxk, bxk, blk⟩ := HMk.out
          obtain ⟨rk, tvk, rowsk, rxk⟩ := zk.mem
          have rxk : RMx wr (fun k => labk k = 1) rm rk tvk rowsk false (s.A.make t d) := rxk
          obtain ⟨tpk, tck, ek⟩ := bk_form rxk.own
          have hrl : rowsk.length = (s.A.make t d).trace.length := rxk.len
          rw [HML.out] at hrl
          have g2 : wr.cell? ⟨q, 0, none⟩ = some (.pointer (some ⟨rm, 0, none⟩)) := zk.blk.cell 0
          have g3 : wr.cell? ⟨rm, 2, none⟩ = some (.slice tpk (s.A.trace.length + 1) tck) := by rw [← hrl, ← ek]; exact rxk.bM.cell 2
          have HZk := Lib.hid zk
          have HKk := Lib.hid (And.intro kk (And.intro lbk (And.intro lxk (And.intro bxk blk))))
          clear zk kk lbk lxk bxk blk rxk ek hrl
          by_cases hk0 : k = 0
          · subst hk0
            have t3 : decide (((s.A.trace.length + 0 : Nat) : Int) < ((s.A.trace.length + 1 : Nat) : Int)) = true := by simp; omega
            obtain ⟨wp, wc2, ew⟩ := bk_form HZk.out.who
            have hwl3 : (s.wh ++ List.replicate 0 (s.steps : Int)).length = s.wh.length := by simp
            have g6 : wr.cell? ⟨q, 6, none⟩ = some (.slice wp s.wh.length wc2) := by rw [← hwl3]; exact (HZk.out.blk.cell 6).trans (by rw [ew]; rfl)
            have hql : q < wr.heap.size := HZk.out.blk.lt
            have g6n : ∀ o', (wr.alloc o').cell? ⟨q, 6, none⟩ = some (.slice wp s.wh.length wc2) := fun o' => (World.cell?_alloc_lt wr o' _ hql).trans g6
            obtain ⟨i0, hi0, hz0, hz1, hz2⟩ := info_parts infoI
            have HOWN : Hid (∀ o', (wr.alloc o').ownsRow 0 3 1 (.slice wp s.wh.length wc2) s.wh.length (is64 s.wh)) := fun o' => by
              have := own_fr HZk.out.who ((Fr.refl (fun _ => False) wr).alloc o') (fun _ _ e => e)
              rw [ew] at this
              simpa [St.mid] using this
            have HE : Hid (∀ g cap w8, w8.ownsRow 0 3 1 (.slice (some ⟨g, 0, none⟩) (s.wh.length + 1) cap) (s.wh.length + 1) (is64 s.wh ++ [.int .i64 s.steps]) → (wr.alloc (.cells #[.int .i64 s.steps] 3)).grownBy w8 (Value.slice wp s.wh.length wc2).ownBlock → ((Value.slice wp s.wh.length wc2).ownBlock = some g ∨ g = (wr.alloc (.cells #[.int .i64 s.steps] 3)).heap.size) →
                w8.cell? ⟨q, 6, none⟩ = some (.slice wp s.wh.length wc2) ∧ w8.frozen? ⟨q, 6, none⟩ = false ∧ Hid (ZMid w0 w lab q rm ll.length cg ag gg pv bx p.none (.slice (some ⟨b3, o3, none⟩) p.l.length dc) (s.mid (s.A.make t d) (s.began t x) (s.wh ++ List.replicate 1 (s.steps : Int)) (s.tolds.set t (tld ++ [s.A.tell d]))) (w8.setCell ⟨q, 6, none⟩ (.slice (some ⟨g, 0, none⟩) (s.wh.length + 1) cap)))) := by
              intro g cap w8 hown8 hgrow8 hat8
              have hz : (s.mid (s.A.make t d) (s.began t x) (s.wh ++ List.replicate 0 (s.steps : Int)) (s.tolds.set t (tld ++ [s.A.tell d]))) = s.mid (s.A.make t d) (s.began t x) s.wh (s.tolds.set t (tld ++ [s.A.tell d])) := by simp
              have hzk := HZk.out
              rw [ew, hz] at hzk
              obtain ⟨r1, r2, lab8, z8, k8⟩ := hzk.whence (y := (s.steps : Int)) ((Fr.refl (fun _ => False) wr).alloc _) hown8 hgrow8 (hat8.imp id fun e => by rw [e]; simp)
              obtain ⟨kk, lbk, lxk, bxk, blk⟩ := HKk.out
              exact ⟨r1, r2, ZMid.next kk lbk lxk bxk blk z8 k8⟩
            clear hk HMk
            go_wp2_with (at_builtin; refine wpList_append_lies _ rfl _ _ 23 rfl 0 3 i0 _ 1 8 Tryz.underlying23 hi0 hz0 hz1 hz2 rfl (by decide) _ s.wh.length _ rfl (HOWN.out _) ⟨wr.heap.size, 0, none⟩ 1 1 [.int .i64 s.steps] rfl rfl (cell_one_new _ _ _) (by simp [Value.oneCell']) (by decide) (by unfold maxLen; omega) (by omega) (Nat.zero_le _) (wr.heap.size + 1) (by simp) ?_; intro g cap w8 hown8 hgrow8 hat8 _; obtain ⟨q1, q2, HQ⟩ := HE.out g cap w8 hown8 hgrow8 (hat8.imp id fun e => by rw [e]; simp); clear hown8 hgrow8 hat8)
            go_round
            case rel => exact ⟨1, by go_num, by omega, HQ⟩
            case measure => simp [intOf]
          · obtain rfl : k = 1 := by omega
            have t3 : decide (((s.A.trace.length + 1 : Nat) : Int) < ((s.A.trace.length + 1 : Nat) : Int)) = false := by simp
            have HMF : Hid (ZMid w0 w lab q rm ll.length cg ag gg pv bx p.none (.slice (some ⟨b3, o3, none⟩) p.l.length dc) (s.mid (s.mem t (p.act x.at_)) (s.began t x) (s.wh ++ List.replicate ((s.mem t (p.act x.at_)).trace.length - s.A.trace.length) (s.steps : Int)) (s.tolds.set t (x.got.flatten ++ s.says (p.act x.at_)))) wr) := by
              have e1 : s.mem t (p.act x.at_) = s.A.make t d := by rw [HAC.out]; rfl
              have e2 : s.says (p.act x.at_) = [s.A.tell d] := by rw [HAC.out]; exact if_pos hre'.out
              rw [e1, e2, HML.out, ← HTL.out, show s.A.trace.length + 1 - s.A.trace.length = 1 from by omega]
              exact HMk.out
            go_wp2_with fail
            refine HQ0.out _ _ _ _ _ _ _ _ _ _ _ _ _ _ _ _ _ _ _ _ _ _ _ _ _ _ _ _ _ _ _ _ _ _ _ _ _ _ _ _ _ _ _ _ _ _ _ _ _ _ _ _ _ _ _ _ _ _ _ _ _ _ _ _ _ _ _ _ _ _ _ _ _ _ _ _ _ _ _ _ _ _ _ _ _ _ _ _ _ _ _ _ _ _ _ _ _ _ _ _ _ _ _ _ _ _ _ _ _ _ _ _ _ _ _ _ _ _ _ _ _ _ _ _ _ _ _ _ _ _ _ _ _ _ _ _ _ _ _ _ _ _ _ _ _ _ _ _ _ _ _ _ _ _ _ _ _ _ _ _ _ _ _ _ _ _ _ _ _ _ _ _ _ _ _ _ _ _ _ _ _ _ _ _ _ _ _ _ _ _ _ _ _ _ _ _ _ _ _ _ _ _ _ _ _ _ _ _ ?_
            exact HMF
      -- ]]
set_option maxHeartbeats 4000000 in
set_option maxRecDepth 100000 in
theorem ZPick_C {t bx dc : Nat} {x : TS} {p : Plan} {dp : Option Addr} (cc : Code) (hcc : (cseq2 (cseq2 (cseq2 (cseq2 (cseq2 (cseq2 (cseq2 (Tryz.f7.body.getD .ret)))))))) = cc) (hn : Fits ll) (hs : s.steps ≤ 100000000) (HOK : Hid (s.Ok ll)) (HAT : Hid (s.at? ll t = some (x, p))) (HPA : Hid (PlansAt w0 pv ll)) {w9 : World} (HM8 : Hid (ZMid w0 w lab q rm ll.length cg ag gg pv bx p.none (.slice dp p.l.length dc) (s.mid (s.mem t (p.act x.at_)) (s.began t x) (s.wh ++ List.replicate ((s.mem t (p.act x.at_)).trace.length - s.A.trace.length) (s.steps : Int)) (s.tolds.set t (x.got.flatten ++ s.says (p.act x.at_)))) w9)) (u2 u3 u4 u7 u8 u9 u10 u11 u12 u13 u14 u15 u16 u17 u18 u19 u20 u21 u22 u23 u24 u25 u26 u27 u28 u29 u30 u31 u32 u33 u34 u35 u36 u37 u38 u39 u40 u41 u42 u43 u44 u45 u46 u47 u48 u49 u50 u51 u52 u53 u54 u55 u56 u57 u58 u59 u60 u61 u62 u63 u64 u65 u66 u67 u68 u69 u70 u71 u72 u73 u74 u75 u76 u77 u78 u79 u80 u81 u82 u83 u84 u85 u86 u87 u88 u89 u90 u91 u92 u93 u94 u95 u96 u97 u98 u99 u100 u101 u102 u103 u104 u105 u106 u107 u108 u109 u110 u111 u112 u113 u114 u115 u116 u117 u118 u119 u120 u121 u122 u123 u124 u125 u126 u127 u128 u129 u130 u131 u132 u133 u134 u135 u136 u137 u138 u139 u140 u141 u142 u143 u144 u145 u146 u147 u148 u149 u150 u151 u152 u153 u154 u155 u156 u157 u158 u159 u160 u161 u162 u163 u164 u165 u166 u167 u168 u169 u170 u171 u172 u173 u174 u175 u176 u177 u178 u179 u180 u181 u182 u183 u184 u185 u186 u187 u188 u189 u190 u191 u192 u193 u194 u195 u196 u197 u198 u199 u200 u201 u202 u203 u204 u205 u206 u207 u208 u209 u210 u211 u212 u213 : Value) :
    cc.wp Tryz.prog (bodyPost Tryz.prog Tryz.f7 fun e w' => e = .returned (.bool true) ∧ ∃ lab', ZR w0 w' lab' q rm ll (s.go t x p) ∧ Zk w w' lab lab') { tmps := ((.pointer (some ⟨q, 0, none⟩) : Value) :: (.int .i64 (t : Int) : Value) :: u2 :: u3 :: u4 :: (.int .i64 s.steps : Value) :: (.pointer (some ⟨bx, 0, none⟩) : Value) :: u7 :: u8 :: u9 :: u10 :: u11 :: u12 :: u13 :: u14 :: u15 :: u16 :: u17 :: u18 :: u19 :: u20 :: u21 :: u22 :: u23 :: u24 :: u25 :: u26 :: u27 :: u28 :: u29 :: u30 :: u31 :: u32 :: u33 :: u34 :: u35 :: u36 :: u37 :: u38 :: u39 :: u40 :: u41 :: u42 :: u43 :: u44 :: u45 :: u46 :: u47 :: u48 :: u49 :: u50 :: u51 :: u52 :: u53 :: u54 :: u55 :: u56 :: u57 :: u58 :: u59 :: u60 :: u61 :: u62 :: u63 :: u64 :: u65 :: u66 :: u67 :: u68 :: u69 :: u70 :: u71 :: u72 :: u73 :: u74 :: u75 :: u76 :: u77 :: u78 :: u79 :: u80 :: u81 :: u82 :: u83 :: u84 :: u85 :: u86 :: u87 :: u88 :: u89 :: u90 :: u91 :: u92 :: u93 :: u94 :: u95 :: u96 :: u97 :: u98 :: u99 :: u100 :: u101 :: u102 :: u103 :: u104 :: u105 :: u106 :: u107 :: u108 :: u109 :: u110 :: u111 :: u112 :: u113 :: u114 :: u115 :: u116 :: u117 :: u118 :: u119 :: u120 :: u121 :: u122 :: u123 :: u124 :: u125 :: u126 :: u127 :: u128 :: u129 :: u130 :: u131 :: u132 :: u133 :: u134 :: u135 :: u136 :: u137 :: u138 :: u139 :: u140 :: u141 :: u142 :: u143 :: u144 :: u145 :: u146 :: u147 :: u148 :: u149 :: u150 :: u151 :: u152 :: u153 :: u154 :: u155 :: u156 :: u157 :: u158 :: u159 :: u160 :: u161 :: u162 :: u163 :: u164 :: u165 :: u166 :: u167 :: u168 :: u169 :: u170 :: u171 :: u172 :: u173 :: u174 :: u175 :: u176 :: u177 :: u178 :: u179 :: u180 :: u181 :: u182 :: u183 :: u184 :: u185 :: u186 :: u187 :: u188 :: u189 :: u190 :: u191 :: u192 :: u193 :: u194 :: u195 :: u196 :: u197 :: u198 :: u199 :: u200 :: u201 :: u202 :: u203 :: u204 :: u205 :: u206 :: u207 :: u208 :: u209 :: u210 :: u211 :: u212 :: u213 :: []).toArray, defers := [] } w9 := by
  obtain ⟨hxt, l, hl, hp⟩ := at_some HAT.out
  have htl := (List.getElem?_eq_some_iff.1 hl).1
  have hcl := (List.getElem?_eq_some_iff.1 hp).1
  have HL := Lib.hid hl
  have HPL := Lib.hid hp
  have HX := Lib.hid hxt
  have hn1 := hn.n
  have hn2 := hn.l l (List.mem_of_getElem? hl)
  clear hp hl hxt
  have i0 : (0 : Int) ≤ (t : Int) := by omega
  have i1 : (t : Int) < (ll.length : Int) := by omega
  have i2 : (0 : Int) ≤ (x.call : Int) := by omega
  have i3 : (x.call : Int) < (l.length : Int) := by omega
  have el : s.evs.length ≤ 1000000000 := by have := HOK.out.el; omega
  have hal : x.at_ ≠ 0 → p.none = false ∧ x.at_ < p.l.length := (HOK.out.th t x l HX.out HL.out).at_ p HPL.out
  have hact : (p.act x.at_).isSome = (!p.none && decide (x.at_ < p.l.length)) := by
    unfold Plan.act
    cases p.none
    · by_cases hq : x.at_ < p.l.length
      · simp [hq]
      · simp [hq]
    · simp
  unfold Tryz.f7 at hcc
  dsimp only [cseq1, cseq2, Option.getD_some] at hcc
  subst hcc
  try dsimp only
  obtain ⟨lab9, ev9, wv9, gvs9, z9, k9, lb9, lx9, bx9, bl9⟩ := HM8.out
  have g1 : w9.cell? ⟨q, 3, none⟩ = some (.slice (some ⟨ag, 0, none⟩) ll.length ll.length) := z9.blk.cell 3
  have g2 : w9.cell? ⟨ag, t, none⟩ = some (.int .i64 x.at_) := z9.acell (by simp [St.mid, HX.out])
  have f2 : w9.frozen? ⟨ag, t, none⟩ = false := z9.aB.cold t
  have HW9 : Hid (ZMid w0 w lab q rm ll.length cg ag gg pv bx p.none (.slice dp p.l.length dc) (s.zq t x p (s.th.map (·.call)) ((s.th.map (·.at_)).set t (x.at_ + 1)) (s.began t x)) (w9.setCell ⟨ag, t, none⟩ (.int .i64 ((x.at_ : Int) + 1)))) := by
    obtain ⟨z10, k10⟩ := z9.step t (x.at_ + 1)
    exact ZMid.next k9 lb9 lx9 bx9 bl9 z10 k10
  have hatb : x.at_ ≤ 1048576 := by
    by_cases h0 : x.at_ = 0
    · omega
    · have := (hal h0).2
      have := (hn.p l (List.mem_of_getElem? HL.out) p (List.mem_of_getElem? HPL.out)).1
      omega
  clear z9 k9 lb9 lx9 bx9 bl9 hact hal
  go_upto_region 18 with fail
  clear g1 g2 f2 hatb
  generalize w9.setCell ⟨ag, t, none⟩ (.int .i64 ((x.at_ : Int) + 1)) = w10 at *
  obtain ⟨lab10, ev10, wv10, gvs10, z10, k10, lb10, lx10, bx10, bl10⟩ := HW9.out
  have g1 : w10.cell? ⟨q, 3, none⟩ = some (.slice (some ⟨ag, 0, none⟩) ll.length ll.length) := z10.blk.cell 3
  have hath : (s.th.map (·.at_))[t]? = some x.at_ := by simp [HX.out]
  have g2 : w10.cell? ⟨ag, t, none⟩ = some (.int .i64 ((x.at_ : Int) + 1)) := z10.acell (m := x.at_ + 1) (by show ((s.th.map (·.at_)).set t (x.at_ + 1))[t]? = _; rw [List.getElem?_set_self (List.getElem?_eq_some_iff.1 hath).1])
  have g3 : w10.cell? ⟨bx, 0, none⟩ = some (.bool p.none) := bx10.cell 0
  have g4 : w10.cell? ⟨bx, 1, none⟩ = some (.slice dp p.l.length dc) := bx10.cell 1
  clear z10 k10 lb10 lx10 bx10 bl10 HM8 hath
  go_cut [179] (fun s179 wx => s179 = .bool (p.dn x.at_) ∧ Hid (ZMid w0 w lab q rm ll.length cg ag gg pv bx p.none (.slice dp p.l.length dc) (s.zq t x p (s.th.map (·.call)) ((s.th.map (·.at_)).set t (x.at_ + 1)) (s.began t x)) wx))
  case first =>
    -- [[
    cases hpn : p.none
    · have t1 : decide ((p.l.length : Int) ≤ (x.at_ : Int) + 1) = p.dn x.at_ := by
        unfold Plan.dn
        rw [hpn, Bool.false_or]
        by_cases hq : p.l.length ≤ x.at_ + 1
        · simp [hq]; omega
        · simp [hq]; omega
      rw [hpn] at g3
      go_wp2_with fail
      go_quiet (fail)
      go_wp2_with fail
      go_meet
      have h9 := HW9.out.drawn nq
      exact ⟨rfl, by first | exact h9 | (rw [← hpn] at h9; exact h9) | (rw [hpn]; exact h9)⟩
    · have hd : p.dn x.at_ = true := by unfold Plan.dn; rw [hpn]; rfl
      rw [hpn] at g3
      go_wp2_with fail
      go_quiet (fail)
      go_wp2_with fail
      go_meet
      have h9 := HW9.out.drawn nq
      exact ⟨by rw [hd], by first | exact h9 | (rw [← hpn] at h9; exact h9) | (rw [hpn]; exact h9)⟩
    -- ]]
  case rest =>
    obtain ⟨rfl, HMA⟩ := hcut
    clear HW9 g1 g2 g3 g4
    generalize wc = wa at *
    have HFIN : Hid (∀ wx, ZMid w0 w lab q rm ll.length cg ag gg pv bx p.none (.slice dp p.l.length dc) (s.go t x p).z wx → ∃ lab', ZR w0 wx lab' q rm ll (s.go t x p) ∧ Zk w wx lab lab') := by
      rintro wx ⟨labz, evz, wvz, gvsz, zz, kz, lbz, -, -, blz⟩
      exact ⟨labz, ⟨⟨_, cg, ag, gg, evz, wvz, gvsz, zz, HPA.out⟩, blz, HOK.out.go HAT.out hs, lbz⟩, kz⟩
    have HGZ := Lib.hid (go_z HOK.out HAT.out)
    cases hdn : p.dn x.at_
    · rw [hdn] at HGZ
      simp only [Bool.false_eq_true, if_false] at HGZ
      have HGO : Hid (ZMid w0 w lab q rm ll.length cg ag gg pv bx p.none (.slice dp p.l.length dc) (s.go t x p).z wa) := by
        rw [HGZ.out, set_same (by simp [HX.out])]
        exact HMA.out
      go_wp2_with fail
      go_ret
      exact ⟨rfl, HFIN.out _ HGO.out⟩
    · rw [hdn] at HGZ
      simp only [if_true] at HGZ
      obtain ⟨laba, eva, wva, gvsa, za, ka, lba, lxa, bxa, bla⟩ := HMA.out
      obtain ⟨ep, ec, e5⟩ := bk_form za.evo
      have g3 : wa.cell? ⟨q, 2, none⟩ = some (.slice (some ⟨cg, 0, none⟩) ll.length ll.length) := za.blk.cell 2
      have g4 : wa.cell? ⟨cg, t, none⟩ = some (.int .i64 x.call) := za.ccell (by simp [St.zq, HX.out])
      have g5 : wa.cell? ⟨q, 5, none⟩ = some (.slice ep (s.began t x).length ec) := by rw [show (s.began t x).length = ((s.zq t x p (s.th.map (·.call)) ((s.th.map (·.at_)).set t (x.at_ + 1)) (s.began t x)) : Zs).evs.length from rfl, ← e5]; exact za.blk.cell 5
      subst e5
      have HZ3 := Lib.hid za
      have HK3 := Lib.hid (And.intro ka (And.intro lba (And.intro lxa (And.intro bxa bla))))
      clear za ka lba lxa bxa bla
      obtain ⟨i0', hi0, hz0, hz1, hz2⟩ := info_parts infoEv
      have hql : q < wa.heap.size := HZ3.out.blk.lt
      have hcl3 : cg < wa.heap.size := HZ3.out.cB.lt
      have hqc : q ≠ cg := fun e => Blk.ne HZ3.out.blk (e ▸ HZ3.out.cB) (by decide) rfl
      have hel : (s.began t x).length ≤ 1000000001 := by
        unfold St.began
        split
        · simp; omega
        · omega
      have HN : Hid (∀ o', (wa.drew.alloc o').cell? ⟨q, 2, none⟩ = some (.slice (some ⟨cg, 0, none⟩) ll.length ll.length) ∧ (wa.drew.alloc o').cell? ⟨cg, t, none⟩ = some (.int .i64 x.call)) := fun o' => ⟨(World.cell?_alloc_lt wa.drew o' _ hql).trans g3, (World.cell?_alloc_lt wa.drew o' _ hcl3).trans g4⟩
      have g5n : ∀ o', (wa.drew.alloc o').cell? ⟨q, 5, none⟩ = some (.slice ep (s.began t x).length ec) := fun o' => (World.cell?_alloc_lt wa.drew o' _ hql).trans g5
      have HOWN : Hid (∀ o', (wa.drew.alloc o').ownsRow 0 97 4 (.slice ep (s.began t x).length ec) (s.began t x).length ((s.began t x).flatMap evC)) := fun o' => own_fr HZ3.out.evo (((Fr.refl (fun _ => False) wa).drawn 1).alloc o') (fun _ _ e => e)
      have HE : Hid (∀ g cap w5, w5.ownsRow 0 97 4 (.slice (some ⟨g, 0, none⟩) ((s.began t x).length + 1) cap) ((s.began t x).length + 1) ((s.began t x).flatMap evC ++ [.int .i64 s.steps, .int .i64 t, .int .i64 x.call, .bool true]) → (wa.drew.alloc (.cells #[.int .i64 s.steps, .int .i64 t, .int .i64 x.call, .bool true] 97)).grownBy w5 (Value.slice ep (s.began t x).length ec).ownBlock → ((Value.slice ep (s.began t x).length ec).ownBlock = some g ∨ g = (wa.drew.alloc (.cells #[.int .i64 s.steps, .int .i64 t, .int .i64 x.call, .bool true] 97)).heap.size) →
          w5.cell? ⟨q, 5, none⟩ = some (.slice ep (s.began t x).length ec) ∧ w5.frozen? ⟨q, 5, none⟩ = false ∧ Hid (w5.cell? ⟨q, 2, none⟩ = some (.slice (some ⟨cg, 0, none⟩) ll.length ll.length) ∧ w5.cell? ⟨cg, t, none⟩ = some (.int .i64 x.call)) ∧
          Hid (∀ u, (w5.setCell ⟨q, 5, none⟩ u).cell? ⟨q, 2, none⟩ = some (.slice (some ⟨cg, 0, none⟩) ll.length ll.length) ∧ (w5.setCell ⟨q, 5, none⟩ u).cell? ⟨cg, t, none⟩ = some (.int .i64 x.call)) ∧
          Hid (ZMid w0 w lab q rm ll.length cg ag gg pv bx p.none (.slice dp p.l.length dc) (s.zq t x p (s.th.map (·.call)) ((s.th.map (·.at_)).set t (x.at_ + 1)) (s.began t x ++ [⟨s.steps, t, x.call, true⟩])) (w5.setCell ⟨q, 5, none⟩ (.slice (some ⟨g, 0, none⟩) ((s.began t x).length + 1) cap)))) := by
        intro g cap w5 hown5 hgrow5 hat5
        obtain ⟨r1, r2, r3, lab5, r4, r5⟩ := HZ3.out.event (y := ⟨s.steps, t, x.call, true⟩) (((Fr.refl (fun _ => False) wa).drawn 1).alloc _) hown5 hgrow5 (hat5.imp id fun e => by rw [e]; show _ ≤ (wa.alloc _).heap.size; simp)
        obtain ⟨k3, lb3, lx3, bx3, bl3⟩ := HK3.out
        have a1 : w5.cell? ⟨q, 2, none⟩ = some (.slice (some ⟨cg, 0, none⟩) ll.length ll.length) := (r3 q 2 (.inr HZ3.out.lq) hql).trans g3
        have a2 : w5.cell? ⟨cg, t, none⟩ = some (.int .i64 x.call) := (r3 cg t (.inl HZ3.out.lc) hcl3).trans g4
        refine ⟨r1, r2, ⟨a1, a2⟩, fun u => ⟨(World.cell?_setCell_other _ _ _ _ (by intro e; injection e with _ e; omega)).trans a1, (World.cell?_setCell_other _ _ _ _ (by intro e; injection e with e _; exact hqc e)).trans a2⟩, ?_⟩
        exact ZMid.next k3 lb3 lx3 bx3 bl3 r4 r5
      go_upto_region 19 with fail
      go_cut [] (fun wx => Hid (ZMid w0 w lab q rm ll.length cg ag gg pv bx p.none (.slice dp p.l.length dc) (s.zq t x p (s.th.map (·.call)) ((s.th.map (·.at_)).set t (x.at_ + 1)) (s.began t x ++ [⟨s.steps, t, x.call, true⟩])) wx))
      case first =>
        -- [[
        generalize (s.began t x).length = bgl at *
        generalize (s.began t x).flatMap evC = bgf at *
        refine wp_region_held_drew (S := (fun w' => w'.cell? ⟨q, 2, none⟩ = some (.slice (some ⟨cg, 0, none⟩) ll.length ll.length) ∧ w'.cell? ⟨cg, t, none⟩ = some (.int .i64 x.call))) (by kernel_rfl) (by exact ⟨g3, g4⟩) (fun hHeld => ?_)
        refine wpAnyH_take (i := 0) (v := ?vve19_1) rfl (by kernel_rfl) (by kernel_rfl) (by kernel_rfl) (fun _ _ _ h => h) (Or.inl ⟨by rfl, ?hye19_1⟩) hHeld ?reste19_1
        case hye19_1 => first | (intro w hSw; (try dsimp only at hSw); go_simp; done) | (intro w hSw; (try dsimp only at hSw); go_simp; with_reducible rfl)
        try simp only [Act.put, List.setIfInBounds_toArray, List.set_cons_zero, List.set_cons_succ]
        refine wpAnyH_take (i := 1) (v := ?vve19_2) rfl (by kernel_rfl) (by kernel_rfl) (by kernel_rfl) (fun _ _ _ h => h) (Or.inl ⟨by rfl, ?hye19_2⟩) hHeld ?reste19_2
        case hye19_2 => first | (intro w hSw; (try dsimp only at hSw); go_simp; done) | (intro w hSw; (try dsimp only at hSw); go_simp; with_reducible rfl)
        try simp only [Act.put, List.setIfInBounds_toArray, List.set_cons_zero, List.set_cons_succ]
        refine wpAnyH_take (i := 2) (v := ?vve19_3) rfl (by kernel_rfl) (by kernel_rfl) (by kernel_rfl) (fun _ _ _ h => h) (Or.inl ⟨by rfl, ?hye19_3⟩) hHeld ?reste19_3
        case hye19_3 => first | (intro w hSw; (try dsimp only at hSw); go_simp; done) | (intro w hSw; (try dsimp only at hSw); go_simp; with_reducible rfl)
        try simp only [Act.put, List.setIfInBounds_toArray, List.set_cons_zero, List.set_cons_succ]
        refine wpAnyH_take (i := 3) (v := ?vve19_4) rfl (by kernel_rfl) (by kernel_rfl) (by kernel_rfl) (fun _ _ _ h => h) (Or.inl ⟨by rfl, ?hye19_4⟩) hHeld ?reste19_4
        case hye19_4 => first | (intro w hSw; (try dsimp only at hSw); go_simp; done) | (intro w hSw; (try dsimp only at hSw); go_simp; with_reducible rfl)
        try simp only [Act.put, List.setIfInBounds_toArray, List.set_cons_zero, List.set_cons_succ]
        refine wpAnyH_take (i := 5) (v := ?vve19_5) rfl (by kernel_rfl) (by kernel_rfl) (by kernel_rfl) (fun _ _ _ h => h) (Or.inl ⟨by rfl, ?hye19_5⟩) hHeld ?reste19_5
        case hye19_5 => first | (intro w hSw; (try dsimp only at hSw); go_simp; done) | (intro w hSw; (try dsimp only at hSw); go_simp; with_reducible rfl)
        try simp only [Act.put, List.setIfInBounds_toArray, List.set_cons_zero, List.set_cons_succ]
        refine wpAnyH_take (i := 6) (v := ?vve19_6) rfl (by kernel_rfl) (by kernel_rfl) (by kernel_rfl) (fun _ _ _ h => h) (Or.inl ⟨by rfl, ?hye19_6⟩) hHeld ?reste19_6
        case hye19_6 => first | (intro w hSw; (try dsimp only at hSw); go_simp; done) | (intro w hSw; (try dsimp only at hSw); go_simp; with_reducible rfl)
        try simp only [Act.put, List.setIfInBounds_toArray, List.set_cons_zero, List.set_cons_succ]
        refine wpAnyH_take (i := 7) (v := ?vve19_7) rfl (by kernel_rfl) (by kernel_rfl) (by kernel_rfl) (fun _ _ _ h => h) (Or.inl ⟨by rfl, ?hye19_7⟩) hHeld ?reste19_7
        case hye19_7 => first | (intro w hSw; (try dsimp only at hSw); go_simp; done) | (intro w hSw; (try dsimp only at hSw); go_simp; with_reducible rfl)
        try simp only [Act.put, List.setIfInBounds_toArray, List.set_cons_zero, List.set_cons_succ]
        refine wpAnyH_take (i := 8) (v := ?vve19_8) rfl (by kernel_rfl) (by kernel_rfl) (by kernel_rfl) (fun _ _ _ h => h) (Or.inl ⟨by rfl, ?hye19_8⟩) hHeld ?reste19_8
        case hye19_8 => first | (intro w hSw; (try dsimp only at hSw); go_simp; done) | (intro w hSw; (try dsimp only at hSw); go_simp; with_reducible rfl)
        try simp only [Act.put, List.setIfInBounds_toArray, List.set_cons_zero, List.set_cons_succ]
        refine wpAnyH_take (i := 9) (v := ?vve19_9) rfl (by kernel_rfl) (by kernel_rfl) (by kernel_rfl) (fun _ _ _ h => h) (Or.inl ⟨by rfl, ?hye19_9⟩) hHeld ?reste19_9
        case hye19_9 => first | (intro w hSw; (try dsimp only at hSw); go_simp; done) | (intro w hSw; (try dsimp only at hSw); go_simp; with_reducible rfl)
        try simp only [Act.put, List.setIfInBounds_toArray, List.set_cons_zero, List.set_cons_succ]
        refine wpAnyH_take (i := 10) (v := ?vve19_10) rfl (by kernel_rfl) (by kernel_rfl) (by kernel_rfl) (fun _ _ _ h => h) (Or.inl ⟨by rfl, ?hye19_10⟩) hHeld ?reste19_10
        case hye19_10 => first | (intro w hSw; (try dsimp only at hSw); go_simp; done) | (intro w hSw; (try dsimp only at hSw); go_simp; with_reducible rfl)
        try simp only [Act.put, List.setIfInBounds_toArray, List.set_cons_zero, List.set_cons_succ]
        refine wpAnyH_take (i := 11) (v := ?vve19_11) rfl (by kernel_rfl) (by kernel_rfl) (by kernel_rfl) (fun _ _ _ h => h) (Or.inl ⟨by rfl, ?hye19_11⟩) hHeld ?reste19_11
        case hye19_11 => first | (intro w hSw; (try dsimp only at hSw); go_simp; done) | (intro w hSw; (try dsimp only at hSw); go_simp; with_reducible rfl)
        try simp only [Act.put, List.setIfInBounds_toArray, List.set_cons_zero, List.set_cons_succ]
        refine wpAnyH_take (i := 12) (v := ?vve19_12) rfl (by kernel_rfl) (by kernel_rfl) (by kernel_rfl) (fun _ _ _ h => h) (Or.inl ⟨by rfl, ?hye19_12⟩) hHeld ?reste19_12
        case hye19_12 => first | (intro w hSw; (try dsimp only at hSw); go_simp; done) | (intro w hSw; (try dsimp only at hSw); go_simp; with_reducible rfl)
        try simp only [Act.put, List.setIfInBounds_toArray, List.set_cons_zero, List.set_cons_succ]
        refine wpAnyH_take (i := 13) (v := ?vve19_13) rfl (by kernel_rfl) (by kernel_rfl) (by kernel_rfl) (fun _ _ _ h => h) (Or.inl ⟨by rfl, ?hye19_13⟩) hHeld ?reste19_13
        case hye19_13 => first | (intro w hSw; (try dsimp only at hSw); go_simp; done) | (intro w hSw; (try dsimp only at hSw); go_simp; with_reducible rfl)
        try simp only [Act.put, List.setIfInBounds_toArray, List.set_cons_zero, List.set_cons_succ]
        refine wpAnyH_take (i := 14) (v := ?vve19_14) rfl (by kernel_rfl) (by kernel_rfl) (by kernel_rfl) (fun _ _ _ h => h) (Or.inl ⟨by rfl, ?hye19_14⟩) hHeld ?reste19_14
        case hye19_14 => first | (intro w hSw; (try dsimp only at hSw); go_simp; done) | (intro w hSw; (try dsimp only at hSw); go_simp; with_reducible rfl)
        try simp only [Act.put, List.setIfInBounds_toArray, List.set_cons_zero, List.set_cons_succ]
        refine wpAnyH_ready (rs := [4, 15]) (by kernel_rfl) (by simp) ?_
        refine AllReadyH.cons rfl (fun K hK => ?_) (AllReadyH.cons rfl (fun K hK => ?_) AllReadyH.nil)
        · go_simp
          refine hK.out _ _ (by exact ⟨g3, g4⟩) (fun hHeld => ?_)
          clear hK K
          refine wpAnyH_ready (rs := [15]) (by kernel_rfl) (by simp) ?_
          refine AllReadyH.cons rfl (fun K hK => ?_) AllReadyH.nil
          go_simp
          refine hK.out _ _ (HN.out _) (fun hHeld => ?_)
          clear hK K
          refine wpAnyH_ready (rs := [16]) (by kernel_rfl) (by simp) ?_
          refine AllReadyH.cons rfl (fun K hK => ?_) AllReadyH.nil
          refine step_append_lies _ rfl _ _ 59 rfl 0 97 i0' _ 4 32 Tryz.underlying59 hi0 hz0 hz1 hz2 rfl (by decide) _ bgl _ rfl (HOWN.out _) ⟨wa.heap.size, 0, none⟩ 1 1 [.int .i64 s.steps, .int .i64 t, .int .i64 x.call, .bool true] rfl rfl (World.news_of_block (heap_alloc_new _ _)) (by simp [Value.oneCell']) (by decide) (by unfold maxLen; omega) (by omega) (Nat.zero_le _) _ rfl ?_
          intro g cap w5 hown5 hgrow5 hat5 hlt5
          obtain ⟨q1, q2, q3, q4, HQ⟩ := HE.out g cap w5 hown5 hgrow5 hat5
          clear hown5 hgrow5 hat5 hlt5
          refine hK.out _ _ (q3.out) (fun hHeld => ?_)
          clear hK K
          refine wpAnyH_take (i := 17) (v := ?vve19_15) rfl (by kernel_rfl) (by kernel_rfl) (by kernel_rfl) (fun _ _ _ h => h) (Or.inl ⟨by rfl, ?hye19_15⟩) hHeld ?reste19_15
          case hye19_15 => first | (intro w hSw; (try dsimp only at hSw); go_simp; done) | (intro w hSw; (try dsimp only at hSw); go_simp; with_reducible rfl)
          try simp only [Act.put, List.setIfInBounds_toArray, List.set_cons_zero, List.set_cons_succ]
          refine wpAnyH_take (i := 18) (v := ?vve19_16) rfl (by kernel_rfl) (by kernel_rfl) (by kernel_rfl) (fun _ _ _ h => h) (Or.inl ⟨by rfl, ?hye19_16⟩) hHeld ?reste19_16
          case hye19_16 => first | (intro w hSw; (try dsimp only at hSw); go_simp; done) | (intro w hSw; (try dsimp only at hSw); go_simp; with_reducible rfl)
          try simp only [Act.put, List.setIfInBounds_toArray, List.set_cons_zero, List.set_cons_succ]
          refine wpAnyH_ready (rs := [19]) (by kernel_rfl) (by simp) ?_
          refine AllReadyH.cons rfl (fun K hK => ?_) AllReadyH.nil
          go_simp
          refine hK.out _ _ (q4.out _) (fun hHeld => ?_)
          clear hK K
          refine wpAnyH_done (by kernel_rfl) ?_ _
          go_wp2_with fail
          go_meet
          exact HQ
        · go_simp
          refine hK.out _ _ (HN.out _) (fun hHeld => ?_)
          clear hK K
          refine wpAnyH_ready (rs := [4]) (by kernel_rfl) (by simp) ?_
          refine AllReadyH.cons rfl (fun K hK => ?_) AllReadyH.nil
          go_simp
          refine hK.out _ _ (HN.out _) (fun hHeld => ?_)
          clear hK K
          refine wpAnyH_ready (rs := [16]) (by kernel_rfl) (by simp) ?_
          refine AllReadyH.cons rfl (fun K hK => ?_) AllReadyH.nil
          refine step_append_lies _ rfl _ _ 59 rfl 0 97 i0' _ 4 32 Tryz.underlying59 hi0 hz0 hz1 hz2 rfl (by decide) _ bgl _ rfl (HOWN.out _) ⟨wa.heap.size, 0, none⟩ 1 1 [.int .i64 s.steps, .int .i64 t, .int .i64 x.call, .bool true] rfl rfl (World.news_of_block (heap_alloc_new _ _)) (by simp [Value.oneCell']) (by decide) (by unfold maxLen; omega) (by omega) (Nat.zero_le _) _ rfl ?_
          intro g cap w5 hown5 hgrow5 hat5 hlt5
          obtain ⟨q1, q2, q3, q4, HQ⟩ := HE.out g cap w5 hown5 hgrow5 hat5
          clear hown5 hgrow5 hat5 hlt5
          refine hK.out _ _ (q3.out) (fun hHeld => ?_)
          clear hK K
          refine wpAnyH_take (i := 17) (v := ?vve19_17) rfl (by kernel_rfl) (by kernel_rfl) (by kernel_rfl) (fun _ _ _ h => h) (Or.inl ⟨by rfl, ?hye19_17⟩) hHeld ?reste19_17
          case hye19_17 => first | (intro w hSw; (try dsimp only at hSw); go_simp; done) | (intro w hSw; (try dsimp only at hSw); go_simp; with_reducible rfl)
          try simp only [Act.put, List.setIfInBounds_toArray, List.set_cons_zero, List.set_cons_succ]
          refine wpAnyH_take (i := 18) (v := ?vve19_18) rfl (by kernel_rfl) (by kernel_rfl) (by kernel_rfl) (fun _ _ _ h => h) (Or.inl ⟨by rfl, ?hye19_18⟩) hHeld ?reste19_18
          case hye19_18 => first | (intro w hSw; (try dsimp only at hSw); go_simp; done) | (intro w hSw; (try dsimp only at hSw); go_simp; with_reducible rfl)
          try simp only [Act.put, List.setIfInBounds_toArray, List.set_cons_zero, List.set_cons_succ]
          refine wpAnyH_ready (rs := [19]) (by kernel_rfl) (by simp) ?_
          refine AllReadyH.cons rfl (fun K hK => ?_) AllReadyH.nil
          go_simp
          refine hK.out _ _ (q4.out _) (fun hHeld => ?_)
          clear hK K
          refine wpAnyH_done (by kernel_rfl) ?_ _
          go_wp2_with fail
          go_meet
          exact HQ
        -- ]]
      case rest =>
        have HMB := Lib.hid hcut.out
        clear hcut HZ3 HK3 HN HOWN HE g3 g4 g5 g5n hql hcl3 hqc HMA
        generalize wc = wb at *
        obtain ⟨labb, evb, wvb, gvsb, zb, kb, lbb, lxb, bxb, blb⟩ := HMB.out
        have g1 : wb.cell? ⟨q, 2, none⟩ = some (.slice (some ⟨cg, 0, none⟩) ll.length ll.length) := zb.blk.cell 2
        have g2 : wb.cell? ⟨cg, t, none⟩ = some (.int .i64 x.call) := zb.ccell (by simp [St.zq, HX.out])
        have f2 : wb.frozen? ⟨cg, t, none⟩ = false := zb.cB.cold t
        have HMC : Hid (ZMid w0 w lab q rm ll.length cg ag gg pv bx p.none (.slice dp p.l.length dc) (s.zq t x p ((s.th.map (·.call)).set t (x.call + 1)) ((s.th.map (·.at_)).set t (x.at_ + 1)) (s.began t x ++ [⟨s.steps, t, x.call, true⟩])) (wb.setCell ⟨cg, t, none⟩ (.int .i64 ((x.call : Int) + 1)))) := by
          obtain ⟨zc, kc⟩ := zb.call t (x.call + 1)
          exact ZMid.next kb lbb lxb bxb blb zc kc
        clear zb kb lbb lxb bxb blb
        go_upto_region 21 with fail
        clear g1 g2 f2
        generalize wb.setCell ⟨cg, t, none⟩ (.int .i64 ((x.call : Int) + 1)) = wd at *
        obtain ⟨labd, evd, wvd, gvsd, zd, kd, lbd, lxd, bxd, bld⟩ := HMC.out
        have g1 : wd.cell? ⟨q, 3, none⟩ = some (.slice (some ⟨ag, 0, none⟩) ll.length ll.length) := zd.blk.cell 3
        have hath : (s.th.map (·.at_))[t]? = some x.at_ := by simp [HX.out]
        have g2 : wd.cell? ⟨ag, t, none⟩ = some (.int .i64 ((x.at_ + 1 : Nat) : Int)) := zd.acell (m := x.at_ + 1) (by show ((s.th.map (·.at_)).set t (x.at_ + 1))[t]? = _; rw [List.getElem?_set_self (List.getElem?_eq_some_iff.1 hath).1])
        have f2 : wd.frozen? ⟨ag, t, none⟩ = false := zd.aB.cold t
        have HMD : Hid (ZMid w0 w lab q rm ll.length cg ag gg pv bx p.none (.slice dp p.l.length dc) (s.go t x p).z (wd.setCell ⟨ag, t, none⟩ (.int .i64 0))) := by
          obtain ⟨ze, ke⟩ := zd.step t 0
          rw [HGZ.out]
          have hz : ({ s.zq t x p ((s.th.map (·.call)).set t (x.call + 1)) ((s.th.map (·.at_)).set t (x.at_ + 1)) (s.began t x ++ [⟨s.steps, t, x.call, true⟩]) with ats := ((s.th.map (·.at_)).set t (x.at_ + 1)).set t 0 } : Zs) = s.zq t x p ((s.th.map (·.call)).set t (x.call + 1)) ((s.th.map (·.at_)).set t 0) (s.began t x ++ [⟨s.steps, t, x.call, true⟩]) := by
            rw [List.set_set]; rfl
          have ze' := hz ▸ ze
          exact ZMid.next kd lbd lxd bxd bld ze' ke
        clear zd kd lbd lxd bxd bld hath HMC
        go_wp2_with fail
        go_ret
        exact ⟨rfl, HFIN.out _ HMD.out⟩
set_option maxHeartbeats 4000000 in
set_option maxRecDepth 100000 in
theorem ZPick_B {t bx dc : Nat} {x : TS} {p : Plan} {dp : Option Addr} (cc : Code) (hcc : (cseq2 (cseq2 (cseq2 (cseq2 (cseq2 (cseq2 (Tryz.f7.body.getD .ret))))))) = cc) (hn : Fits ll) (hs : s.steps ≤ 100000000) (HOK : Hid (s.Ok ll)) (HAT : Hid (s.at? ll t = some (x, p))) (HPA : Hid (PlansAt w0 pv ll)) (HDO : Hid (∀ (k : Nat) (d : Do), p.l[k]? = some d → ∃ b o ap ac, dp = some ⟨b, o, none⟩ ∧ DoAt w0 b o k d (.slice ap d.vals.length ac) ∧ VA w0 (.slice ap d.vals.length ac) d.vals ∧ (ap = none → ac = 0))) {w4 : World} (HM4 : Hid (ZMid w0 w lab q rm ll.length cg ag gg pv bx p.none (.slice dp p.l.length dc) (s.mid s.A (s.began t x) s.wh s.tolds) w4)) (u2 u3 u4 u7 u8 u9 u10 u11 u12 u13 u14 u15 u16 u17 u18 u19 u20 u21 u22 u23 u24 u25 u26 u27 u28 u29 u30 u31 u32 u33 u34 u35 u36 u37 u38 u39 u40 u41 u42 u43 u44 u45 u46 u47 u48 u49 u50 u51 u52 u53 u54 u55 u56 u57 u58 u59 u60 u61 u62 u63 u64 u65 u66 u67 u68 u69 u70 u71 u72 u73 u74 u75 u76 u77 u78 u79 u80 u81 u82 u83 u84 u85 u86 u87 u88 u89 u90 u91 u92 u93 u94 u95 u96 u97 u98 u99 u100 u101 u102 u103 u104 u105 u106 u107 u108 u109 u110 u111 u112 u113 u114 u115 u116 u117 u118 u119 u120 u121 u122 u123 u124 u125 u126 u127 u128 u129 u130 u131 u132 u133 u134 u135 u136 u137 u138 u139 u140 u141 u142 u143 u144 u145 u146 u147 u148 u149 u150 u151 u152 u153 u154 u155 u156 u157 u158 u159 u160 u161 u162 u163 u164 u165 u166 u167 u168 u169 u170 u171 u172 u173 u174 u175 u176 u177 u178 u179 u180 u181 u182 u183 u184 u185 u186 u187 u188 u189 u190 u191 u192 u193 u194 u195 u196 u197 u198 u199 u200 u201 u202 u203 u204 u205 u206 u207 u208 u209 u210 u211 u212 u213 : Value) :
    cc.wp Tryz.prog (bodyPost Tryz.prog Tryz.f7 fun e w' => e = .returned (.bool true) ∧ ∃ lab', ZR w0 w' lab' q rm ll (s.go t x p) ∧ Zk w w' lab lab') { tmps := ((.pointer (some ⟨q, 0, none⟩) : Value) :: (.int .i64 (t : Int) : Value) :: u2 :: u3 :: u4 :: (.int .i64 s.steps : Value) :: (.pointer (some ⟨bx, 0, none⟩) : Value) :: u7 :: u8 :: u9 :: u10 :: u11 :: u12 :: u13 :: u14 :: u15 :: u16 :: u17 :: u18 :: u19 :: u20 :: u21 :: u22 :: u23 :: u24 :: u25 :: u26 :: u27 :: u28 :: u29 :: u30 :: u31 :: u32 :: u33 :: u34 :: u35 :: u36 :: u37 :: u38 :: u39 :: u40 :: u41 :: u42 :: u43 :: u44 :: u45 :: u46 :: u47 :: u48 :: u49 :: u50 :: u51 :: u52 :: u53 :: u54 :: u55 :: u56 :: u57 :: u58 :: u59 :: u60 :: u61 :: u62 :: u63 :: u64 :: u65 :: u66 :: u67 :: u68 :: u69 :: u70 :: u71 :: u72 :: u73 :: u74 :: u75 :: u76 :: u77 :: u78 :: u79 :: u80 :: u81 :: u82 :: u83 :: u84 :: u85 :: u86 :: u87 :: u88 :: u89 :: u90 :: u91 :: u92 :: u93 :: u94 :: u95 :: u96 :: u97 :: u98 :: u99 :: u100 :: u101 :: u102 :: u103 :: u104 :: u105 :: u106 :: u107 :: u108 :: u109 :: u110 :: u111 :: u112 :: u113 :: u114 :: u115 :: u116 :: u117 :: u118 :: u119 :: u120 :: u121 :: u122 :: u123 :: u124 :: u125 :: u126 :: u127 :: u128 :: u129 :: u130 :: u131 :: u132 :: u133 :: u134 :: u135 :: u136 :: u137 :: u138 :: u139 :: u140 :: u141 :: u142 :: u143 :: u144 :: u145 :: u146 :: u147 :: u148 :: u149 :: u150 :: u151 :: u152 :: u153 :: u154 :: u155 :: u156 :: u157 :: u158 :: u159 :: u160 :: u161 :: u162 :: u163 :: u164 :: u165 :: u166 :: u167 :: u168 :: u169 :: u170 :: u171 :: u172 :: u173 :: u174 :: u175 :: u176 :: u177 :: u178 :: u179 :: u180 :: u181 :: u182 :: u183 :: u184 :: u185 :: u186 :: u187 :: u188 :: u189 :: u190 :: u191 :: u192 :: u193 :: u194 :: u195 :: u196 :: u197 :: u198 :: u199 :: u200 :: u201 :: u202 :: u203 :: u204 :: u205 :: u206 :: u207 :: u208 :: u209 :: u210 :: u211 :: u212 :: u213 :: []).toArray, defers := [] } w4 := by
  obtain ⟨hxt, l, hl, hp⟩ := at_some HAT.out
  have htl := (List.getElem?_eq_some_iff.1 hl).1
  have hcl := (List.getElem?_eq_some_iff.1 hp).1
  have HL := Lib.hid hl
  have HPL := Lib.hid hp
  have HX := Lib.hid hxt
  have hn1 := hn.n
  have hn2 := hn.l l (List.mem_of_getElem? hl)
  clear hp hl hxt
  have i0 : (0 : Int) ≤ (t : Int) := by omega
  have i1 : (t : Int) < (ll.length : Int) := by omega
  have i2 : (0 : Int) ≤ (x.call : Int) := by omega
  have i3 : (x.call : Int) < (l.length : Int) := by omega
  have el : s.evs.length ≤ 1000000000 := by have := HOK.out.el; omega
  have hal : x.at_ ≠ 0 → p.none = false ∧ x.at_ < p.l.length := (HOK.out.th t x l HX.out HL.out).at_ p HPL.out
  have hact : (p.act x.at_).isSome = (!p.none && decide (x.at_ < p.l.length)) := by
    unfold Plan.act
    cases p.none
    · by_cases hq : x.at_ < p.l.length
      · simp [hq]
      · simp [hq]
    · simp
  unfold Tryz.f7 at hcc
  dsimp only [cseq1, cseq2, Option.getD_some] at hcc
  subst hcc
  try dsimp only
  obtain ⟨lab4, ev4, wv4, gvs4, z4, k4, lb4, lx4, bx4, bl4⟩ := HM4.out
  have g1 : w4.cell? ⟨q, 3, none⟩ = some (.slice (some ⟨ag, 0, none⟩) ll.length ll.length) := z4.blk.cell 3
  have g2 : w4.cell? ⟨ag, t, none⟩ = some (.int .i64 x.at_) := z4.acell (by simp [St.mid, HX.out])
  have g3 : w4.cell? ⟨bx, 0, none⟩ = some (.bool p.none) := bx4.cell 0
  have g4 : w4.cell? ⟨bx, 1, none⟩ = some (.slice dp p.l.length dc) := bx4.cell 1
  have HZ4 := Lib.hid z4
  have HK4 := Lib.hid (And.intro k4 (And.intro lb4 (And.intro lx4 (And.intro bx4 bl4))))
  clear z4 k4 lb4 lx4 bx4 bl4
  go_upto_region 8 with fail
  go_cut [83] (fun s83 wx => s83 = .bool (p.act x.at_).isSome ∧ Hid (ZMid w0 w lab q rm ll.length cg ag gg pv bx p.none (.slice dp p.l.length dc) (s.mid s.A (s.began t x) s.wh s.tolds) wx))
  case first =>
    -- [[
    cases hpn : p.none
    · have t1 : decide ((x.at_ : Int) < (p.l.length : Int)) = decide (x.at_ < p.l.length) := by simp
      rw [hpn] at g3 hact
      go_wp2_with fail
      go_quiet (fail)
      go_wp2_with fail
      go_meet
      exact ⟨by rw [hact]; rfl, HM4.out.drawn _⟩
    · rw [hpn] at g3 hact
      go_wp2_with fail
      go_quiet (fail)
      go_wp2_with fail
      go_meet
      exact ⟨by rw [hact]; rfl, HM4.out.drawn _⟩
    -- ]]
  case rest =>
    obtain ⟨rfl, HM5⟩ := hcut
    clear HZ4 HK4 HM4 g1 g2 g3 g4
    generalize wc = w5 at *
    go_upto_if 83 with fail
    go_cut [] (fun wx => Hid (ZMid w0 w lab q rm ll.length cg ag gg pv bx p.none (.slice dp p.l.length dc) (s.mid (s.mem t (p.act x.at_)) (s.began t x) (s.wh ++ List.replicate ((s.mem t (p.act x.at_)).trace.length - s.A.trace.length) (s.steps : Int)) (s.tolds.set t (x.got.flatten ++ s.says (p.act x.at_)))) wx))
    case first =>
      exact ZPick_D _ rfl hn hs HOK HAT HDO HM5 _ _ _ _ _ _ _ _ _ _ _ _ _ _ _ _ _ _ _ _ _ _ _ _ _ _ _ _ _ _ _ _ _ _ _ _ _ _ _ _ _ _ _ _ _ _ _ _ _ _ _ _ _ _ _ _ _ _ _ _ _ _ _ _ _ _ _ _ _ _ _ _ _ _ _ _ _ _ _ _ _ _ _ _ _ _ _ _ _ _ _ _ _ _ _ _ _ _ _ _ _ _ _ _ _ _ _ _ _ _ _ _ _ _ _ _ _ _ _ _ _ _ _ _ _ _ _ _ _ _ _ _ _ _ _ _ _ _ _ _ _ _ _ _ _ _ _ _ _ _ _ _ _ _ _ _ _ _ _ _ _ _ _ _ _ _ _ _ _ _ _ _ _ _ _ _ _ _ _ _ _ _ _ _ _ _ _ _ _ _ _ _ _ _ _ _ _ _ _ _ _ _ _ _ _ _ _ _ _ _ (fun _ _ _ _ _ _ _ _ _ _ _ _ _ _ _ _ _ _ _ _ _ _ _ _ _ _ _ _ _ _ _ _ _ _ _ _ _ _ _ _ _ _ _ _ _ _ _ _ _ _ _ _ _ _ _ _ _ _ _ _ _ _ _ _ _ _ _ _ _ _ _ _ _ _ _ _ _ _ _ _ _ _ _ _ _ _ _ _ _ _ _ _ _ _ _ _ _ _ _ _ _ _ _ _ _ _ _ _ _ _ _ _ _ _ _ _ _ _ _ _ _ _ _ _ _ _ _ _ _ _ _ _ _ _ _ _ _ _ _ _ _ _ _ _ _ _ _ _ _ _ _ _ _ _ _ _ _ _ _ _ _ _ _ _ _ _ _ _ _ _ _ _ _ _ _ _ _ _ _ _ _ _ _ _ _ _ _ _ _ _ _ _ _ _ _ _ _ _ _ _ _ _ _ _ _ _ _ wx h => by first | (go_meet; exact h) | ((go_wp2_with fail); go_meet; exact h))
    case rest =>
      have HM8 := Lib.hid hcut.out
      refine ‹∀ (a : Act) (w : World), Code.wp Tryz.prog _ _ a w → _› _ _ ?_
      exact ZPick_C _ rfl hn hs HOK HAT HPA HM8 _ _ _ _ _ _ _ _ _ _ _ _ _ _ _ _ _ _ _ _ _ _ _ _ _ _ _ _ _ _ _ _ _ _ _ _ _ _ _ _ _ _ _ _ _ _ _ _ _ _ _ _ _ _ _ _ _ _ _ _ _ _ _ _ _ _ _ _ _ _ _ _ _ _ _ _ _ _ _ _ _ _ _ _ _ _ _ _ _ _ _ _ _ _ _ _ _ _ _ _ _ _ _ _ _ _ _ _ _ _ _ _ _ _ _ _ _ _ _ _ _ _ _ _ _ _ _ _ _ _ _ _ _ _ _ _ _ _ _ _ _ _ _ _ _ _ _ _ _ _ _ _ _ _ _ _ _ _ _ _ _ _ _ _ _ _ _ _ _ _ _ _ _ _ _ _ _ _ _ _ _ _ _ _ _ _ _ _ _ _ _ _ _ _ _ _ _ _ _ _ _ _ _ _ _ _ _ _ _ _
set_option maxHeartbeats 4000000 in
set_option maxRecDepth 100000 in
theorem ZPick_go (h : ZR w0 w lab q rm ll s) (hn : Fits ll) (hs : s.steps ≤ 100000000) (t : Nat) {x : TS} {p : Plan} (hat : s.at? ll t = some (x, p)) : Calls Tryz.prog 7 #[.pointer (some ⟨q, 0, none⟩), .int .i64 (t : Int)] w fun e w' => e = .returned (.bool true) ∧ ∃ lab', ZR w0 w' lab' q rm ll (s.go t x p) ∧ Zk w w' lab lab' := by
  obtain ⟨hxt, l, hl, hp⟩ := at_some hat
  have htl := (List.getElem?_eq_some_iff.1 hl).1
  have hcl := (List.getElem?_eq_some_iff.1 hp).1
  have h' := h
  obtain ⟨⟨pv, cg, ag, gg, ev, wv, gvs, hx, hpa⟩, hb, ok, lb⟩ := h
  obtain ⟨h1, k1⟩ := hx.count (s.steps + 1)
  have hr : ZR w0 (w.setCell ⟨q, 4, none⟩ (.int .i64 ((s.steps + 1 : Nat) : Int))) lab q rm ll { s with steps := s.steps + 1 } :=
    ⟨⟨pv, cg, ag, gg, ev, wv, gvs, h1, hpa⟩, k1.bel hb lb, ⟨ok.tl, ok.th, ok.fit, ok.wl, Nat.le_trans ok.tr (by simp), by have := ok.el; show s.evs.length ≤ 2 * (s.steps + 1); omega, fun t x hx => Nat.le_trans (ok.gt t x hx) (by simp)⟩, lb⟩
  have HI := Lib.hid (left_any hr hn t)
  have hi' : ({ s with steps := s.steps + 1 } : St).idle ll t = false := by
    rw [idle_at (s := { s with steps := s.steps + 1 }) (x := x) hxt hl]; simp; omega
  rw [hi'] at HI
  have HR := Lib.hid (And.intro h1 (And.intro k1 (And.intro (k1.bel hb lb) lb)))
  have c1 : w.cell? ⟨q, 4, none⟩ = some (.int .i64 s.steps) := hx.blk.cell 4
  have f1 := hx.blk.cold 4
  have HOK := Lib.hid ok
  have HL := Lib.hid hl
  have HPL := Lib.hid hp
  have HX := Lib.hid hxt
  have HAT := Lib.hid hat
  have hn1 := hn.n
  have hn2 := hn.l l (List.mem_of_getElem? hl)
  have HPA := Lib.hid hpa
  clear h' hx hb ok lb h1 k1 hr hi' hp hl hxt hpa hat
  go_enter Tryz.func7, Tryz.ntmps7
  go_wp2_with fail
  refine HI.out.mono ?_
  rintro e w2 ⟨rfl, n, rfl⟩
  have HR2 : Hid (ZX ((w.setCell ⟨q, 4, none⟩ (.int .i64 ((s.steps + 1 : Nat) : Int))).drewN n) (relab lab w.heap.size 0) q rm ll.length pv { s.z with steps := s.steps + 1 } cg ag gg ev wv gvs ∧ Zk w ((w.setCell ⟨q, 4, none⟩ (.int .i64 ((s.steps + 1 : Nat) : Int))).drewN n) lab (relab lab w.heap.size 0) ∧ Below w0.heap.size w0 ((w.setCell ⟨q, 4, none⟩ (.int .i64 ((s.steps + 1 : Nat) : Int))).drewN n) ∧ (∀ k, relab lab w.heap.size 0 k ≠ 0 → w0.heap.size ≤ k) ∧ ∀ k, w.heap.size ≤ k → relab lab w.heap.size 0 k = 0) := by
    obtain ⟨h1, k1, hb, lb⟩ := HR.out
    have ha : Agree w lab (relab lab w.heap.size 0) := fun k hk => by unfold relab; rw [if_neg (by omega)]
    have hsz : (w.setCell ⟨q, 4, none⟩ (.int .i64 ((s.steps + 1 : Nat) : Int))).heap.size = w.heap.size := World.size_setCell _ _ _
    refine ⟨(h1.fr (Fr.refl (fun _ => False) _) (fun _ _ e => e) (fun k hk => ha k (by rw [hsz] at hk; exact hk))).drawn n, ⟨ha, k1.fr.drawn n⟩, hb.trans (((Fr.refl (fun _ => False) _).drawn n).to_below hb.size (fun _ _ e => e)), ?_, fun k hk => by unfold relab; rw [if_pos hk]⟩
    intro k hk
    unfold relab at hk
    split at hk
    · exact absurd rfl hk
    · exact lb k hk
  have hsz2 : ((w.setCell ⟨q, 4, none⟩ (.int .i64 ((s.steps + 1 : Nat) : Int))).drewN n).heap.size = w.heap.size := World.size_setCell _ _ _
  clear HI HR c1 f1
  generalize (w.setCell _ _).drewN n = w2 at *
  obtain ⟨hzx, -, hbel2, -, -⟩ := HR2.out
  obtain ⟨tp, tc, rfl, _, hth⟩ := HPA.out
  obtain ⟨b, o, v, rfl, hbl, d0, hpa⟩ := hth t l HL.out
  obtain ⟨pp, pc, rfl, -, hpp⟩ := hpa
  obtain ⟨b2, o2, bl, rfl, hbl2, d2, d3, hds⟩ := hpp x.call p HPL.out
  obtain ⟨dp, dc, rfl, hdn, hdo⟩ := hds
  have g1 : w2.cell? ⟨q, 1, none⟩ = some (.slice (some ⟨b, o, none⟩) ll.length tc) := hzx.blk.cell 1
  have g2 : w2.cell? ⟨b, o + t, none⟩ = some (.slice (some ⟨b2, o2, none⟩) l.length pc) := (hbel2.cell (p := ⟨b, _, none⟩) hbl).trans d0
  have g3 : w2.cell? ⟨q, 2, none⟩ = some (.slice (some ⟨cg, 0, none⟩) ll.length ll.length) := hzx.blk.cell 2
  have g4 : w2.cell? ⟨cg, t, none⟩ = some (.int .i64 x.call) := hzx.ccell (by simp [St.z, HX.out])
  have g5 : w2.cell? ⟨b2, o2 + x.call * 2, none⟩ = some (.bool p.none) := (hbel2.cell (p := ⟨b2, _, none⟩) hbl2).trans d2
  have g6 : w2.cell? ⟨b2, o2 + x.call * 2 + 1, none⟩ = some (.slice dp p.l.length dc) := (hbel2.cell (p := ⟨b2, _, none⟩) hbl2).trans d3
  have hlt : q < w2.heap.size ∧ cg < w2.heap.size ∧ b < w2.heap.size ∧ b2 < w2.heap.size := ⟨hzx.blk.lt, hzx.cB.lt, Nat.lt_of_lt_of_le hbl hbel2.size, Nat.lt_of_lt_of_le hbl2 hbel2.size⟩
  have HSS : Hid (∀ o', (w2.alloc o').cell? ⟨q, 1, none⟩ = some (.slice (some ⟨b, o, none⟩) ll.length tc) ∧ (w2.alloc o').cell? ⟨b, o + t, none⟩ = some (.slice (some ⟨b2, o2, none⟩) l.length pc) ∧ (w2.alloc o').cell? ⟨q, 2, none⟩ = some (.slice (some ⟨cg, 0, none⟩) ll.length ll.length) ∧ (w2.alloc o').cell? ⟨cg, t, none⟩ = some (.int .i64 x.call) ∧ (w2.alloc o').cell? ⟨b2, o2 + x.call * 2, none⟩ = some (.bool p.none) ∧ (w2.alloc o').cell? ⟨b2, o2 + x.call * 2 + 1, none⟩ = some (.slice dp p.l.length dc)) := fun o' =>
    ⟨(World.cell?_alloc_lt w2 o' _ hlt.1).trans g1, (World.cell?_alloc_lt w2 o' _ hlt.2.2.1).trans g2, (World.cell?_alloc_lt w2 o' _ hlt.1).trans g3, (World.cell?_alloc_lt w2 o' _ hlt.2.1).trans g4, (World.cell?_alloc_lt w2 o' _ hlt.2.2.2).trans g5, (World.cell?_alloc_lt w2 o' _ hlt.2.2.2).trans g6⟩
  have HDO := Lib.hid hdo
  have HDN := Lib.hid hdn
  clear hzx hbel2 hth hpp hdo hdn d0 d2 d3
  have i0 : (0 : Int) ≤ (t : Int) := by omega
  have i1 : (t : Int) < (ll.length : Int) := by omega
  have i2 : (0 : Int) ≤ (x.call : Int) := by omega
  have i3 : (x.call : Int) < (l.length : Int) := by omega
  go_upto_region 5 with fail
  go_region_held3 (fun w' => w'.cell? ⟨q, 1, none⟩ = some (.slice (some ⟨b, o, none⟩) ll.length tc) ∧ w'.cell? ⟨b, o + t, none⟩ = some (.slice (some ⟨b2, o2, none⟩) l.length pc) ∧ w'.cell? ⟨q, 2, none⟩ = some (.slice (some ⟨cg, 0, none⟩) ll.length ll.length) ∧ w'.cell? ⟨cg, t, none⟩ = some (.int .i64 x.call) ∧ w'.cell? ⟨b2, o2 + x.call * 2, none⟩ = some (.bool p.none) ∧ w'.cell? ⟨b2, o2 + x.call * 2 + 1, none⟩ = some (.slice dp p.l.length dc))
    (first | exact ⟨g1, g2, g3, g4, g5, g6⟩ | exact HSS.out _) (fail)
  have HM : Hid (ZMid w0 w lab q rm ll.length cg ag gg (.slice (some ⟨b, o, none⟩) ll.length tc) w.heap.size p.none (.slice dp p.l.length dc) (s.mid s.A s.evs s.wh s.tolds) (w2.alloc (.cells #[.bool p.none, .slice dp p.l.length dc] 104)).drew) := by
    obtain ⟨h1, h2, h3, h4, h5⟩ := HR2.out
    have f : Fr (fun _ => False) w2 (w2.alloc (.cells #[.bool p.none, .slice dp p.l.length dc] 104)).drew := ((Fr.refl _ w2).alloc _).drawn 1
    refine ⟨_, ev, wv, gvs, h1.fr f (fun _ _ e => e) (fun _ _ => rfl), ⟨h2.ag, h2.fr.trans (f.mono (fun _ _ e => e.elim))⟩, h4, h5 _ (Nat.le_refl _), ?_, h3.trans (f.to_below h3.size (fun _ _ e => e))⟩
    rw [← hsz2]
    exact Blk.made _ _ _
  clear HSS g1 g2 g3 g4 g5 g6 hlt HR2
  generalize (w2.alloc _).drew = w3 at *
  generalize w.heap.size = bx at *
  obtain ⟨lab3, ev3, wv3, gvs3, z3, k3, lb3, lx3, bx3, bl3⟩ := HM.out
  have g1 : w3.cell? ⟨q, 3, none⟩ = some (.slice (some ⟨ag, 0, none⟩) ll.length ll.length) := z3.blk.cell 3
  have g2 : w3.cell? ⟨ag, t, none⟩ = some (.int .i64 x.at_) := z3.acell (by simp [St.mid, HX.out])
  have g3 : w3.cell? ⟨q, 2, none⟩ = some (.slice (some ⟨cg, 0, none⟩) ll.length ll.length) := z3.blk.cell 2
  have g4 : w3.cell? ⟨cg, t, none⟩ = some (.int .i64 x.call) := z3.ccell (by simp [St.mid, HX.out])
  obtain ⟨ep, ec, e5⟩ := bk_form z3.evo
  have g5 : w3.cell? ⟨q, 5, none⟩ = some (.slice ep s.evs.length ec) := by rw [show s.evs.length = ((s.mid s.A s.evs s.wh s.tolds) : Zs).evs.length from rfl, ← e5]; exact z3.blk.cell 5
  have el : s.evs.length ≤ 1000000000 := by have := HOK.out.el; omega
  subst e5
  have HZ3 := Lib.hid z3
  have HK3 := Lib.hid (And.intro k3 (And.intro lb3 (And.intro lx3 (And.intro bx3 bl3))))
  clear z3 k3 lb3 lx3 bx3 bl3
  go_upto_if 48 with fail
  go_cut [] (fun wx => Hid (ZMid w0 w lab q rm ll.length cg ag gg (.slice (some ⟨b, o, none⟩) ll.length tc) bx p.none (.slice dp p.l.length dc) (s.mid s.A (s.began t x) s.wh s.tolds) wx))
  case first =>
    -- [[
    by_cases hat0 : x.at_ = 0
    · have t0 : decide ((x.at_ : Int) = 0) = true := by simp [hat0]
      obtain ⟨i0', hi0, hz0, hz1, hz2⟩ := info_parts infoEv
      have hql : q < w3.heap.size := HZ3.out.blk.lt
      have hcl3 : cg < w3.heap.size := HZ3.out.cB.lt
      have hqc : q ≠ cg := fun e => Blk.ne HZ3.out.blk (e ▸ HZ3.out.cB) (by decide) rfl
      have HN : Hid (∀ o', (w3.drew.alloc o').cell? ⟨q, 2, none⟩ = some (.slice (some ⟨cg, 0, none⟩) ll.length ll.length) ∧ (w3.drew.alloc o').cell? ⟨cg, t, none⟩ = some (.int .i64 x.call)) := fun o' => ⟨(World.cell?_alloc_lt w3.drew o' _ hql).trans g3, (World.cell?_alloc_lt w3.drew o' _ hcl3).trans g4⟩
      have g5n : ∀ o', (w3.drew.alloc o').cell? ⟨q, 5, none⟩ = some (.slice ep s.evs.length ec) := fun o' => (World.cell?_alloc_lt w3.drew o' _ hql).trans g5
      have HOWN : Hid (∀ o', (w3.drew.alloc o').ownsRow 0 97 4 (.slice ep s.evs.length ec) s.evs.length (s.evs.flatMap evC)) := fun o' => own_fr HZ3.out.evo (((Fr.refl (fun _ => False) w3).drawn 1).alloc o') (fun _ _ e => e)
      have HE : Hid (∀ g cap w5, w5.ownsRow 0 97 4 (.slice (some ⟨g, 0, none⟩) (s.evs.length + 1) cap) (s.evs.length + 1) (s.evs.flatMap evC ++ [.int .i64 s.steps, .int .i64 t, .int .i64 x.call, .bool false]) → (w3.drew.alloc (.cells #[.int .i64 s.steps, .int .i64 t, .int .i64 x.call, .bool false] 97)).grownBy w5 (Value.slice ep s.evs.length ec).ownBlock → ((Value.slice ep s.evs.length ec).ownBlock = some g ∨ g = (w3.drew.alloc (.cells #[.int .i64 s.steps, .int .i64 t, .int .i64 x.call, .bool false] 97)).heap.size) →
          w5.cell? ⟨q, 5, none⟩ = some (.slice ep s.evs.length ec) ∧ w5.frozen? ⟨q, 5, none⟩ = false ∧ Hid (w5.cell? ⟨q, 2, none⟩ = some (.slice (some ⟨cg, 0, none⟩) ll.length ll.length) ∧ w5.cell? ⟨cg, t, none⟩ = some (.int .i64 x.call)) ∧
          Hid (∀ u, (w5.setCell ⟨q, 5, none⟩ u).cell? ⟨q, 2, none⟩ = some (.slice (some ⟨cg, 0, none⟩) ll.length ll.length) ∧ (w5.setCell ⟨q, 5, none⟩ u).cell? ⟨cg, t, none⟩ = some (.int .i64 x.call)) ∧
          Hid (ZMid w0 w lab q rm ll.length cg ag gg (.slice (some ⟨b, o, none⟩) ll.length tc) bx p.none (.slice dp p.l.length dc) (s.mid s.A (s.began t x) s.wh s.tolds) (w5.setCell ⟨q, 5, none⟩ (.slice (some ⟨g, 0, none⟩) (s.evs.length + 1) cap)))) := by
        intro g cap w5 hown5 hgrow5 hat5
        obtain ⟨r1, r2, r3, lab5, r4, r5⟩ := HZ3.out.event (y := ⟨s.steps, t, x.call, false⟩) (((Fr.refl (fun _ => False) w3).drawn 1).alloc _) hown5 hgrow5 (hat5.imp id fun e => by rw [e]; show _ ≤ (w3.alloc _).heap.size; simp)
        obtain ⟨k3, lb3, lx3, bx3, bl3⟩ := HK3.out
        have a1 : w5.cell? ⟨q, 2, none⟩ = some (.slice (some ⟨cg, 0, none⟩) ll.length ll.length) := (r3 q 2 (.inr HZ3.out.lq) hql).trans g3
        have a2 : w5.cell? ⟨cg, t, none⟩ = some (.int .i64 x.call) := (r3 cg t (.inl HZ3.out.lc) hcl3).trans g4
        refine ⟨r1, r2, ⟨a1, a2⟩, fun u => ⟨(World.cell?_setCell_other _ _ _ _ (by intro e; injection e with _ e; omega)).trans a1, (World.cell?_setCell_other _ _ _ _ (by intro e; injection e with e _; exact hqc e)).trans a2⟩, ?_⟩
        have hb : s.began t x = s.evs ++ [⟨s.steps, t, x.call, false⟩] := by unfold St.began; rw [if_pos hat0]
        rw [hb]
        exact ZMid.next k3 lb3 lx3 bx3 bl3 r4 r5
      go_upto_region 7 with fail
      refine wp_region_held_drew (S := (fun w' => w'.cell? ⟨q, 2, none⟩ = some (.slice (some ⟨cg, 0, none⟩) ll.length ll.length) ∧ w'.cell? ⟨cg, t, none⟩ = some (.int .i64 x.call))) (by kernel_rfl) (by exact ⟨g3, g4⟩) (fun hHeld => ?_)
      refine wpAnyH_take (i := 0) (v := ?vve7_1) rfl (by kernel_rfl) (by kernel_rfl) (by kernel_rfl) (fun _ _ _ h => h) (Or.inl ⟨by rfl, ?hye7_1⟩) hHeld ?reste7_1
      case hye7_1 => first | (intro w hSw; (try dsimp only at hSw); go_simp; done) | (intro w hSw; (try dsimp only at hSw); go_simp; with_reducible rfl)
      try simp only [Act.put, List.setIfInBounds_toArray, List.set_cons_zero, List.set_cons_succ]
      refine wpAnyH_take (i := 1) (v := ?vve7_2) rfl (by kernel_rfl) (by kernel_rfl) (by kernel_rfl) (fun _ _ _ h => h) (Or.inl ⟨by rfl, ?hye7_2⟩) hHeld ?reste7_2
      case hye7_2 => first | (intro w hSw; (try dsimp only at hSw); go_simp; done) | (intro w hSw; (try dsimp only at hSw); go_simp; with_reducible rfl)
      try simp only [Act.put, List.setIfInBounds_toArray, List.set_cons_zero, List.set_cons_succ]
      refine wpAnyH_take (i := 2) (v := ?vve7_3) rfl (by kernel_rfl) (by kernel_rfl) (by kernel_rfl) (fun _ _ _ h => h) (Or.inl ⟨by rfl, ?hye7_3⟩) hHeld ?reste7_3
      case hye7_3 => first | (intro w hSw; (try dsimp only at hSw); go_simp; done) | (intro w hSw; (try dsimp only at hSw); go_simp; with_reducible rfl)
      try simp only [Act.put, List.setIfInBounds_toArray, List.set_cons_zero, List.set_cons_succ]
      refine wpAnyH_take (i := 3) (v := ?vve7_4) rfl (by kernel_rfl) (by kernel_rfl) (by kernel_rfl) (fun _ _ _ h => h) (Or.inl ⟨by rfl, ?hye7_4⟩) hHeld ?reste7_4
      case hye7_4 => first | (intro w hSw; (try dsimp only at hSw); go_simp; done) | (intro w hSw; (try dsimp only at hSw); go_simp; with_reducible rfl)
      try simp only [Act.put, List.setIfInBounds_toArray, List.set_cons_zero, List.set_cons_succ]
      refine wpAnyH_take (i := 5) (v := ?vve7_5) rfl (by kernel_rfl) (by kernel_rfl) (by kernel_rfl) (fun _ _ _ h => h) (Or.inl ⟨by rfl, ?hye7_5⟩) hHeld ?reste7_5
      case hye7_5 => first | (intro w hSw; (try dsimp only at hSw); go_simp; done) | (intro w hSw; (try dsimp only at hSw); go_simp; with_reducible rfl)
      try simp only [Act.put, List.setIfInBounds_toArray, List.set_cons_zero, List.set_cons_succ]
      refine wpAnyH_take (i := 6) (v := ?vve7_6) rfl (by kernel_rfl) (by kernel_rfl) (by kernel_rfl) (fun _ _ _ h => h) (Or.inl ⟨by rfl, ?hye7_6⟩) hHeld ?reste7_6
      case hye7_6 => first | (intro w hSw; (try dsimp only at hSw); go_simp; done) | (intro w hSw; (try dsimp only at hSw); go_simp; with_reducible rfl)
      try simp only [Act.put, List.setIfInBounds_toArray, List.set_cons_zero, List.set_cons_succ]
      refine wpAnyH_take (i := 7) (v := ?vve7_7) rfl (by kernel_rfl) (by kernel_rfl) (by kernel_rfl) (fun _ _ _ h => h) (Or.inl ⟨by rfl, ?hye7_7⟩) hHeld ?reste7_7
      case hye7_7 => first | (intro w hSw; (try dsimp only at hSw); go_simp; done) | (intro w hSw; (try dsimp only at hSw); go_simp; with_reducible rfl)
      try simp only [Act.put, List.setIfInBounds_toArray, List.set_cons_zero, List.set_cons_succ]
      refine wpAnyH_take (i := 8) (v := ?vve7_8) rfl (by kernel_rfl) (by kernel_rfl) (by kernel_rfl) (fun _ _ _ h => h) (Or.inl ⟨by rfl, ?hye7_8⟩) hHeld ?reste7_8
      case hye7_8 => first | (intro w hSw; (try dsimp only at hSw); go_simp; done) | (intro w hSw; (try dsimp only at hSw); go_simp; with_reducible rfl)
      try simp only [Act.put, List.setIfInBounds_toArray, List.set_cons_zero, List.set_cons_succ]
      refine wpAnyH_take (i := 9) (v := ?vve7_9) rfl (by kernel_rfl) (by kernel_rfl) (by kernel_rfl) (fun _ _ _ h => h) (Or.inl ⟨by rfl, ?hye7_9⟩) hHeld ?reste7_9
      case hye7_9 => first | (intro w hSw; (try dsimp only at hSw); go_simp; done) | (intro w hSw; (try dsimp only at hSw); go_simp; with_reducible rfl)
      try simp only [Act.put, List.setIfInBounds_toArray, List.set_cons_zero, List.set_cons_succ]
      refine wpAnyH_take (i := 10) (v := ?vve7_10) rfl (by kernel_rfl) (by kernel_rfl) (by kernel_rfl) (fun _ _ _ h => h) (Or.inl ⟨by rfl, ?hye7_10⟩) hHeld ?reste7_10
      case hye7_10 => first | (intro w hSw; (try dsimp only at hSw); go_simp; done) | (intro w hSw; (try dsimp only at hSw); go_simp; with_reducible rfl)
      try simp only [Act.put, List.setIfInBounds_toArray, List.set_cons_zero, List.set_cons_succ]
      refine wpAnyH_take (i := 11) (v := ?vve7_11) rfl (by kernel_rfl) (by kernel_rfl) (by kernel_rfl) (fun _ _ _ h => h) (Or.inl ⟨by rfl, ?hye7_11⟩) hHeld ?reste7_11
      case hye7_11 => first | (intro w hSw; (try dsimp only at hSw); go_simp; done) | (intro w hSw; (try dsimp only at hSw); go_simp; with_reducible rfl)
      try simp only [Act.put, List.setIfInBounds_toArray, List.set_cons_zero, List.set_cons_succ]
      refine wpAnyH_take (i := 12) (v := ?vve7_12) rfl (by kernel_rfl) (by kernel_rfl) (by kernel_rfl) (fun _ _ _ h => h) (Or.inl ⟨by rfl, ?hye7_12⟩) hHeld ?reste7_12
      case hye7_12 => first | (intro w hSw; (try dsimp only at hSw); go_simp; done) | (intro w hSw; (try dsimp only at hSw); go_simp; with_reducible rfl)
      try simp only [Act.put, List.setIfInBounds_toArray, List.set_cons_zero, List.set_cons_succ]
      refine wpAnyH_take (i := 13) (v := ?vve7_13) rfl (by kernel_rfl) (by kernel_rfl) (by kernel_rfl) (fun _ _ _ h => h) (Or.inl ⟨by rfl, ?hye7_13⟩) hHeld ?reste7_13
      case hye7_13 => first | (intro w hSw; (try dsimp only at hSw); go_simp; done) | (intro w hSw; (try dsimp only at hSw); go_simp; with_reducible rfl)
      try simp only [Act.put, List.setIfInBounds_toArray, List.set_cons_zero, List.set_cons_succ]
      refine wpAnyH_take (i := 14) (v := ?vve7_14) rfl (by kernel_rfl) (by kernel_rfl) (by kernel_rfl) (fun _ _ _ h => h) (Or.inl ⟨by rfl, ?hye7_14⟩) hHeld ?reste7_14
      case hye7_14 => first | (intro w hSw; (try dsimp only at hSw); go_simp; done) | (intro w hSw; (try dsimp only at hSw); go_simp; with_reducible rfl)
      try simp only [Act.put, List.setIfInBounds_toArray, List.set_cons_zero, List.set_cons_succ]
      refine wpAnyH_ready (rs := [4, 15]) (by kernel_rfl) (by simp) ?_
      refine AllReadyH.cons rfl (fun K hK => ?_) (AllReadyH.cons rfl (fun K hK => ?_) AllReadyH.nil)
      · go_simp
        refine hK.out _ _ (by exact ⟨g3, g4⟩) (fun hHeld => ?_)
        clear hK K
        refine wpAnyH_ready (rs := [15]) (by kernel_rfl) (by simp) ?_
        refine AllReadyH.cons rfl (fun K hK => ?_) AllReadyH.nil
        go_simp
        refine hK.out _ _ (HN.out _) (fun hHeld => ?_)
        clear hK K
        refine wpAnyH_ready (rs := [16]) (by kernel_rfl) (by simp) ?_
        refine AllReadyH.cons rfl (fun K hK => ?_) AllReadyH.nil
        refine step_append_lies _ rfl _ _ 59 rfl 0 97 i0' _ 4 32 Tryz.underlying59 hi0 hz0 hz1 hz2 rfl (by decide) _ (s.evs).length _ rfl (HOWN.out _) ⟨w3.heap.size, 0, none⟩ 1 1 [.int .i64 s.steps, .int .i64 t, .int .i64 x.call, .bool false] rfl rfl (World.news_of_block (heap_alloc_new _ _)) (by simp [Value.oneCell']) (by decide) (by unfold maxLen; omega) (by omega) (Nat.zero_le _) _ rfl ?_
        intro g cap w5 hown5 hgrow5 hat5 hlt5
        obtain ⟨q1, q2, q3, q4, HQ⟩ := HE.out g cap w5 hown5 hgrow5 hat5
        clear hown5 hgrow5 hat5 hlt5
        refine hK.out _ _ (q3.out) (fun hHeld => ?_)
        clear hK K
        refine wpAnyH_take (i := 17) (v := ?vve7_15) rfl (by kernel_rfl) (by kernel_rfl) (by kernel_rfl) (fun _ _ _ h => h) (Or.inl ⟨by rfl, ?hye7_15⟩) hHeld ?reste7_15
        case hye7_15 => first | (intro w hSw; (try dsimp only at hSw); go_simp; done) | (intro w hSw; (try dsimp only at hSw); go_simp; with_reducible rfl)
        try simp only [Act.put, List.setIfInBounds_toArray, List.set_cons_zero, List.set_cons_succ]
        refine wpAnyH_take (i := 18) (v := ?vve7_16) rfl (by kernel_rfl) (by kernel_rfl) (by kernel_rfl) (fun _ _ _ h => h) (Or.inl ⟨by rfl, ?hye7_16⟩) hHeld ?reste7_16
        case hye7_16 => first | (intro w hSw; (try dsimp only at hSw); go_simp; done) | (intro w hSw; (try dsimp only at hSw); go_simp; with_reducible rfl)
        try simp only [Act.put, List.setIfInBounds_toArray, List.set_cons_zero, List.set_cons_succ]
        refine wpAnyH_ready (rs := [19]) (by kernel_rfl) (by simp) ?_
        refine AllReadyH.cons rfl (fun K hK => ?_) AllReadyH.nil
        go_simp
        refine hK.out _ _ (q4.out _) (fun hHeld => ?_)
        clear hK K
        refine wpAnyH_done (by kernel_rfl) ?_ _
        go_wp2_with fail
        go_meet
        exact HQ
      · go_simp
        refine hK.out _ _ (HN.out _) (fun hHeld => ?_)
        clear hK K
        refine wpAnyH_ready (rs := [4]) (by kernel_rfl) (by simp) ?_
        refine AllReadyH.cons rfl (fun K hK => ?_) AllReadyH.nil
        go_simp
        refine hK.out _ _ (HN.out _) (fun hHeld => ?_)
        clear hK K
        refine wpAnyH_ready (rs := [16]) (by kernel_rfl) (by simp) ?_
        refine AllReadyH.cons rfl (fun K hK => ?_) AllReadyH.nil
        refine step_append_lies _ rfl _ _ 59 rfl 0 97 i0' _ 4 32 Tryz.underlying59 hi0 hz0 hz1 hz2 rfl (by decide) _ (s.evs).length _ rfl (HOWN.out _) ⟨w3.heap.size, 0, none⟩ 1 1 [.int .i64 s.steps, .int .i64 t, .int .i64 x.call, .bool false] rfl rfl (World.news_of_block (heap_alloc_new _ _)) (by simp [Value.oneCell']) (by decide) (by unfold maxLen; omega) (by omega) (Nat.zero_le _) _ rfl ?_
        intro g cap w5 hown5 hgrow5 hat5 hlt5
        obtain ⟨q1, q2, q3, q4, HQ⟩ := HE.out g cap w5 hown5 hgrow5 hat5
        clear hown5 hgrow5 hat5 hlt5
        refine hK.out _ _ (q3.out) (fun hHeld => ?_)
        clear hK K
        refine wpAnyH_take (i := 17) (v := ?vve7_17) rfl (by kernel_rfl) (by kernel_rfl) (by kernel_rfl) (fun _ _ _ h => h) (Or.inl ⟨by rfl, ?hye7_17⟩) hHeld ?reste7_17
        case hye7_17 => first | (intro w hSw; (try dsimp only at hSw); go_simp; done) | (intro w hSw; (try dsimp only at hSw); go_simp; with_reducible rfl)
        try simp only [Act.put, List.setIfInBounds_toArray, List.set_cons_zero, List.set_cons_succ]
        refine wpAnyH_take (i := 18) (v := ?vve7_18) rfl (by kernel_rfl) (by kernel_rfl) (by kernel_rfl) (fun _ _ _ h => h) (Or.inl ⟨by rfl, ?hye7_18⟩) hHeld ?reste7_18
        case hye7_18 => first | (intro w hSw; (try dsimp only at hSw); go_simp; done) | (intro w hSw; (try dsimp only at hSw); go_simp; with_reducible rfl)
        try simp only [Act.put, List.setIfInBounds_toArray, List.set_cons_zero, List.set_cons_succ]
        refine wpAnyH_ready (rs := [19]) (by kernel_rfl) (by simp) ?_
        refine AllReadyH.cons rfl (fun K hK => ?_) AllReadyH.nil
        go_simp
        refine hK.out _ _ (q4.out _) (fun hHeld => ?_)
        clear hK K
        refine wpAnyH_done (by kernel_rfl) ?_ _
        go_wp2_with fail
        go_meet
        exact HQ
    · have t0 : decide ((x.at_ : Int) = 0) = false := by simp [hat0]
      have HM2 : Hid (ZMid w0 w lab q rm ll.length cg ag gg (.slice (some ⟨b, o, none⟩) ll.length tc) bx p.none (.slice dp p.l.length dc) (s.mid s.A (s.began t x) s.wh s.tolds) w3) := by
        have := HM.out
        unfold St.began
        rw [if_neg hat0]
        exact this
      go_wp2_with fail
      go_meet
      exact HM2
    -- ]]
  case rest =>
    have HM4 := Lib.hid hcut.out
    refine ‹∀ (a : Act) (w : World), Code.wp Tryz.prog _ _ a w → _› _ _ ?_
    exact ZPick_B _ rfl hn hs HOK HAT HPA HDO HM4 _ _ _ _ _ _ _ _ _ _ _ _ _ _ _ _ _ _ _ _ _ _ _ _ _ _ _ _ _ _ _ _ _ _ _ _ _ _ _ _ _ _ _ _ _ _ _ _ _ _ _ _ _ _ _ _ _ _ _ _ _ _ _ _ _ _ _ _ _ _ _ _ _ _ _ _ _ _ _ _ _ _ _ _ _ _ _ _ _ _ _ _ _ _ _ _ _ _ _ _ _ _ _ _ _ _ _ _ _ _ _ _ _ _ _ _ _ _ _ _ _ _ _ _ _ _ _ _ _ _ _ _ _ _ _ _ _ _ _ _ _ _ _ _ _ _ _ _ _ _ _ _ _ _ _ _ _ _ _ _ _ _ _ _ _ _ _ _ _ _ _ _ _ _ _ _ _ _ _ _ _ _ _ _ _ _ _ _ _ _ _ _ _ _ _ _ _ _ _ _ _ _ _ _ _ _ _ _ _ _
end
end Go.Proofs.YtkaplifhaafpdaaGreat

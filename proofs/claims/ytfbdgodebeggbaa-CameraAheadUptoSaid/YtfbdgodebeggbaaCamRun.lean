/-
  A run of calls, as plain Lean, and how it lies in the heap. No condition.
-/
import Derived.Test.YtfbdgodebeggbaaBegin
namespace Go.Proofs.Ytfbdgodebeggbaa
open Go Go.RowKit
set_option linter.unusedSimpArgs false
set_option linter.unusedVariables false
/-- the calls that began, of each thread which one is under way and how many began, the memory -/
structure RS where
  all : List CS
  now : List (Option Nat)
  at_ : List Nat
  A : Mem
/-- where all lies -/
structure RP where
  bm : Nat
  rm : Nat
  nb : Nat
  ab : Nat
  vb : Nat
  calls : List (Nat × Nat × Nat)
  vs : List (Option Nat)
def RP.nowV (P : RP) : Option Nat → Value
  | none => .pointer none
  | some j => .pointer (some ⟨(P.calls.getD j (0, 0, 0)).1, 0, none⟩)
def viewV : Option Nat → Value
  | none => .pointer none
  | some v => .pointer (some ⟨v, 0, none⟩)
structure RH (w : World) (lab : Nat → Nat) (P : RP) (allv : Value) (s : RS) (m : Nat) : Prop where
  both : Both w lab P.bm P.rm s.A
  now : Blk w P.nb 55 (s.now.map P.nowV).toArray
  ats : Blk w P.ab 3 (s.at_.map fun (n : Nat) => Value.int .i64 n).toArray
  vws : Blk w P.vb 28 (P.vs.map viewV).toArray
  all : w.ownsRow 0 55 1 allv s.all.length (P.calls.map fun c => Value.pointer (some ⟨c.1, 0, none⟩))
  call : ∀ j c p, s.all[j]? = some c → P.calls[j]? = some p → CAt w (fun b => lab b = 2 * j + 10) p.1 p.2.1 p.2.2 c
  view : ∀ t v, P.vs[t]? = some (some v) → lab v = 2 * t + 11 ∧ ∃ made, VW w v P.bm t made ∧ 0 ≤ made ∧ made ≤ m
  lnow : lab P.nb = 3
  lats : lab P.ab = 4
  lvws : lab P.vb = 5
  lall : ∀ g, allv.ownBlock = some g → lab g = 6
/-- lengths -/
structure RL (n : Nat) (P : RP) (s : RS) : Prop where
  nlen : s.now.length = n
  alen : s.at_.length = n
  vlen : P.vs.length = n
  clen : P.calls.length = s.all.length
  nows : ∀ (t j : Nat), s.now[t]? = some (some j) → j < s.all.length
section
variable {w w' w1 : World} {F G S C : Nat → Prop} {rm bm r pb np tp v m : Nat} {A : Mem} {c : CS} {th made : Int} {lab lab' : Nat → Nat} {P : RP} {allv : Value} {s : RS} {n : Nat}
theorem own_some {e : TypeId} {size k : Nat} {xs : List Value} {u : Value} (h : w.ownsRow 0 e size u k xs) (hf : Fr S w w') (hS : ∀ g, u.ownBlock = some g → g < w.heap.size → ¬ S g) : w'.ownsRow 0 e size u k xs :=
  own_fr h hf fun g hg => hS g hg (own_lt h hg)
theorem RH.keep (h : RH w lab P allv s m) {Ls : Nat → Prop} (hf : Fr S w w') (hS : ∀ b, b < w.heap.size → S b → Ls (lab b)) (hx : Ex w lab lab') :
    (¬ Ls 1 → ¬ Ls 2 → Both w' lab' P.bm P.rm s.A) ∧ (¬ Ls 3 → Blk w' P.nb 55 (s.now.map P.nowV).toArray) ∧
    (¬ Ls 4 → Blk w' P.ab 3 (s.at_.map fun (n : Nat) => Value.int .i64 n).toArray) ∧ (¬ Ls 5 → Blk w' P.vb 28 (P.vs.map viewV).toArray) ∧
    (¬ Ls 6 → w'.ownsRow 0 55 1 allv s.all.length (P.calls.map fun c => Value.pointer (some ⟨c.1, 0, none⟩))) ∧
    (∀ j c p, ¬ Ls (2 * j + 10) → s.all[j]? = some c → P.calls[j]? = some p → CAt w' (fun b => lab' b = 2 * j + 10) p.1 p.2.1 p.2.2 c) ∧
    (∀ t v, ¬ Ls (2 * t + 11) → P.vs[t]? = some (some v) → lab' v = 2 * t + 11 ∧ ∃ made, VW w' v P.bm t made ∧ 0 ≤ made ∧ made ≤ m) ∧
    lab' P.nb = 3 ∧ lab' P.ab = 4 ∧ lab' P.vb = 5 ∧ (∀ g, allv.ownBlock = some g → lab' g = 6) := by
  refine ⟨fun h1 h2 => ⟨?_, ?_⟩, fun h3 => h.now.fr hf ?_, fun h4 => h.ats.fr hf ?_, fun h5 => h.vws.fr hf ?_, fun h6 => own_some h.all hf ?_, ?_, ?_, ?_, ?_, ?_, ?_⟩
  · refine (h.both.pm.tight.fr hf ?_).wide ?_
    · rintro k ⟨hk, hl⟩ hs
      have := hS k hl hs
      rw [hk] at this
      exact h1 this
    · rintro k ⟨hk, hl⟩
      exact (hx k hl).trans hk
  · refine (h.both.rm.tight.fr hf ?_).wide ?_
    · rintro k ⟨hk, hl⟩ hs
      have := hS k hl hs
      rw [hk] at this
      exact h2 this
    · rintro k ⟨hk, hl⟩
      exact (hx k hl).trans hk
  · intro hs; have := hS _ h.now.lt hs; rw [h.lnow] at this; exact h3 this
  · intro hs; have := hS _ h.ats.lt hs; rw [h.lats] at this; exact h4 this
  · intro hs; have := hS _ h.vws.lt hs; rw [h.lvws] at this; exact h5 this
  · intro g hg hl hs; have := hS _ hl hs; rw [h.lall g hg] at this; exact h6 this
  · intro j c p hj hc hp
    have k := h.call j c p hc hp
    have k1 : lab p.1 = 2 * j + 10 := k.cp
    have k2 : lab p.2.1 = 2 * j + 10 := k.cn
    have k3 : lab p.2.2 = 2 * j + 10 := k.ct
    refine ⟨Blk.fr k.p hf ?_, Blk.fr k.n hf ?_, Blk.fr k.t hf ?_, (hx _ (Blk.lt k.p)).trans k.cp, (hx _ (Blk.lt k.n)).trans k.cn, (hx _ (Blk.lt k.t)).trans k.ct⟩
    · intro hs; have := hS _ (Blk.lt k.p) hs; rw [k1] at this; exact hj this
    · intro hs; have := hS _ (Blk.lt k.n) hs; rw [k2] at this; exact hj this
    · intro hs; have := hS _ (Blk.lt k.t) hs; rw [k3] at this; exact hj this
  · intro t v ht hv
    obtain ⟨k1, made, k2, k3, k4⟩ := h.view t v hv
    refine ⟨(hx _ (Blk.lt k2)).trans k1, made, Blk.fr k2 hf ?_, k3, k4⟩
    intro hs; have := hS _ (Blk.lt k2) hs; rw [k1] at this; exact ht this
  · exact (hx _ h.now.lt).trans h.lnow
  · exact (hx _ h.ats.lt).trans h.lats
  · exact (hx _ h.vws.lt).trans h.lvws
  · intro g hg; exact (hx _ (own_lt h.all hg)).trans (h.lall g hg)
theorem Ex.refl (w : World) (lab : Nat → Nat) : Ex w lab lab := fun _ _ => rfl
theorem RH.fr0 (h : RH w lab P allv s m) (hf : Fr (fun _ => False) w w') : RH w' lab P allv s m := by
  obtain ⟨k1, k2, k3, k4, k5, k6, k7, k8, k9, k10, k11⟩ := h.keep (Ls := fun _ => False) hf (fun _ _ e => e) (Ex.refl w lab)
  exact ⟨k1 (fun e => e) (fun e => e), k2 (fun e => e), k3 (fun e => e), k4 (fun e => e), k5 (fun e => e), fun j c p => k6 j c p (fun e => e), fun t v => k7 t v (fun e => e), k8, k9, k10, k11⟩
theorem RH.drawn (h : RH w lab P allv s m) (k : Nat) : RH (w.drewN k) lab P allv s m := h.fr0 ((Fr.refl (fun _ => False) w).drawn k)
theorem RH.more (h : RH w lab P allv s m) {m' : Nat} (hm : m ≤ m') : RH w lab P allv s m' :=
  ⟨h.both, h.now, h.ats, h.vws, h.all, h.call, fun t v hv => by obtain ⟨k1, made, k2, k3, k4⟩ := h.view t v hv; exact ⟨k1, made, k2, k3, by omega⟩, h.lnow, h.lats, h.lvws, h.lall⟩
/-- a view comes in -/
theorem RH.newView (h : RH w lab P allv s m) (t : Nat) (ht : t < P.vs.length) (hnone : P.vs[t]? = some none) :
    ∃ lab', Ex w lab lab' ∧ RH ((w.alloc (.cells #[.pointer (some ⟨P.bm, 0, none⟩), .int .i64 t, .int .i64 0] 130)).setCell ⟨P.vb, t, none⟩ (.pointer (some ⟨w.heap.size, 0, none⟩))) lab' { P with vs := P.vs.set t (some w.heap.size) } allv s m := by
  have f : Fr (fun b => b = P.vb) w ((w.alloc (.cells #[.pointer (some ⟨P.bm, 0, none⟩), .int .i64 t, .int .i64 0] 130)).setCell ⟨P.vb, t, none⟩ (.pointer (some ⟨w.heap.size, 0, none⟩))) :=
    ((Fr.refl (fun b => b = P.vb) w).alloc _).put (p := ⟨P.vb, t, none⟩) (.inl rfl) _
  have hvl := h.vws.lt
  refine ⟨fun b => if b = w.heap.size then 2 * t + 11 else lab b, fun b hb => by simp [show b ≠ w.heap.size from by omega], ?_⟩
  obtain ⟨k1, k2, k3, k4, k5, k6, k7, k8, k9, k10, k11⟩ := h.keep (Ls := fun x => x = 5) (lab' := fun b => if b = w.heap.size then 2 * t + 11 else lab b) f (by rintro b _ rfl; exact h.lvws) (fun b hb => by simp [show b ≠ w.heap.size from by omega])
  refine ⟨k1 (by omega) (by omega), k2 (by omega), k3 (by omega), ?_, k5 (by omega), fun j c p => k6 j c p (by omega), ?_, k8, k9, k10, k11⟩
  · have := ((h.vws.alloc (.cells #[.pointer (some ⟨P.bm, 0, none⟩), .int .i64 t, .int .i64 0] 130)).put t (.pointer (some ⟨w.heap.size, 0, none⟩)))
    refine this.eq ?_
    simp [List.map_set, viewV]
  · intro t' v' hv2
    replace hv2 : (P.vs.set t (some w.heap.size))[t']? = some (some v') := hv2
    have hv' := hv2
    clear hv2
    rw [List.getElem?_set] at hv'
    split at hv'
    · rename_i e
      subst e
      try rw [if_pos ht] at hv'
      injection hv' with hv'; injection hv' with hv'; subst hv'
      refine ⟨by simp, 0, ?_, Int.le_refl _, by omega⟩
      exact (Blk.made w _ _).far (p := ⟨P.vb, t, none⟩) (by show w.heap.size ≠ P.vb; omega) _
    · exact k7 t' v' (by omega) hv'
/-- a thread's call under way is set, or none -/
theorem RH.setNow (h : RH w lab P allv s m) (t : Nat) (x : Option Nat) : RH (w.setCell ⟨P.nb, t, none⟩ (P.nowV x)) lab P allv { s with now := s.now.set t x } m := by
  have f : Fr (fun b => b = P.nb) w (w.setCell ⟨P.nb, t, none⟩ (P.nowV x)) := (Fr.refl (fun b => b = P.nb) w).put (p := ⟨P.nb, t, none⟩) (.inl rfl) _
  obtain ⟨k1, k2, k3, k4, k5, k6, k7, k8, k9, k10, k11⟩ := h.keep (Ls := fun x => x = 3) f (by rintro b _ rfl; exact h.lnow) (Ex.refl w lab)
  refine ⟨k1 (by omega) (by omega), ?_, k3 (by omega), k4 (by omega), k5 (by omega), fun j c p => k6 j c p (by omega), fun t v => k7 t v (by omega), k8, k9, k10, k11⟩
  refine (h.now.put t (P.nowV x)).eq ?_
  simp [List.map_set]
/-- a call's state is set anew -/
theorem RH.setCall (h : RH w lab P allv s m) {j : Nat} {c c' : CS} {p : Nat × Nat × Nat} (hc : s.all[j]? = some c) (hp : P.calls[j]? = some p) (i : Nat) (u : Value) (hP : ((c.ps p.2.1 p.2.2).cs).setIfInBounds i u = (c'.ps p.2.1 p.2.2).cs) (hn : c'.n = c.n) (ht : c'.t = c.t) :
    RH (w.setCell ⟨p.1, i, none⟩ u) lab P allv { s with all := s.all.set j c' } m := by
  have f : Fr (fun b => b = p.1) w (w.setCell ⟨p.1, i, none⟩ u) := (Fr.refl (fun b => b = p.1) w).put (p := ⟨p.1, i, none⟩) (.inl rfl) _
  have hC := h.call j c p hc hp
  have hcp : lab p.1 = 2 * j + 10 := hC.cp
  obtain ⟨k1, k2, k3, k4, k5, k6, k7, k8, k9, k10, k11⟩ := h.keep (Ls := fun x => x = 2 * j + 10) f (by rintro b _ rfl; exact hcp) (Ex.refl w lab)
  refine ⟨k1 (by omega) (by omega), k2 (by omega), k3 (by omega), k4 (by omega), ?_, ?_, fun t v => k7 t v (by omega), k8, k9, k10, k11⟩
  · have := k5 (by omega)
    simpa using this
  · intro j' c2 p2 hc2 hp2
    replace hc2 : (s.all.set j c')[j']? = some c2 := hc2
    rw [List.getElem?_set] at hc2
    split at hc2
    · rename_i e
      subst e
      have hjl : j < s.all.length := (List.getElem?_eq_some_iff.1 hc).1
      try rw [if_pos hjl] at hc2
      injection hc2 with hc2; subst hc2
      obtain rfl : p = p2 := by rw [hp] at hp2; injection hp2
      have hpn : p.2.1 ≠ p.1 := Blk.ne hC.n hC.p (by decide)
      have hpt : p.2.2 ≠ p.1 := Blk.ne hC.t hC.p (by decide)
      refine ⟨(Blk.put hC.p i u).eq hP, ?_, ?_, hC.cp, hC.cn, hC.ct⟩
      · show NowAt _ _ _; rw [hn]; exact Blk.far hC.n (p := ⟨p.1, i, none⟩) hpn u
      · show TakeAt _ _ _; rw [ht]; exact Blk.far hC.t (p := ⟨p.1, i, none⟩) hpt u
    · exact k6 j' c2 p2 (by omega) hc2 hp2
/-- a call begins -/
theorem RH.begun (h : RH w lab P allv s m) (hl : RL n P s) {t a : Nat} {c0 : CS} {allv' : Value} (ht : t < n)
    (hf : Fr (fun b => b = P.nb ∨ b = P.ab ∨ allv.ownBlock = some b) w w')
    (hnow : Blk w' P.nb 55 ((s.now.map P.nowV).set t (.pointer (some ⟨pb, 0, none⟩))).toArray)
    (hats : Blk w' P.ab 3 ((s.at_.map fun (n : Nat) => Value.int .i64 n).set t (.int .i64 ((a : Int) + 1))).toArray)
    (hall : w'.ownsRow 0 55 1 allv' (s.all.length + 1) ((P.calls.map fun c => Value.pointer (some ⟨c.1, 0, none⟩)) ++ [.pointer (some ⟨pb, 0, none⟩)]))
    (hblk : ∀ g, allv'.ownBlock = some g → allv.ownBlock = some g ∨ w.heap.size ≤ g) (hc : CAt w' (fun k => w.heap.size ≤ k) pb np tp c0) :
    ∃ lab', Ex w lab lab' ∧ RH w' lab' { P with calls := P.calls ++ [(pb, np, tp)] } allv' { s with all := s.all ++ [c0], now := s.now.set t (some s.all.length), at_ := s.at_.set t (a + 1) } m ∧
      RL n { P with calls := P.calls ++ [(pb, np, tp)] } { s with all := s.all ++ [c0], now := s.now.set t (some s.all.length), at_ := s.at_.set t (a + 1) } := by
  have hx : Ex w lab (fun b => if b < w.heap.size then lab b else if b = pb ∨ b = np ∨ b = tp then 2 * s.all.length + 10 else 6) := fun b hb => by simp [hb]
  have hlp : w.heap.size ≤ pb := hc.cp
  have hln : w.heap.size ≤ np := hc.cn
  have hlt : w.heap.size ≤ tp := hc.ct
  refine ⟨_, hx, ?_, ?_⟩
  · obtain ⟨k1, k2, k3, k4, k5, k6, k7, k8, k9, k10, k11⟩ := h.keep (Ls := fun x => x = 3 ∨ x = 4 ∨ x = 6) (lab' := fun b => if b < w.heap.size then lab b else if b = pb ∨ b = np ∨ b = tp then 2 * s.all.length + 10 else 6) hf (by
      rintro b _ (rfl | rfl | e)
      · exact .inl h.lnow
      · exact .inr (.inl h.lats)
      · exact .inr (.inr (h.lall _ e))) hx
    have hclen := hl.clen
    refine ⟨k1 (by omega) (by omega), ?_, ?_, k4 (by omega), ?_, ?_, fun t v => k7 t v (by omega), k8, k9, k10, ?_⟩
    · refine hnow.eq ?_
      congr 1
      rw [List.map_set]
      have e1 : s.now.map P.nowV = s.now.map (RP.nowV { P with calls := P.calls ++ [(pb, np, tp)] }) := by
        apply List.map_congr_left
        intro x hx
        cases x with
        | none => rfl
        | some j =>
          obtain ⟨t', ht', e⟩ := List.getElem_of_mem hx
          have hj := hl.nows t' j (by rw [List.getElem?_eq_getElem ht', e])
          simp [RP.nowV, List.getD_eq_getElem?_getD, List.getElem?_append_left (show j < P.calls.length from by omega)]
      rw [e1]
      congr 1
      simp [RP.nowV, List.getD_eq_getElem?_getD, ← hclen]
    · refine hats.eq ?_
      congr 1
      simp [List.map_set]
    · simpa using hall
    · intro j c p hcj hpj
      replace hcj : (s.all ++ [c0])[j]? = some c := hcj
      replace hpj : (P.calls ++ [(pb, np, tp)])[j]? = some p := hpj
      by_cases hj : j < s.all.length
      · rw [List.getElem?_append_left hj] at hcj
        rw [List.getElem?_append_left (by omega)] at hpj
        exact k6 j c p (by omega) hcj hpj
      · have hjl := (List.getElem?_eq_some_iff.1 hcj).1
        obtain rfl : j = s.all.length := by simp at hjl; omega
        obtain rfl : c0 = c := by simpa using hcj
        rw [← hclen] at hpj
        obtain rfl : (pb, np, tp) = p := by simpa using hpj
        refine ⟨hc.p, hc.n, hc.t, ?_, ?_, ?_⟩
        · simp; omega
        · simp; omega
        · simp; omega
    · intro g hg
      rcases hblk g hg with e | e
      · exact k11 g e
      · have h1 : g ≠ pb := fun e => by subst e; exact own_ne hall hc.p (by decide) hg
        have h2 : g ≠ np := fun e => by subst e; exact own_ne hall hc.n (by decide) hg
        have h3 : g ≠ tp := fun e => by subst e; exact own_ne hall hc.t (by decide) hg
        simp [show ¬ g < w.heap.size from by omega, h1, h2, h3]
  · refine ⟨by simpa using hl.nlen, by simpa using hl.alen, hl.vlen, by simp [hl.clen], ?_⟩
    intro t' j hj
    replace hj : (s.now.set t (some s.all.length))[t']? = some (some j) := hj
    rw [List.getElem?_set] at hj
    split at hj
    · split at hj
      · injection hj with hj; injection hj with hj; subst hj; simp
      · cases hj
    · have := hl.nows t' j hj
      simp; omega
/-- the labels as a step of call j by thread t sees them -/
def seen (lab : Nat → Nat) (j t : Nat) : Nat → Nat := fun b => if lab b = 1 then 1 else if lab b = 2 then 2 else if lab b = 2 * j + 10 then 3 else if lab b = 2 * t + 11 then 4 else 0
theorem seen1 {j t b : Nat} : seen lab j t b = 1 ↔ lab b = 1 := by unfold seen; (repeat' split) <;> omega
theorem seen2 {j t b : Nat} : seen lab j t b = 2 ↔ lab b = 2 := by unfold seen; (repeat' split) <;> omega
theorem seen3 {j t b : Nat} : seen lab j t b = 3 ↔ lab b = 2 * j + 10 := by unfold seen; (repeat' split) <;> omega
theorem seen4 {j t b : Nat} : seen lab j t b = 4 ↔ lab b = 2 * t + 11 := by unfold seen; (repeat' split) <;> omega
theorem RH.sees (h : RH w lab P allv s m) {j t v : Nat} {c : CS} {p : Nat × Nat × Nat} (hc : s.all[j]? = some c) (hp : P.calls[j]? = some p) (hv : P.vs[t]? = some (some v)) :
    CAt w (fun b => seen lab j t b = 3) p.1 p.2.1 p.2.2 c ∧ Both w (seen lab j t) P.bm P.rm s.A ∧ seen lab j t v = 4 ∧ ∃ made, VW w v P.bm t made ∧ 0 ≤ made ∧ made ≤ m := by
  obtain ⟨k1, k2⟩ := h.view t v hv
  exact ⟨(h.call j c p hc hp).wide fun k hk => seen3.2 hk, ⟨h.both.pm.wide fun k hk => seen1.2 hk, h.both.rm.wide fun k hk => seen2.2 hk⟩, seen4.2 k1, k2⟩
/-- a step of a call was taken -/
theorem RH.went (h : RH w lab P allv s m) {j t v : Nat} {c c' : CS} {A' : Mem} {p : Nat × Nat × Nat} {made : Int} (hc : s.all[j]? = some c) (hp : P.calls[j]? = some p) (hv : P.vs[t]? = some (some v)) (hm : made ≤ m) (hm0 : 0 ≤ made)
    (hW : Went w w' (seen lab j t) P.bm P.rm v p.1 p.2.1 p.2.2 t made c' A') : ∃ lab', Ex w lab lab' ∧ RH w' lab' P allv { s with all := s.all.set j c', A := A' } (m + 1) ∧ Fr (fun b => lab b ≠ 0) w w' := by
  obtain ⟨lp, made', hx, hb, hcat, hvw, hm1, hm2, hf⟩ := hW
  have hlv := (h.view t v hv).1
  have hC := h.call j c p hc hp
  have l1 : lab p.1 = 2 * j + 10 := hC.cp
  have l2 : lab p.2.1 = 2 * j + 10 := hC.cn
  have l3 : lab p.2.2 = 2 * j + 10 := hC.ct
  have hS : ∀ b, b < w.heap.size → (seen lab j t b = 1 ∨ seen lab j t b = 2 ∨ b = v ∨ b = p.1 ∨ b = p.2.1 ∨ b = p.2.2) → (lab b = 1 ∨ lab b = 2 ∨ lab b = 2 * j + 10 ∨ lab b = 2 * t + 11) := by
    rintro b _ (e | e | rfl | rfl | rfl | rfl)
    · exact .inl (seen1.1 e)
    · exact .inr (.inl (seen2.1 e))
    · exact .inr (.inr (.inr hlv))
    · exact .inr (.inr (.inl l1))
    · exact .inr (.inr (.inl l2))
    · exact .inr (.inr (.inl l3))
  let lab' : Nat → Nat := fun b => if b < w.heap.size then lab b else if lp b = 1 then 1 else if lp b = 2 then 2 else 0
  have hx' : Ex w lab lab' := fun b hb => by simp [lab', hb]
  have e1 : ∀ b, lp b = 1 → lab' b = 1 := by
    intro b hb'
    by_cases hl : b < w.heap.size
    · simp only [lab', hl, if_true]
      rw [hx b hl] at hb'
      exact seen1.1 hb'
    · simp [lab', hl, hb']
  have e2 : ∀ b, lp b = 2 → lab' b = 2 := by
    intro b hb'
    by_cases hl : b < w.heap.size
    · simp only [lab', hl, if_true]
      rw [hx b hl] at hb'
      exact seen2.1 hb'
    · simp [lab', hl, hb']
  refine ⟨lab', hx', ?_, hf.mono fun b hb hs => ?_⟩
  · obtain ⟨k1, k2, k3, k4, k5, k6, k7, k8, k9, k10, k11⟩ := h.keep (Ls := fun x => x = 1 ∨ x = 2 ∨ x = 2 * j + 10 ∨ x = 2 * t + 11) hf hS hx'
    refine ⟨⟨hb.pm.wide e1, hb.rm.wide e2⟩, k2 (by omega), k3 (by omega), k4 (by omega), ?_, ?_, ?_, k8, k9, k10, k11⟩
    · have := k5 (by omega)
      simpa using this
    · intro j' c2 p2 hc2 hp2
      replace hc2 : (s.all.set j c')[j']? = some c2 := hc2
      rw [List.getElem?_set] at hc2
      split at hc2
      · rename_i e
        subst e
        have hjl : j < s.all.length := (List.getElem?_eq_some_iff.1 hc).1
        try rw [if_pos hjl] at hc2
        injection hc2 with hc2; subst hc2
        obtain rfl : p = p2 := by rw [hp] at hp2; injection hp2
        exact ⟨hcat.p, hcat.n, hcat.t, (hx' _ (Blk.lt hC.p)).trans l1, (hx' _ (Blk.lt hC.n)).trans l2, (hx' _ (Blk.lt hC.t)).trans l3⟩
      · exact k6 j' c2 p2 (by omega) hc2 hp2
    · intro t' v' hv'
      by_cases e : t' = t
      · subst e
        obtain rfl : v = v' := by rw [hv] at hv'; injection hv' with hv'; injection hv'
        have hvl : v < w.heap.size := by obtain ⟨_, _, hvw0, _⟩ := h.view t' v hv; exact Blk.lt hvw0
        exact ⟨(hx' v hvl).trans hlv, made', hvw, by omega, by omega⟩
      · obtain ⟨q1, md, q2, q3, q4⟩ := k7 t' v' (by omega) hv'
        exact ⟨q1, md, q2, q3, by omega⟩
  · have := hS b hb hs
    omega
/-- bounds of a run -/
structure RI (s : RS) (m : Nat) : Prop where
  cells : s.A.cells.length = 128
  trace : s.A.trace.length ≤ m
  ok : ∀ c ∈ s.all, c.ok
  vals : ∀ x ∈ s.A.trace, x.vals = []
def nowP (calls : List (Nat × Nat × Nat)) : Option Nat → Value
  | none => .pointer none
  | some j => .pointer (some ⟨(calls.getD j (0, 0, 0)).1, 0, none⟩)
theorem nowV_eq (P : RP) (x : Option Nat) : P.nowV x = nowP P.calls x := by cases x <;> rfl
/-- the run lies in the heap, and all that was there ahead of w1 stands -/
def Inv (w1 : World) (n bm rm nb ab vb : Nat) (calls : List (Nat × Nat × Nat)) (vs : List (Option Nat)) (a : Value) (s : RS) (m : Nat) (w : World) : Prop :=
  ∃ lab, RH w lab ⟨bm, rm, nb, ab, vb, calls, vs⟩ a s m ∧ RL n ⟨bm, rm, nb, ab, vb, calls, vs⟩ s ∧ (∀ b, b < w1.heap.size → lab b = 0) ∧ Below w1.heap.size w1 w
section
variable {nb ab vb k t j : Nat} {calls : List (Nat × Nat × Nat)} {vs : List (Option Nat)} {a : Value} {p : Nat × Nat × Nat}
theorem Inv.below (h : Inv w1 n bm rm nb ab vb calls vs a s m w) : Below w1.heap.size w1 w := by obtain ⟨_, _, _, _, h⟩ := h; exact h
theorem Inv.len (h : Inv w1 n bm rm nb ab vb calls vs a s m w) : s.now.length = n ∧ s.at_.length = n ∧ vs.length = n ∧ calls.length = s.all.length := by
  obtain ⟨_, _, h, _⟩ := h; exact ⟨h.nlen, h.alen, h.vlen, h.clen⟩
theorem Inv.drawn (h : Inv w1 n bm rm nb ab vb calls vs a s m w) (k : Nat) : Inv w1 n bm rm nb ab vb calls vs a s m (w.drewN k) := by
  obtain ⟨lab, h1, h2, h3, h4⟩ := h
  exact ⟨lab, h1.drawn k, h2, h3, ⟨h4.os, h4.tape, h4.output, h4.size, h4.block⟩⟩
theorem Inv.more (h : Inv w1 n bm rm nb ab vb calls vs a s m w) {m' : Nat} (hm : m ≤ m') : Inv w1 n bm rm nb ab vb calls vs a s m' w := by
  obtain ⟨lab, h1, h2, h3, h4⟩ := h
  exact ⟨lab, h1.more hm, h2, h3, h4⟩
theorem Inv.nowCell (h : Inv w1 n bm rm nb ab vb calls vs a s m w) {x : Option Nat} (hx : s.now[t]? = some x) : w.cell? ⟨nb, t, none⟩ = some (nowP calls x) ∧ w.frozen? ⟨nb, t, none⟩ = false := by
  obtain ⟨lab, h1, _⟩ := h
  refine ⟨?_, h1.now.cold t⟩
  rw [h1.now.cell t]; simp [hx, nowV_eq]
theorem Inv.atCell (h : Inv w1 n bm rm nb ab vb calls vs a s m w) {x : Nat} (hx : s.at_[t]? = some x) : w.cell? ⟨ab, t, none⟩ = some (.int .i64 x) ∧ w.frozen? ⟨ab, t, none⟩ = false := by
  obtain ⟨lab, h1, _⟩ := h
  refine ⟨?_, h1.ats.cold t⟩
  rw [h1.ats.cell t]; simp [hx]
theorem Inv.viewCell (h : Inv w1 n bm rm nb ab vb calls vs a s m w) {x : Option Nat} (hx : vs[t]? = some x) : w.cell? ⟨vb, t, none⟩ = some (viewV x) ∧ w.frozen? ⟨vb, t, none⟩ = false := by
  obtain ⟨lab, h1, _⟩ := h
  refine ⟨?_, h1.vws.cold t⟩
  rw [h1.vws.cell t]; simp [hx]
theorem Inv.newView (h : Inv w1 n bm rm nb ab vb calls vs a s m w) (hn : vs[t]? = some none) :
    Inv w1 n bm rm nb ab vb calls (vs.set t (some w.heap.size)) a s m ((w.alloc (.cells #[.pointer (some ⟨bm, 0, none⟩), .int .i64 t, .int .i64 0] 130)).setCell ⟨vb, t, none⟩ (.pointer (some ⟨w.heap.size, 0, none⟩))) := by
  obtain ⟨lab, h1, h2, h3, h4⟩ := h
  have ht : t < vs.length := (List.getElem?_eq_some_iff.1 hn).1
  obtain ⟨lab', hx, h5⟩ := h1.newView t ht hn
  have hvb : w1.heap.size ≤ vb := by
    rcases Nat.lt_or_ge vb w1.heap.size with e | e
    · have e1 := h3 _ e; have e2 : lab vb = 5 := h1.lvws; omega
    · exact e
  have hs := h4.size
  refine ⟨lab', h5, ⟨h2.nlen, h2.alen, (by simpa using h2.vlen), h2.clen, h2.nows⟩, fun b hb => (hx b (by omega)).trans (h3 b hb), ?_⟩
  exact (h4.alloc hs _).setCell (p := ⟨vb, t, none⟩) hvb _
theorem Inv.keepBelow {lab : Nat → Nat} (h3 : ∀ b, b < w1.heap.size → lab b = 0) (h4 : Below w1.heap.size w1 w) (hf : Fr S w w') (hS : ∀ b, b < w.heap.size → S b → lab b ≠ 0) : Below w1.heap.size w1 w' :=
  h4.trans (hf.to_below h4.size fun k hk hs => hS k (Nat.lt_of_lt_of_le hk h4.size) hs (h3 k hk))
theorem Inv.begun (h : Inv w1 n bm rm nb ab vb calls vs a s m w) {x : Nat} {c0 : CS} {a' : Value} (ht : t < n)
    (hf : Fr (fun b => b = nb ∨ b = ab ∨ a.ownBlock = some b) w w')
    (hnow : Blk w' nb 55 ((s.now.map (nowP calls)).set t (.pointer (some ⟨pb, 0, none⟩))).toArray)
    (hats : Blk w' ab 3 ((s.at_.map fun (n : Nat) => Value.int .i64 n).set t (.int .i64 ((x : Int) + 1))).toArray)
    (hall : w'.ownsRow 0 55 1 a' (s.all.length + 1) ((calls.map fun c => Value.pointer (some ⟨c.1, 0, none⟩)) ++ [.pointer (some ⟨pb, 0, none⟩)]))
    (hblk : ∀ g, a'.ownBlock = some g → a.ownBlock = some g ∨ w.heap.size ≤ g) (hc : CAt w' (fun k => w.heap.size ≤ k) pb np tp c0) :
    Inv w1 n bm rm nb ab vb (calls ++ [(pb, np, tp)]) vs a' { s with all := s.all ++ [c0], now := s.now.set t (some s.all.length), at_ := s.at_.set t (x + 1) } m w' := by
  obtain ⟨lab, h1, h2, h3, h4⟩ := h
  have e1 : s.now.map (nowP calls) = s.now.map (RP.nowV ⟨bm, rm, nb, ab, vb, calls, vs⟩) := List.map_congr_left fun y _ => (nowV_eq ⟨bm, rm, nb, ab, vb, calls, vs⟩ y).symm
  rw [e1] at hnow
  obtain ⟨lab', hx, h5, h6⟩ := h1.begun (P := ⟨bm, rm, nb, ab, vb, calls, vs⟩) h2 ht hf hnow hats hall hblk hc
  have hs := h4.size
  refine ⟨lab', h5, h6, fun b hb => (hx b (by omega)).trans (h3 b hb), Inv.keepBelow h3 h4 hf ?_⟩
  rintro b _ (rfl | rfl | e)
  · have : lab b = 3 := h1.lnow; omega
  · have : lab b = 4 := h1.lats; omega
  · have := h1.lall b e; omega
theorem Inv.setNow (h : Inv w1 n bm rm nb ab vb calls vs a s m w) : Inv w1 n bm rm nb ab vb calls vs a { s with now := s.now.set t none } m (w.setCell ⟨nb, t, none⟩ (.pointer none)) := by
  obtain ⟨lab, h1, h2, h3, h4⟩ := h
  refine ⟨lab, h1.setNow t none, ⟨by simpa using h2.nlen, h2.alen, h2.vlen, h2.clen, ?_⟩, h3, ?_⟩
  · intro t' j hj
    replace hj : (s.now.set t none)[t']? = some (some j) := hj
    rw [List.getElem?_set] at hj
    split at hj
    · split at hj <;> cases hj
    · exact h2.nows t' j hj
  · refine h4.setCell (p := ⟨nb, t, none⟩) ?_ _
    rcases Nat.lt_or_ge nb w1.heap.size with e | e
    · have e1 := h3 _ e; have e2 : lab nb = 3 := h1.lnow; omega
    · exact e
def CS.ended (c : CS) (i : Int) : CS := ⟨c.isNow, c.most, c.n, c.t, c.fr, i⟩
theorem Inv.setTo (h : Inv w1 n bm rm nb ab vb calls vs a s m w) (hc : s.all[j]? = some c) (hp : calls[j]? = some p) (i : Int) : Inv w1 n bm rm nb ab vb calls vs a { s with all := s.all.set j (c.ended i) } m (w.setCell ⟨p.1, 15, none⟩ (.int .i64 i)) := by
  obtain ⟨lab, h1, h2, h3, h4⟩ := h
  have hC := h1.call j c p hc hp
  refine ⟨lab, h1.setCall hc hp 15 (.int .i64 i) (by simp [CS.ps, PS.cs, CS.ended]; rfl) rfl rfl, ⟨h2.nlen, h2.alen, h2.vlen, by simpa using h2.clen, fun t j hj => by simpa using h2.nows t j hj⟩, h3, ?_⟩
  refine h4.setCell (p := ⟨p.1, 15, none⟩) ?_ _
  rcases Nat.lt_or_ge p.1 w1.heap.size with e | e
  · have e1 := h3 _ e; have e2 : lab p.1 = 2 * j + 10 := hC.cp; omega
  · exact e
theorem Inv.callCells (h : Inv w1 n bm rm nb ab vb calls vs a s m w) (hc : s.all[j]? = some c) (hp : calls[j]? = some p) : ∃ C, CAt w C p.1 p.2.1 p.2.2 c := by
  obtain ⟨lab, h1, h2, h3, h4⟩ := h
  exact ⟨_, h1.call j c p hc hp⟩
/-- the step of a call: what it tells, and what it leaves -/
theorem Inv.stepCall (h : Inv w1 n bm rm nb ab vb calls vs a s m w) {mm : Nat} (hri : RI s mm) (hc : s.all[j]? = some c) (hp : calls[j]? = some p) (hv : vs[t]? = some (some v)) (hmm : mm ≤ 900000000) (hm : m ≤ 900000000) :
    Calls Try.prog 55 #[.pointer (some ⟨p.1, 0, none⟩), .pointer (some ⟨v, 0, none⟩), .pointer (some ⟨rm, 0, none⟩), .int .i64 t] w fun e w' => e = .returned (.tuple #[.bool (c.step s.A t).1.fin, .bool true]) ∧
      Inv w1 n bm rm nb ab vb calls vs a { s with all := s.all.set j (c.step s.A t).1, A := (c.step s.A t).2 } (m + 1) w' := by
  obtain ⟨lab, h1, h2, h3, h4⟩ := h
  obtain ⟨k1, k2, k3, made, k4, k5, k6⟩ := h1.sees hc hp hv
  refine (step_any k1 k2 k4 k3 (hri.ok c (List.mem_of_getElem? hc)) (by have := hri.cells; omega) (by have := hri.trace; omega) k5 (by omega)).mono ?_
  rintro e w' ⟨rfl, hW⟩
  obtain ⟨lab', hx, h5, hf⟩ := h1.went hc hp hv k6 k5 hW
  have hs := h4.size
  exact ⟨rfl, lab', h5, ⟨h2.nlen, h2.alen, h2.vlen, by simpa using h2.clen, fun t j hj => by simpa using h2.nows t j hj⟩, fun b hb => (hx b (by omega)).trans (h3 b hb), Inv.keepBelow h3 h4 hf (fun b _ e => e)⟩
theorem Inv.viewCellA (h : Inv w1 n bm rm nb ab vb calls vs a s m w) {x : Option Nat} (hx : vs[t]? = some x) (o : Obj) : (w.alloc o).cell? ⟨vb, t, none⟩ = some (viewV x) ∧ (w.alloc o).frozen? ⟨vb, t, none⟩ = false := by
  obtain ⟨lab, h1, _⟩ := h
  refine ⟨?_, (h1.vws.alloc o).cold t⟩
  rw [(h1.vws.alloc o).cell t]; simp [hx]
theorem Inv.nowLt (h : Inv w1 n bm rm nb ab vb calls vs a s m w) (hx : s.now[t]? = some (some j)) : j < s.all.length := by
  obtain ⟨lab, _, h2, _⟩ := h
  exact h2.nows t j hx
theorem Inv.nowBelow (h : Inv w1 n bm rm nb ab vb calls vs a s m w) {x : Option Nat} (hx : s.now[t]? = some x) (hb : Below w.heap.size w w') : w'.cell? ⟨nb, t, none⟩ = some (nowP calls x) ∧ w'.frozen? ⟨nb, t, none⟩ = false := by
  obtain ⟨lab, h1, _⟩ := h
  refine ⟨?_, (h1.now.below hb).cold t⟩
  rw [(h1.now.below hb).cell t]; simp [hx, nowV_eq]
theorem Inv.sizes (h : Inv w1 n bm rm nb ab vb calls vs a s m w) : nb < w.heap.size ∧ ab < w.heap.size ∧ nb ≠ ab ∧ w1.heap.size ≤ nb := by
  obtain ⟨lab, h1, _, h3, h4⟩ := h
  refine ⟨h1.now.lt, h1.ats.lt, Blk.ne h1.now h1.ats (by decide), ?_⟩
  rcases Nat.lt_or_ge nb w1.heap.size with e | e
  · have e1 := h3 _ e; have e2 : lab nb = 3 := h1.lnow; omega
  · exact e
/-- a call is beginning -/
structure Mid (w w' : World) (nb ab : Nat) (a : Value) (X Y Z : List Value) (zl pb np tp : Nat) (c : CS) : Prop where
  fr : Fr (fun b => b = nb ∨ b = ab) w w'
  now : Blk w' nb 55 X.toArray
  ats : Blk w' ab 3 Y.toArray
  all : w'.ownsRow 0 55 1 a zl Z
  call : CAt w' (fun k => w.heap.size ≤ k) pb np tp c
  ne : a.ownBlock ≠ some nb
section
variable {X Y Z : List Value} {zl : Nat} {c0 : CS} {w2 : World} {a' : Value} {x : Nat}
theorem Mid.start (h : Inv w1 n bm rm nb ab vb calls vs a s m w) (hb : Below w.heap.size w w') (hC : CAt w' (fun k => w.heap.size ≤ k) pb np tp c0) (t : Nat) :
    Mid w (w'.setCell ⟨nb, t, none⟩ (.pointer (some ⟨pb, 0, none⟩))) nb ab a ((s.now.map (nowP calls)).set t (.pointer (some ⟨pb, 0, none⟩))) (s.at_.map fun (n : Nat) => Value.int .i64 n) (calls.map fun c => Value.pointer (some ⟨c.1, 0, none⟩)) s.all.length pb np tp c0 := by
  obtain ⟨lab, h1, h2, h3, h4⟩ := h
  have hne : a.ownBlock ≠ some nb := fun e => by have := h1.lall _ e; have e2 : lab nb = 3 := h1.lnow; omega
  have f : Fr (fun b => b = nb) w' (w'.setCell ⟨nb, t, none⟩ (.pointer (some ⟨pb, 0, none⟩))) := (Fr.refl (fun b => b = nb) w').put (p := ⟨nb, t, none⟩) (.inl rfl) _
  have hnl : nb < w.heap.size := h1.now.lt
  have k1 : w.heap.size ≤ pb := hC.cp
  have k2 : w.heap.size ≤ np := hC.cn
  have k3 : w.heap.size ≤ tp := hC.ct
  refine ⟨((Fr.of_below hb).put (p := ⟨nb, t, none⟩) (.inl (.inl rfl)) _), ?_, ?_, ?_, ⟨Blk.fr hC.p f (by omega), Blk.fr hC.n f (by omega), Blk.fr hC.t f (by omega), k1, k2, k3⟩, hne⟩
  · refine ((h1.now.below hb).put t (.pointer (some ⟨pb, 0, none⟩))).eq ?_
    have e1 : s.now.map (nowP calls) = s.now.map (RP.nowV ⟨bm, rm, nb, ab, vb, calls, vs⟩) := List.map_congr_left fun y _ => (nowV_eq ⟨bm, rm, nb, ab, vb, calls, vs⟩ y).symm
    rw [e1]; simp
  · exact (h1.ats.below hb).fr f (fun e => Blk.ne h1.now h1.ats (by decide) e.symm)
  · exact own_some (own_some h1.all (Fr.of_below (S := fun _ => False) hb) (fun _ _ _ e => e)) f (fun g hg _ e => by subst e; exact hne hg)
theorem Mid.drawn (h : Mid w w' nb ab a X Y Z zl pb np tp c0) (k : Nat) : Mid w (w'.drewN k) nb ab a X Y Z zl pb np tp c0 := by
  have f : Fr (fun _ => False) w' (w'.drewN k) := (Fr.refl (fun _ => False) w').drawn k
  exact ⟨h.fr.drawn k, h.now.drawn k, h.ats.drawn k, own_some h.all f (fun _ _ _ e => e), h.call.fr f (fun _ _ e => e), h.ne⟩
theorem Mid.setFrom (h : Mid w w' nb ab a X Y Z zl pb np tp c0) (i : Int) : Mid w (w'.setCell ⟨pb, 14, none⟩ (.int .i64 i)) nb ab a X Y Z zl pb np tp { c0 with fr := i } := by
  have f : Fr (fun b => b = pb) w' (w'.setCell ⟨pb, 14, none⟩ (.int .i64 i)) := (Fr.refl (fun b => b = pb) w').put (p := ⟨pb, 14, none⟩) (.inl rfl) _
  have hpn : np ≠ pb := Blk.ne h.call.n h.call.p (by decide)
  have hpt : tp ≠ pb := Blk.ne h.call.t h.call.p (by decide)
  have k1 : w.heap.size ≤ pb := h.call.cp
  refine ⟨h.fr.put (p := ⟨pb, 14, none⟩) (.inr k1) _, h.now.fr f (fun e => Blk.ne h.now h.call.p (by decide) e), h.ats.fr f (fun e => Blk.ne h.ats h.call.p (by decide) e), own_some h.all f (fun g hg _ e => by subst e; exact own_ne h.all h.call.p (by decide) hg), ⟨?_, Blk.fr h.call.n f hpn, Blk.fr h.call.t f hpt, h.call.cp, h.call.cn, h.call.ct⟩, h.ne⟩
  refine (Blk.put h.call.p 14 (.int .i64 i)).eq ?_
  simp [CS.ps, PS.cs]
theorem Mid.setAt (h : Mid w w' nb ab a X Y Z zl pb np tp c0) (t : Nat) (u : Value) : Mid w (w'.setCell ⟨ab, t, none⟩ u) nb ab a X (Y.set t u) Z zl pb np tp c0 := by
  have f : Fr (fun b => b = ab) w' (w'.setCell ⟨ab, t, none⟩ u) := (Fr.refl (fun b => b = ab) w').put (p := ⟨ab, t, none⟩) (.inl rfl) _
  refine ⟨h.fr.put (p := ⟨ab, t, none⟩) (.inl (.inr rfl)) _, h.now.fr f (fun e => Blk.ne h.now h.ats (by decide) e), ?_, own_some h.all f (fun g hg _ e => by subst e; exact own_ne h.all h.ats (by decide) hg), ⟨Blk.fr h.call.p f (fun e => Blk.ne h.call.p h.ats (by decide) e), Blk.fr h.call.n f (fun e => Blk.ne h.call.n h.ats (by decide) e), Blk.fr h.call.t f (fun e => Blk.ne h.call.t h.ats (by decide) e), h.call.cp, h.call.cn, h.call.ct⟩, h.ne⟩
  refine (h.ats.put t u).eq ?_
  simp
theorem Mid.finish (h : Inv w1 n bm rm nb ab vb calls vs a s m w) (ht : t < n) {o : Obj}
    (hM : Mid w w' nb ab a ((s.now.map (nowP calls)).set t (.pointer (some ⟨pb, 0, none⟩))) ((s.at_.map fun (n : Nat) => Value.int .i64 n).set t (.int .i64 ((x : Int) + 1))) (calls.map fun c => Value.pointer (some ⟨c.1, 0, none⟩)) s.all.length pb np tp c0)
    (hg : (w'.alloc o).grownBy w2 a.ownBlock) (hown : w2.ownsRow 0 55 1 a' (s.all.length + 1) ((calls.map fun c => Value.pointer (some ⟨c.1, 0, none⟩)) ++ [.pointer (some ⟨pb, 0, none⟩)]))
    (hblk : a'.ownBlock = a.ownBlock ∨ a'.ownBlock = some (w'.alloc o).heap.size) :
    Inv w1 n bm rm nb ab vb (calls ++ [(pb, np, tp)]) vs a' { s with all := s.all ++ [c0], now := s.now.set t (some s.all.length), at_ := s.at_.set t (x + 1) } m w2 := by
  have hs := hM.fr.size
  have hna : some ab ≠ a.ownBlock := fun e => own_ne hM.all hM.ats (by decide) e.symm
  have hpa : some pb ≠ a.ownBlock := fun e => own_ne hM.all hM.call.p (by decide) e.symm
  have hpn : some np ≠ a.ownBlock := fun e => own_ne hM.all hM.call.n (by decide) e.symm
  have hpt : some tp ≠ a.ownBlock := fun e => own_ne hM.all hM.call.t (by decide) e.symm
  refine h.begun ht ?_ ((hM.now.alloc o).grown hg (fun e => hM.ne e.symm)) ((hM.ats.alloc o).grown hg hna) hown ?_ ⟨(Blk.alloc hM.call.p o).grown hg hpa, (Blk.alloc hM.call.n o).grown hg hpn, (Blk.alloc hM.call.t o).grown hg hpt, hM.call.cp, hM.call.cn, hM.call.ct⟩
  · refine ((hM.fr.alloc o).mono (T := fun b => b = nb ∨ b = ab ∨ a.ownBlock = some b) ?_).grown hg ?_
    · rintro k _ (e | e)
      · exact .inl e
      · exact .inr (.inl e)
    · exact fun k hk => .inl (.inr (.inr hk))
  · intro g hgb
    rcases hblk with e | e
    · exact .inl (e ▸ hgb)
    · rw [e] at hgb
      injection hgb with hgb
      right; rw [← hgb]; simp; omega
end
end
end
end Go.Proofs.Ytfbdgodebeggbaa

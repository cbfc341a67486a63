/-
  A step of a call under way: both alike. No condition.
-/
import Derived.Test.YtfbdgodebeggbaaCamProc
namespace Go.Proofs.Ytfbdgodebeggbaa
open Go Go.RowKit
set_option linter.unusedSimpArgs false
set_option linter.unusedVariables false
section
variable {w w' w1 : World} {F G S C : Nat → Prop} {rm bm r pb np tp v : Nat} {A : Mem} {s : CS} {th made : Int} {lab : Nat → Nat}
theorem went_of {s' : CS} {A' : Mem} {p : Nat} (h : Both w lab bm rm A) (hc : CAt w (fun b => lab b = 3) pb np tp s) (hv : VW w v bm th made) (hlv : lab v = 4) (hp : p = np ∨ p = tp)
    (h1 : Stepped w w1 (fun b => lab b = 1) bm v p th (made + 1) A') (h2 : RStepped w1 w' (fun b => lab b = 2 ∧ b < w.heap.size) rm pb A')
    (hP : PAt w' pb (s'.ps np tp)) (hN : NowAt w' np s'.n) (hT : TakeAt w' tp s'.t) : Went w w' lab bm rm v pb np tp th made s' A' := by
  have hlp : lab p = 3 := by rcases hp with rfl | rfl; exact hc.cn; exact hc.ct
  have hlb : lab pb = 3 := hc.cp
  obtain ⟨lab', hx, hb, hvw, hf⟩ := both_step h h1 hlv hlp hlb (Blk.lt hv) (Blk.lt hc.p) h2
  refine ⟨lab', made + 1, hx, hb, ⟨hP, hN, hT, (hx _ (Blk.lt hc.p)).trans hc.cp, (hx _ (Blk.lt hc.n)).trans hc.cn, (hx _ (Blk.lt hc.t)).trans hc.ct⟩, hvw, by omega, by omega, hf.mono ?_⟩
  rintro k _ (e | e | e | e | e)
  · exact .inl e
  · exact .inr (.inl e)
  · exact .inr (.inr (.inl e))
  · rcases hp with rfl | rfl
    · exact .inr (.inr (.inr (.inr (.inl e))))
    · exact .inr (.inr (.inr (.inr (.inr e))))
  · exact .inr (.inr (.inr (.inl e)))
theorem went_same (h : Both w lab bm rm A) (hc : CAt w (fun b => lab b = 3) pb np tp s) (hv : VW w v bm th made) (n : Nat) : Went w (w.drewN n) lab bm rm v pb np tp th made s A := by
  have f : Fr (fun _ => False) w (w.drewN n) := (Fr.refl (fun _ => False) w).drawn n
  exact ⟨lab, made, fun b _ => rfl, h.fr f (fun _ _ e => e), hc.fr f (fun _ _ e => e), VW.fr hv f (fun e => e), Int.le_refl _, by omega, f.mono (fun _ _ e => e.elim)⟩
/-- it is done: nothing is done -/
theorem step_fin (hc : CAt w (fun b => lab b = 3) pb np tp s) (h : Both w lab bm rm A) (hv : VW w v bm th made) (hs : s.fin = true) :
    Calls Try.prog 55 #[.pointer (some ⟨pb, 0, none⟩), .pointer (some ⟨v, 0, none⟩), .pointer (some ⟨rm, 0, none⟩), .int .i64 th] w fun e w' => e = .returned (.tuple #[.bool true, .bool true]) ∧ Went w w' lab bm rm v pb np tp th made s A := by
  have c0 : w.cell? ⟨pb, 0, none⟩ = some (.bool s.isNow) := Blk.cell hc.p 0
  have HS := Lib.hid (same_any hc)
  have HW := Lib.hid (fun n => went_same h hc hv n)
  cases hb : s.isNow
  · rw [hb] at c0
    have c3 : w.cell? ⟨pb, 3, none⟩ = some (.pointer (some ⟨tp, 0, none⟩)) := Blk.cell hc.p 3
    have ht : s.t.at_ = 2 := by simpa [CS.fin, hb] using hs
    have h1 := Lib.hid (fun x => Take_done hc.t ht x)
    have h2 := Lib.hid (fun x y => RTake_done (s := s.ps np tp) hc.p ht x y)
    clear hb hs ht
    go_enter Try.func55, Try.ntmps55
    go_wp2_with fail
    refine (h1.out _).mono ?_
    rintro e w1 ⟨rfl, rfl⟩
    go_wp2_with fail
    refine (h2.out _ _).mono ?_
    rintro e w1 ⟨rfl, rfl⟩
    go_wp2_with fail
    refine HS.out.mono ?_
    rintro e w1 ⟨rfl, n, rfl⟩
    go_wp2
    go_ret2
    exact ⟨rfl, HW.out n⟩
  · rw [hb] at c0
    have c3 : w.cell? ⟨pb, 2, none⟩ = some (.pointer (some ⟨np, 0, none⟩)) := Blk.cell hc.p 2
    have ht : s.n.at_ = 2 := by simpa [CS.fin, hb] using hs
    have h1 := Lib.hid (fun x => Now_done hc.n ht x)
    have h2 := Lib.hid (fun x y => RNow_done (s := s.ps np tp) hc.p (by simp [CS.ps, ht]) x y)
    clear hb hs ht
    go_enter Try.func55, Try.ntmps55
    go_wp2_with fail
    refine (h1.out _).mono ?_
    rintro e w1 ⟨rfl, rfl⟩
    go_wp2_with fail
    refine (h2.out _ _).mono ?_
    rintro e w1 ⟨rfl, rfl⟩
    go_wp2_with fail
    refine HS.out.mono ?_
    rintro e w1 ⟨rfl, n, rfl⟩
    go_wp2
    go_ret2
    exact ⟨rfl, HW.out n⟩
theorem Went.drawn {s' : CS} {A' : Mem} (h : Went w w' lab bm rm v pb np tp th made s' A') (n : Nat) : Went w (w'.drewN n) lab bm rm v pb np tp th made s' A' := by
  obtain ⟨lab', made', hx, hb, hc, hv, h1, h2, hf⟩ := h
  have f : Fr (fun _ => False) w' (w'.drewN n) := (Fr.refl (fun _ => False) w').drawn n
  exact ⟨lab', made', hx, hb.fr f (fun _ _ e => e), hc.fr f (fun _ _ e => e), VW.fr hv f (fun e => e), h1, h2, hf.drawn n⟩
theorem Went.cat {s' : CS} {A' : Mem} (h : Went w w' lab bm rm v pb np tp th made s' A') : ∃ C, CAt w' C pb np tp s' := by
  obtain ⟨lab', made', hx, hb, hc, hv, h1, h2, hf⟩ := h
  exact ⟨_, hc⟩
set_option maxRecDepth 100000 in
theorem step_now (hc : CAt w (fun b => lab b = 3) pb np tp s) (h : Both w lab bm rm A) (hv : VW w v bm th made) (hlv : lab v = 4) (hb : s.isNow = true) (h0 : s.n.at_ = 0) (hk : 0 ≤ s.n.cell) (hn : A.cells.length ≤ 4194304) (ht : A.trace.length ≤ 1000000000) (hm0 : 0 ≤ made) (hm1 : made ≤ 1000000000) :
    Calls Try.prog 55 #[.pointer (some ⟨pb, 0, none⟩), .pointer (some ⟨v, 0, none⟩), .pointer (some ⟨rm, 0, none⟩), .int .i64 th] w fun e w' => e = .returned (.tuple #[.bool true, .bool true]) ∧ Went w w' lab bm rm v pb np tp th made { s with n := ⟨2, s.n.cell, A.peek s.n.cell⟩ } (A.load th s.n.cell) := by
  have c0 : w.cell? ⟨pb, 0, none⟩ = some (.bool s.isNow) := Blk.cell hc.p 0
  rw [hb] at c0
  have c3 : w.cell? ⟨pb, 2, none⟩ = some (.pointer (some ⟨np, 0, none⟩)) := Blk.cell hc.p 2
  have hnp : NowAt w np ⟨0, s.n.cell, s.n.t⟩ := by have := hc.n; rw [← h0]; exact this
  have hcn : lab np = 3 := hc.cn
  have hcp : lab pb = 3 := hc.cp
  have hct : lab tp = 3 := hc.ct
  have h1 := Lib.hid (Now_step hnp h.pm hv (by omega) hk hn ht hm0 hm1)
  have hpn : pb ≠ np := Blk.ne hc.p hc.n (by decide)
  have htn : tp ≠ np := Blk.ne hc.t hc.n (by decide)
  have hpt : tp ≠ pb := Blk.ne hc.t hc.p (by decide)
  have HR : Hid (∀ w1, Stepped w w1 (fun b => lab b = 1) bm v np th (made + 1) (A.load th s.n.cell) → NowAt w1 np ⟨2, s.n.cell, A.peek s.n.cell⟩ →
      Calls Try.prog 92 #[.pointer (some ⟨pb, 4, none⟩), .pointer (some ⟨rm, 0, none⟩), .int .i64 th] w1 fun e w' => e = .returned (.bool true) ∧ Went w w' lab bm rm v pb np tp th made { s with n := ⟨2, s.n.cell, A.peek s.n.cell⟩ } (A.load th s.n.cell)) := by
    intro w1 hS hN
    have hP1 : PAt w1 pb (s.ps np tp) := Blk.fr hc.p hS.2.2 (by rintro (e | e | e); omega; subst e; omega; exact hpn e)
    have hT1 : TakeAt w1 tp s.t := Blk.fr hc.t hS.2.2 (by rintro (e | e | e); omega; subst e; omega; exact htn e)
    refine (RNow_step hP1 (by simp [CS.ps, h0]) (rm_behind h hS hlv hcn) (by rintro ⟨e, _⟩; omega) th hk hn ht).mono ?_
    rintro e w' ⟨rfl, hP2, hS2⟩
    refine ⟨rfl, went_of h hc hv hlv (.inl rfl) hS hS2 hP2 (Blk.fr hN hS2.2 ?_) (Blk.fr hT1 hS2.2 ?_)⟩
    · rintro (e | e)
      · omega
      · exact hpn e.symm
    · rintro (e | e)
      · omega
      · exact hpt e
  generalize A.load th s.n.cell = A' at *
  generalize A.peek s.n.cell = y at *
  clear hn ht hnp hb hk h0
  go_enter Try.func55, Try.ntmps55
  go_wp2_with fail
  refine h1.out.mono ?_
  rintro e w1 ⟨rfl, hN, hS⟩
  have d2 : w1.cell? ⟨pb, 2, none⟩ = some (.pointer (some ⟨np, 0, none⟩)) := Blk.cell (Blk.fr hc.p hS.2.2 (by rintro (e | e | e); omega; subst e; omega; exact hpn e)) 2
  go_wp2_with fail
  refine (HR.out _ hS hN).mono ?_
  rintro e w2 ⟨rfl, hW⟩
  obtain ⟨C', hC⟩ := hW.cat
  go_wp2_with fail
  refine (same_any hC).mono ?_
  rintro e w3 ⟨rfl, n, rfl⟩
  go_wp2
  go_ret2
  exact ⟨rfl, hW.drawn n⟩
set_option maxRecDepth 100000 in
theorem step_lt (hc : CAt w (fun b => lab b = 3) pb np tp s) (h : Both w lab bm rm A) (hv : VW w v bm th made) (hlv : lab v = 4) (hb : s.isNow = false) (h0 : s.t.at_ = 0) (hlt : A.peek s.t.cell < s.t.most) (hk : 0 ≤ s.t.cell) (hn : A.cells.length ≤ 4194304) (ht : A.trace.length ≤ 1000000000) (hm0 : 0 ≤ made) (hm1 : made ≤ 1000000000) :
    Calls Try.prog 55 #[.pointer (some ⟨pb, 0, none⟩), .pointer (some ⟨v, 0, none⟩), .pointer (some ⟨rm, 0, none⟩), .int .i64 th] w fun e w' => e = .returned (.tuple #[.bool false, .bool true]) ∧ Went w w' lab bm rm v pb np tp th made { s with t := { s.t with at_ := 1, t := A.peek s.t.cell } } (A.load th s.t.cell) := by
  have c0 : w.cell? ⟨pb, 0, none⟩ = some (.bool s.isNow) := Blk.cell hc.p 0
  rw [hb] at c0
  have c3 : w.cell? ⟨pb, 3, none⟩ = some (.pointer (some ⟨tp, 0, none⟩)) := Blk.cell hc.p 3
  have hnp : TakeAt w tp ⟨0, s.t.cell, s.t.most, s.t.t, s.t.stamp, s.t.e, s.t.moved⟩ := by have := hc.t; rw [← h0]; exact this
  have hcn : lab np = 3 := hc.cn
  have hcp : lab pb = 3 := hc.cp
  have hct : lab tp = 3 := hc.ct
  have h1' := Take_step0 hnp h.pm hv (by omega) hk hn ht hm0 hm1
  have hd : decide (A.peek s.t.cell < s.t.most) = true := by simpa using hlt
  rw [if_pos hlt, hd] at h1'
  have h1 := Lib.hid h1'
  clear h1'
  have hpn : pb ≠ np := Blk.ne hc.p hc.n (by decide)
  have htn : tp ≠ np := Blk.ne hc.t hc.n (by decide)
  have hpt : tp ≠ pb := Blk.ne hc.t hc.p (by decide)
  have HR : Hid (∀ w1, Stepped w w1 (fun b => lab b = 1) bm v tp th (made + 1) (A.load th s.t.cell) → TakeAt w1 tp ({ s with t := { s.t with at_ := 1, t := A.peek s.t.cell } } : CS).t →
      Calls Try.prog 93 #[.pointer (some ⟨pb, 7, none⟩), .pointer (some ⟨rm, 0, none⟩), .int .i64 th] w1 fun e w' => e = .returned (.bool false) ∧ Went w w' lab bm rm v pb np tp th made { s with t := { s.t with at_ := 1, t := A.peek s.t.cell } } (A.load th s.t.cell)) := by
    intro w1 hS hN
    have hP1 : PAt w1 pb (s.ps np tp) := Blk.fr hc.p hS.2.2 (by rintro (e | e | e); omega; subst e; omega; exact hpt e.symm)
    have hT1 : NowAt w1 np s.n := Blk.fr hc.n hS.2.2 (by rintro (e | e | e); omega; subst e; omega; exact htn e.symm)
    have hR := RTake_step0 hP1 h0 (rm_behind h hS hlv hct) (by rintro ⟨e, _⟩; omega) th hk hn ht
    rw [if_pos (show A.peek (s.ps np tp).tc < (s.ps np tp).tm from hlt), show decide (A.peek (s.ps np tp).tc < (s.ps np tp).tm) = true from hd] at hR
    refine hR.mono ?_
    rintro e w' ⟨rfl, hP2, hS2⟩
    refine ⟨rfl, went_of h hc hv hlv (.inr rfl) hS hS2 hP2 (Blk.fr hT1 hS2.2 ?_) (Blk.fr hN hS2.2 ?_)⟩
    · rintro (e | e)
      · omega
      · exact hpn e.symm
    · rintro (e | e)
      · omega
      · exact hpt e
  clear hd hlt
  generalize A.peek s.t.cell = y at *
  generalize A.load th s.t.cell = A' at *
  clear hn ht hnp hb hk h0
  go_enter Try.func55, Try.ntmps55
  go_wp2_with fail
  refine h1.out.mono ?_
  rintro e w1 ⟨rfl, hN, hS⟩
  have d2 : w1.cell? ⟨pb, 3, none⟩ = some (.pointer (some ⟨tp, 0, none⟩)) := Blk.cell (Blk.fr hc.p hS.2.2 (by rintro (e | e | e); omega; subst e; omega; exact hpt e.symm)) 3
  go_wp2_with fail
  refine (HR.out _ hS hN).mono ?_
  rintro e w2 ⟨rfl, hW⟩
  obtain ⟨C', hC⟩ := hW.cat
  go_wp2_with fail
  refine (same_any hC).mono ?_
  rintro e w3 ⟨rfl, n, rfl⟩
  go_wp2
  go_ret2
  exact ⟨rfl, hW.drawn n⟩
set_option maxRecDepth 100000 in
theorem step_ge (hc : CAt w (fun b => lab b = 3) pb np tp s) (h : Both w lab bm rm A) (hv : VW w v bm th made) (hlv : lab v = 4) (hb : s.isNow = false) (h0 : s.t.at_ = 0) (hlt : ¬ A.peek s.t.cell < s.t.most) (hk : 0 ≤ s.t.cell) (hn : A.cells.length ≤ 4194304) (ht : A.trace.length ≤ 1000000000) (hm0 : 0 ≤ made) (hm1 : made ≤ 1000000000) :
    Calls Try.prog 55 #[.pointer (some ⟨pb, 0, none⟩), .pointer (some ⟨v, 0, none⟩), .pointer (some ⟨rm, 0, none⟩), .int .i64 th] w fun e w' => e = .returned (.tuple #[.bool true, .bool true]) ∧ Went w w' lab bm rm v pb np tp th made { s with t := { s.t with at_ := 2, t := A.peek s.t.cell, e := 31 } } (A.load th s.t.cell) := by
  have c0 : w.cell? ⟨pb, 0, none⟩ = some (.bool s.isNow) := Blk.cell hc.p 0
  rw [hb] at c0
  have c3 : w.cell? ⟨pb, 3, none⟩ = some (.pointer (some ⟨tp, 0, none⟩)) := Blk.cell hc.p 3
  have hnp : TakeAt w tp ⟨0, s.t.cell, s.t.most, s.t.t, s.t.stamp, s.t.e, s.t.moved⟩ := by have := hc.t; rw [← h0]; exact this
  have hcn : lab np = 3 := hc.cn
  have hcp : lab pb = 3 := hc.cp
  have hct : lab tp = 3 := hc.ct
  have h1' := Take_step0 hnp h.pm hv (by omega) hk hn ht hm0 hm1
  have hd : decide (A.peek s.t.cell < s.t.most) = false := by simpa using hlt
  rw [if_neg hlt, hd] at h1'
  have h1 := Lib.hid h1'
  clear h1'
  have hpn : pb ≠ np := Blk.ne hc.p hc.n (by decide)
  have htn : tp ≠ np := Blk.ne hc.t hc.n (by decide)
  have hpt : tp ≠ pb := Blk.ne hc.t hc.p (by decide)
  have HR : Hid (∀ w1, Stepped w w1 (fun b => lab b = 1) bm v tp th (made + 1) (A.load th s.t.cell) → TakeAt w1 tp ({ s with t := { s.t with at_ := 2, t := A.peek s.t.cell, e := 31 } } : CS).t →
      Calls Try.prog 93 #[.pointer (some ⟨pb, 7, none⟩), .pointer (some ⟨rm, 0, none⟩), .int .i64 th] w1 fun e w' => e = .returned (.bool true) ∧ Went w w' lab bm rm v pb np tp th made { s with t := { s.t with at_ := 2, t := A.peek s.t.cell, e := 31 } } (A.load th s.t.cell)) := by
    intro w1 hS hN
    have hP1 : PAt w1 pb (s.ps np tp) := Blk.fr hc.p hS.2.2 (by rintro (e | e | e); omega; subst e; omega; exact hpt e.symm)
    have hT1 : NowAt w1 np s.n := Blk.fr hc.n hS.2.2 (by rintro (e | e | e); omega; subst e; omega; exact htn e.symm)
    have hR := RTake_step0 hP1 h0 (rm_behind h hS hlv hct) (by rintro ⟨e, _⟩; omega) th hk hn ht
    rw [if_neg (show ¬ A.peek (s.ps np tp).tc < (s.ps np tp).tm from hlt), show decide (A.peek (s.ps np tp).tc < (s.ps np tp).tm) = false from hd] at hR
    refine hR.mono ?_
    rintro e w' ⟨rfl, hP2, hS2⟩
    refine ⟨rfl, went_of h hc hv hlv (.inr rfl) hS hS2 hP2 (Blk.fr hT1 hS2.2 ?_) (Blk.fr hN hS2.2 ?_)⟩
    · rintro (e | e)
      · omega
      · exact hpn e.symm
    · rintro (e | e)
      · omega
      · exact hpt e
  clear hd hlt
  generalize A.peek s.t.cell = y at *
  generalize A.load th s.t.cell = A' at *
  clear hn ht hnp hb hk h0
  go_enter Try.func55, Try.ntmps55
  go_wp2_with fail
  refine h1.out.mono ?_
  rintro e w1 ⟨rfl, hN, hS⟩
  have d2 : w1.cell? ⟨pb, 3, none⟩ = some (.pointer (some ⟨tp, 0, none⟩)) := Blk.cell (Blk.fr hc.p hS.2.2 (by rintro (e | e | e); omega; subst e; omega; exact hpt e.symm)) 3
  go_wp2_with fail
  refine (HR.out _ hS hN).mono ?_
  rintro e w2 ⟨rfl, hW⟩
  obtain ⟨C', hC⟩ := hW.cat
  go_wp2_with fail
  refine (same_any hC).mono ?_
  rintro e w3 ⟨rfl, n, rfl⟩
  go_wp2
  go_ret2
  exact ⟨rfl, hW.drawn n⟩
set_option maxRecDepth 100000 in
theorem step_cas (hc : CAt w (fun b => lab b = 3) pb np tp s) (h : Both w lab bm rm A) (hv : VW w v bm th made) (hlv : lab v = 4) (hb : s.isNow = false) (h0 : s.t.at_ = 1) (hk : 0 ≤ s.t.cell) (hn : A.cells.length ≤ 4194304) (ht : A.trace.length ≤ 1000000000) (hm0 : 0 ≤ made) (hm1 : made ≤ 1000000000) :
    Calls Try.prog 55 #[.pointer (some ⟨pb, 0, none⟩), .pointer (some ⟨v, 0, none⟩), .pointer (some ⟨rm, 0, none⟩), .int .i64 th] w fun e w' => e = .returned (.tuple #[.bool true, .bool true]) ∧ Went w w' lab bm rm v pb np tp th made { s with t := { s.t with at_ := 2, stamp := s.t.t, moved := A.hit s.t.cell s.t.t } } (A.cas th s.t.cell s.t.t (IntKind.u64.wrap (s.t.t + 1))) := by
  have c0 : w.cell? ⟨pb, 0, none⟩ = some (.bool s.isNow) := Blk.cell hc.p 0
  rw [hb] at c0
  have c3 : w.cell? ⟨pb, 3, none⟩ = some (.pointer (some ⟨tp, 0, none⟩)) := Blk.cell hc.p 3
  have hnp : TakeAt w tp ⟨1, s.t.cell, s.t.most, s.t.t, s.t.stamp, s.t.e, s.t.moved⟩ := by have := hc.t; rw [← h0]; exact this
  have hcn : lab np = 3 := hc.cn
  have hcp : lab pb = 3 := hc.cp
  have hct : lab tp = 3 := hc.ct
  have h1' := Take_step1 hnp h.pm hv (by omega) hk hn ht hm0 hm1
  have h1 := Lib.hid h1'
  clear h1'
  have hpn : pb ≠ np := Blk.ne hc.p hc.n (by decide)
  have htn : tp ≠ np := Blk.ne hc.t hc.n (by decide)
  have hpt : tp ≠ pb := Blk.ne hc.t hc.p (by decide)
  have HR : Hid (∀ w1, Stepped w w1 (fun b => lab b = 1) bm v tp th (made + 1) (A.cas th s.t.cell s.t.t (IntKind.u64.wrap (s.t.t + 1))) → TakeAt w1 tp ({ s with t := { s.t with at_ := 2, stamp := s.t.t, moved := A.hit s.t.cell s.t.t } } : CS).t →
      Calls Try.prog 93 #[.pointer (some ⟨pb, 7, none⟩), .pointer (some ⟨rm, 0, none⟩), .int .i64 th] w1 fun e w' => e = .returned (.bool true) ∧ Went w w' lab bm rm v pb np tp th made { s with t := { s.t with at_ := 2, stamp := s.t.t, moved := A.hit s.t.cell s.t.t } } (A.cas th s.t.cell s.t.t (IntKind.u64.wrap (s.t.t + 1)))) := by
    intro w1 hS hN
    have hP1 : PAt w1 pb (s.ps np tp) := Blk.fr hc.p hS.2.2 (by rintro (e | e | e); omega; subst e; omega; exact hpt e.symm)
    have hT1 : NowAt w1 np s.n := Blk.fr hc.n hS.2.2 (by rintro (e | e | e); omega; subst e; omega; exact htn e.symm)
    have hR := RTake_step1 hP1 h0 (rm_behind h hS hlv hct) (by rintro ⟨e, _⟩; omega) th hk hn ht
    refine hR.mono ?_
    rintro e w' ⟨rfl, hP2, hS2⟩
    refine ⟨rfl, went_of h hc hv hlv (.inr rfl) hS hS2 hP2 (Blk.fr hT1 hS2.2 ?_) (Blk.fr hN hS2.2 ?_)⟩
    · rintro (e | e)
      · omega
      · exact hpn e.symm
    · rintro (e | e)
      · omega
      · exact hpt e
  generalize A.hit s.t.cell s.t.t = y at *
  generalize A.cas th s.t.cell s.t.t (IntKind.u64.wrap (s.t.t + 1)) = A' at *
  clear hn ht hnp hb hk h0
  go_enter Try.func55, Try.ntmps55
  go_wp2_with fail
  refine h1.out.mono ?_
  rintro e w1 ⟨rfl, hN, hS⟩
  have d2 : w1.cell? ⟨pb, 3, none⟩ = some (.pointer (some ⟨tp, 0, none⟩)) := Blk.cell (Blk.fr hc.p hS.2.2 (by rintro (e | e | e); omega; subst e; omega; exact hpt e.symm)) 3
  go_wp2_with fail
  refine (HR.out _ hS hN).mono ?_
  rintro e w2 ⟨rfl, hW⟩
  obtain ⟨C', hC⟩ := hW.cat
  go_wp2_with fail
  refine (same_any hC).mono ?_
  rintro e w3 ⟨rfl, n, rfl⟩
  go_wp2
  go_ret2
  exact ⟨rfl, hW.drawn n⟩
/-- a step of a call, whatever it is -/
theorem step_any (hc : CAt w (fun b => lab b = 3) pb np tp s) (h : Both w lab bm rm A) (hv : VW w v bm th made) (hlv : lab v = 4) (ho : s.ok) (hn : A.cells.length ≤ 4194304) (ht : A.trace.length ≤ 1000000000) (hm0 : 0 ≤ made) (hm1 : made ≤ 1000000000) :
    Calls Try.prog 55 #[.pointer (some ⟨pb, 0, none⟩), .pointer (some ⟨v, 0, none⟩), .pointer (some ⟨rm, 0, none⟩), .int .i64 th] w fun e w' => e = .returned (.tuple #[.bool (s.step A th).1.fin, .bool true]) ∧ Went w w' lab bm rm v pb np tp th made (s.step A th).1 (s.step A th).2 := by
  obtain ⟨k1, k2, k3, k4⟩ := ho
  cases hf : s.fin
  · cases hb : s.isNow
    · have hne : s.t.at_ ≠ 2 := by simpa [CS.fin, hb] using hf
      rcases k4 with h0 | h0 | h0
      · by_cases hlt : A.peek s.t.cell < s.t.most
        · have e : s.step A th = ({ s with t := { s.t with at_ := 1, t := A.peek s.t.cell } }, A.load th s.t.cell) := by
            unfold CS.step; rw [hf, hb]; simp only [if_true, if_false, h0, hlt, Bool.false_eq_true]
          rw [e]
          have e2 : CS.fin { s with t := { s.t with at_ := 1, t := A.peek s.t.cell } } = false := by simp [CS.fin, hb]
          rw [e2]
          exact step_lt hc h hv hlv hb h0 hlt k2 hn ht hm0 hm1
        · have e : s.step A th = ({ s with t := { s.t with at_ := 2, t := A.peek s.t.cell, e := 31 } }, A.load th s.t.cell) := by
            unfold CS.step; rw [hf, hb]; simp only [if_true, if_false, h0, hlt, Bool.false_eq_true]
          rw [e]
          have e2 : CS.fin { s with t := { s.t with at_ := 2, t := A.peek s.t.cell, e := 31 } } = true := by simp [CS.fin, hb]
          rw [e2]
          exact step_ge hc h hv hlv hb h0 hlt k2 hn ht hm0 hm1
      · have e : s.step A th = ({ s with t := { s.t with at_ := 2, stamp := s.t.t, moved := A.hit s.t.cell s.t.t } }, A.cas th s.t.cell s.t.t (IntKind.u64.wrap (s.t.t + 1))) := by
          unfold CS.step; rw [hf, hb]; simp only [if_true, if_false, h0, Bool.false_eq_true]; rfl
        rw [e]
        have e2 : CS.fin { s with t := { s.t with at_ := 2, stamp := s.t.t, moved := A.hit s.t.cell s.t.t } } = true := by simp [CS.fin, hb]
        rw [e2]
        exact step_cas hc h hv hlv hb h0 k2 hn ht hm0 hm1
      · exact absurd h0 hne
    · have hne : s.n.at_ ≠ 2 := by simpa [CS.fin, hb] using hf
      have h0 : s.n.at_ = 0 := by rcases k3 with h0 | h0; exact h0; exact absurd h0 hne
      have e : s.step A th = ({ s with n := ⟨2, s.n.cell, A.peek s.n.cell⟩ }, A.load th s.n.cell) := by
        unfold CS.step; rw [hf, hb]; simp only [if_true, if_false, Bool.false_eq_true]
      rw [e]
      have e2 : CS.fin { s with n := ⟨2, s.n.cell, A.peek s.n.cell⟩ } = true := by simp [CS.fin, hb]
      rw [e2]
      exact step_now hc h hv hlv hb h0 k1 hn ht hm0 hm1
  · have e : s.step A th = (s, A) := by unfold CS.step; rw [hf]; rfl
    rw [e]
    show Calls _ _ _ _ fun e w' => e = .returned (.tuple #[.bool s.fin, .bool true]) ∧ _
    rw [hf]
    exact step_fin hc h hv hf
end
end Go.Proofs.Ytfbdgodebeggbaa

/-
  The document's Fork. No condition.
-/
import Derived.Test.YthggpbbnhjaegaaRLive
import Derived.Test.YthggpbbnhjaegaaRTr
import Derived.Test.YthggpbbnhjaegaaBookW
namespace Go.Proofs.Ythggpbbnhjaegaa
open Go Go.RowKit
set_option linter.unusedSimpArgs false
set_option linter.unusedVariables false
section
variable {w w' : World} {F G S : Nat → Prop} {rm r : Nat} {tv v av : Value} {rows : List (Acc × Value)} {A : Mem} {vs : List Int} {lv : Bool}
theorem rstep_app {ops : Array Oper} {o : Oper} {a : Act} {K : Act → World → Prop} {Q : Exit → Act → World → Prop} {E : Prop} (hgd : o.guard = none) (s x : Operand)
    (ho : o.op = .call { callee := .builtin .append, args := #[s, x], argTypes := #[34, 34] }) (base : Nat) (v : Value) (n : Nat) (xs : List Value) (hs : a.eval s = v) (hown : w.ownsRow base 33 1 v n xs)
    (ao : Option Addr) (m c : Nat) (hx : a.eval x = .slice ao m c) (news : List Value) (hl : news.length = m) (hnone : ao = none → m = 0 ∧ c = 0) (hc : ∀ ad, ao = some ad → ∀ j u, news[j]? = some u → w.cell? (ad.add j) = some u) (h1 : ∀ u ∈ news, u.oneCell' = true)
    (hb : n + m ≤ 2000000000) (hbase : base ≤ w.heap.size) (h : ∀ up uc w', w'.ownsRow base 33 1 (.slice up (n + m) uc) (n + m) (xs ++ news) → w.grownBy w' v.ownBlock → K (a.put o.dst (.slice up (n + m) uc)) w') :
    if Region.wanted o (yielded ops a.tmps) = true then Oper.wp Try.prog o a w K Q else E := by
  have hw : Region.wanted o (yielded ops a.tmps) = true := by simp [Region.wanted, hgd]
  rw [if_pos hw]
  obtain ⟨i0, hi, hz0, hz1, hz2⟩ := info_parts infoU
  cases ao with
  | some ad =>
    refine wp_append_own w s x 34 ho base 33 i0 _ 1 8 Try.underlying34 hi hz0 hz1 hz2 rfl (by decide) _ n xs hs hown ad m c news hx (by omega) (hc ad rfl) h1 (by unfold maxLen; omega) (by omega) hbase ?_
    intro v' w' h1 h2 _
    obtain ⟨up, uc, rfl⟩ := r_form h1
    exact h up uc w' h1 h2
  | none =>
    obtain ⟨rfl, rfl⟩ := hnone rfl
    have hnews : news = [] := List.eq_nil_of_length_eq_zero hl
    subst hnews
    obtain ⟨up, uc, rfl⟩ := r_form hown
    have hrun := run_append_owned_none (P := Try.prog) w base 34 o.type 33 i0 1 Try.underlying34 hi _ n xs hown
    unfold Oper.wp
    simp [execOp, ho, resolve, invoke, builtin, hs, hx, hrun, Result.andThen]
    have h2 : K (a.put o.dst (.slice up n uc)) w := by simpa using h up uc w (by simpa using hown) ⟨rfl, rfl, rfl, Nat.le_refl _, fun _ _ _ => rfl⟩
    exact h2
theorem rown_split {B : Nat} {v' : Value} {n : Nat} {xs : List Value} (h : w.ownsRow B 33 1 v' n xs) (hn : 0 < n) : ∃ g cap sp, v' = .slice (some ⟨g, 0, none⟩) n cap ∧ n ≤ cap ∧ B ≤ g ∧ Blk w g 33 (xs ++ sp).toArray := by
  rcases h.2 with ⟨_, h0⟩ | ⟨g, cap, cur, h1, hb, hh, hc, _, hs, ht⟩
  · omega
  · refine ⟨g, cap, cur.toList.drop n, h1, hc, hb, ?_⟩
    have : xs ++ cur.toList.drop n = cur.toList := by rw [← ht, Nat.mul_one, List.take_append_drop]
    rw [this]; exact hh
set_option maxHeartbeats 4000000 in
set_option maxRecDepth 100000 in
theorem RFork_x (h : RMx w F rm r tv rows lv A) (hn0 : 0 < A.cells.length) (hn : A.cells.length ≤ 4194304) :
    Calls Try.prog 9 #[.pointer (some ⟨rm, 0, none⟩)] w fun e w' => ∃ rm', e = .returned (.pointer (some ⟨rm', 0, none⟩)) ∧ Hid (RM w' (fun k => w.heap.size ≤ k) rm' lv { A with trace := [] } ∧ Below w.heap.size w w') := by
  have HR := Lib.hid h
  have HS : Hid (∀ wx, Below w.heap.size w wx → (wx.cell? ⟨rm, 1, none⟩ = some (.int .i64 A.next) ∧ wx.cell? ⟨rm, 3, none⟩ = some (.bool lv))) := fun wx hb => ⟨tcell (h.bM.cell 1) hb, tcell (h.bM.cell 3) hb⟩
  have c1 := (HS.out w (Below.refl _ _)).1
  have c2 := (HS.out w (Below.refl _ _)).2
  have b1 : Below w.heap.size w w.drew := (Below.refl _ _).drew
  have b2 : Below w.heap.size w (w.alloc (.cells #[.slice none 0 0, .int .i64 A.next, .slice none 0 0, .bool lv] 62)).drew := ((Below.refl _ _).alloc (Nat.le_refl _) _).drew
  have HB0 : Hid (Blk (w.alloc (.cells #[.slice none 0 0, .int .i64 A.next, .slice none 0 0, .bool lv] 62)).drew w.heap.size 62 #[.slice none 0 0, .int .i64 A.next, .slice none 0 0, .bool lv]) := (Blk.made w _ _).drawn 1
  clear h
  go_enter Try.func9, Try.ntmps9
  go_upto_region 3 with fail
  go_cut [3] (fun s3 wx => s3 = .pointer (some ⟨w.heap.size, 0, none⟩) ∧ Hid (Blk wx w.heap.size 62 #[.slice none 0 0, .int .i64 A.next, .slice none 0 0, .bool lv] ∧ Below w.heap.size w wx))
  case first =>
    go_region_held3 (fun wx => wx.cell? ⟨rm, 1, none⟩ = some (.int .i64 A.next) ∧ wx.cell? ⟨rm, 3, none⟩ = some (.bool lv))
      (exact HS.out _ (by assumption))
      (fail)
    all_goals
      go_wp2_with fail
      go_meet
      exact ⟨rfl, HB0.out, b2⟩
  case rest =>
    obtain ⟨rfl, HB⟩ := hcut
    obtain ⟨hb0, hbw⟩ := HB.out
    obtain ⟨cp, hcp, hM⟩ := HR.out.bM'
    obtain ⟨sp, hRr⟩ := HR.out.bR'
    have hrm : rm ≠ w.heap.size := fun e => by have := hM.lt; omega
    have hM2 : Blk wc rm 62 _ := hM.below hbw
    have HS2 : Hid (∀ wx, Fr (fun b => b = w.heap.size) wc wx → wx.cell? ⟨rm, 0, none⟩ = some (.slice (some ⟨r, 0, none⟩) A.cells.length cp)) := fun wx hf => (hM2.fr hf hrm).cell 0
    have e0 : wc.cell? ⟨w.heap.size, 0, none⟩ = some (.slice none 0 0) := hb0.cell 0
    have e1 : wc.drew.cell? ⟨w.heap.size, 0, none⟩ = some (.slice none 0 0) := hb0.cell 0
    have r0 : Fr (fun b => b = w.heap.size) wc wc := Fr.refl _ _
    have r1 : Fr (fun b => b = w.heap.size) wc wc.drew := (Fr.refl _ wc).drawn 1
    have HNW : Hid (∀ wx, Below wc.heap.size wc wx → ∀ ad, some (⟨r, 0, none⟩ : Addr) = some ad → ∀ j u, (us A.cells)[j]? = some u → wx.cell? (ad.add j) = some u) := by
      intro wx hb ad e j u hu
      injection e with e
      subst e
      have hadd : (⟨r, 0, none⟩ : Addr).add j = ⟨r, j, none⟩ := by unfold Addr.add; split <;> simp_all
      rw [hadd]
      refine tcell (tcell ?_ hbw) hb
      rw [hRr.cell j]
      have hj := (List.getElem?_eq_some_iff.1 hu).1
      simp only [List.getElem?_toArray]
      rw [List.getElem?_append_left hj]
      exact hu
    have HUL : Hid ((us A.cells).length = A.cells.length) := by show _ = _; simp [us]
    have HEND : Hid (∀ up uc w6, w6.ownsRow wc.heap.size 33 1 (.slice up (0 + A.cells.length) uc) (0 + A.cells.length) ([] ++ us A.cells) → wc.drew.grownBy w6 (Value.slice none 0 0).ownBlock → (w6.cell? ⟨w.heap.size, 0, none⟩ = some (.slice none 0 0) ∧ w6.frozen? ⟨w.heap.size, 0, none⟩ = false ∧ Fr (fun b => b = w.heap.size) wc w6 ∧ Fr (fun b => b = w.heap.size) wc (w6.setCell ⟨w.heap.size, 0, none⟩ (.slice up A.cells.length uc))) ∧
        Hid (RM (w6.setCell ⟨w.heap.size, 0, none⟩ (.slice up (0 + A.cells.length) uc)) (fun k => w.heap.size ≤ k) w.heap.size lv { A with trace := [] } ∧ Below w.heap.size w (w6.setCell ⟨w.heap.size, 0, none⟩ (.slice up (0 + A.cells.length) uc)))) := by
      intro up uc w6 ho hg
      have f : Fr (fun _ => False) wc w6 := ((Fr.refl (fun _ => False) wc).drawn 1).grown hg (fun k e => by simp [Value.ownBlock] at e)
      have hb6 := hb0.fr f (fun e => e)
      obtain ⟨g, cap, sp2, e, hcap, hge, hbg⟩ := rown_split ho (by omega)
      have hws := hbw.size
      have hne : g ≠ w.heap.size := fun e => by have := hb0.lt; omega
      have fS : Fr (fun b => b = w.heap.size) wc w6 := f.mono (fun _ _ e => e.elim)
      refine ⟨⟨hb6.cell 0, hb6.cold 0, fS, fS.put (S := fun b => b = w.heap.size) (p := ⟨w.heap.size, 0, none⟩) (.inl rfl) _⟩, ?_, ?_⟩
      · rw [e]
        refine ⟨g, .slice none 0 0, [], ⟨⟨cap, by simpa using hcap, ?_⟩, ⟨sp2, ?_⟩, World.ownsRow_nil _ _ _ _, rfl, (by intro x hx; cases hx), Nat.le_refl _, ?_, (by intro g e; cases e)⟩⟩
        · have := hb6.put 0 (.slice (some ⟨g, 0, none⟩) (0 + A.cells.length) cap)
          simpa using this
        · simpa using hbg.far (p := ⟨w.heap.size, 0, none⟩) hne (.slice (some ⟨g, 0, none⟩) (0 + A.cells.length) cap)
        · show w.heap.size ≤ g; omega
      · have f2 : Fr (fun b => b = w.heap.size) wc (w6.setCell ⟨w.heap.size, 0, none⟩ (.slice up (0 + A.cells.length) uc)) := fS.put (S := fun b => b = w.heap.size) (p := ⟨w.heap.size, 0, none⟩) (.inl rfl) _
        exact hbw.trans (f2.to_below hws fun k hk e => by omega)
    have b3 : Below wc.heap.size wc wc.drew := (Below.refl _ _).drew
    have hsz : wc.heap.size ≤ wc.drew.heap.size := b3.size
    have hcl : 0 + A.cells.length ≤ 2000000000 := by omega
    clear hb0 hbw hcp hM hM2 hRr HB HS HB0 b1 b2 c1 c2
    go_upto_region 4 with fail
    refine wp_region_held_drew (S := (fun w' => w'.cell? ⟨rm, 0, none⟩ = some (.slice (some ⟨r, 0, none⟩) A.cells.length cp))) (by kernel_rfl) (by first | exact HS2.out _ r1 | exact HS2.out _ r0) (fun hHeld => ?_)
    refine wpAnyH_take (i := 0) (v := ?vvf4_1) rfl (by kernel_rfl) (by kernel_rfl) (by kernel_rfl) (fun _ _ _ h => h) (Or.inl ⟨by rfl, ?hyf4_1⟩) hHeld ?restf4_1
    case hyf4_1 => first | (intro w hSw; (try dsimp only at hSw); go_simp; done) | (intro w hSw; (try dsimp only at hSw); go_simp; with_reducible rfl)
    try simp only [Act.put, List.setIfInBounds_toArray, List.set_cons_zero, List.set_cons_succ]
    refine wpAnyH_take (i := 1) (v := ?vvf4_2) rfl (by kernel_rfl) (by kernel_rfl) (by kernel_rfl) (fun _ _ _ h => h) (Or.inl ⟨by rfl, ?hyf4_2⟩) hHeld ?restf4_2
    case hyf4_2 => first | (intro w hSw; (try dsimp only at hSw); go_simp; done) | (intro w hSw; (try dsimp only at hSw); go_simp; with_reducible rfl)
    try simp only [Act.put, List.setIfInBounds_toArray, List.set_cons_zero, List.set_cons_succ]
    refine wpAnyH_take (i := 2) (v := ?vvf4_3) rfl (by kernel_rfl) (by kernel_rfl) (by kernel_rfl) (fun _ _ _ h => h) (Or.inl ⟨by rfl, ?hyf4_3⟩) hHeld ?restf4_3
    case hyf4_3 => first | (intro w hSw; (try dsimp only at hSw); go_simp; done) | (intro w hSw; (try dsimp only at hSw); go_simp; with_reducible rfl)
    try simp only [Act.put, List.setIfInBounds_toArray, List.set_cons_zero, List.set_cons_succ]
    refine wpAnyH_take (i := 3) (v := ?vvf4_4) rfl (by kernel_rfl) (by kernel_rfl) (by kernel_rfl) (fun _ _ _ h => h) (Or.inl ⟨by rfl, ?hyf4_4⟩) hHeld ?restf4_4
    case hyf4_4 => first | (intro w hSw; (try dsimp only at hSw); go_simp; done) | (intro w hSw; (try dsimp only at hSw); go_simp; with_reducible rfl)
    try simp only [Act.put, List.setIfInBounds_toArray, List.set_cons_zero, List.set_cons_succ]
    refine wpAnyH_take (i := 5) (v := ?vvf4_5) rfl (by kernel_rfl) (by kernel_rfl) (by kernel_rfl) (fun _ _ _ h => h) (Or.inl ⟨by rfl, ?hyf4_5⟩) hHeld ?restf4_5
    case hyf4_5 => first | (intro w hSw; (try dsimp only at hSw); go_simp; done) | (intro w hSw; (try dsimp only at hSw); go_simp; with_reducible rfl)
    try simp only [Act.put, List.setIfInBounds_toArray, List.set_cons_zero, List.set_cons_succ]
    refine wpAnyH_take (i := 6) (v := ?vvf4_6) rfl (by kernel_rfl) (by kernel_rfl) (by kernel_rfl) (fun _ _ _ h => h) (Or.inl ⟨by rfl, ?hyf4_6⟩) hHeld ?restf4_6
    case hyf4_6 => first | (intro w hSw; (try dsimp only at hSw); go_simp; done) | (intro w hSw; (try dsimp only at hSw); go_simp; with_reducible rfl)
    try simp only [Act.put, List.setIfInBounds_toArray, List.set_cons_zero, List.set_cons_succ]
    refine wpAnyH_take (i := 7) (v := ?vvf4_7) rfl (by kernel_rfl) (by kernel_rfl) (by kernel_rfl) (fun _ _ _ h => h) (Or.inl ⟨by rfl, ?hyf4_7⟩) hHeld ?restf4_7
    case hyf4_7 => first | (intro w hSw; (try dsimp only at hSw); go_simp; done) | (intro w hSw; (try dsimp only at hSw); go_simp; with_reducible rfl)
    try simp only [Act.put, List.setIfInBounds_toArray, List.set_cons_zero, List.set_cons_succ]
    refine wpAnyH_ready (rs := [4, 8]) (by kernel_rfl) (by simp) ?_
    refine AllReadyH.cons rfl (fun K hK => ?_) (AllReadyH.cons rfl (fun K hK => ?_) AllReadyH.nil)
    · go_simp
      refine hK.out _ _ (by first | exact HS2.out _ r1 | exact HS2.out _ r0) (fun hHeld => ?_)
      clear hK K
      refine wpAnyH_ready (rs := [8]) (by kernel_rfl) (by simp) ?_
      refine AllReadyH.cons rfl (fun K hK => ?_) AllReadyH.nil
      go_simp
      refine hK.out _ _ (by first | exact HS2.out _ r1 | exact HS2.out _ r0) (fun hHeld => ?_)
      clear hK K
      refine wpAnyH_ready (rs := [9]) (by kernel_rfl) (by simp) ?_
      refine AllReadyH.cons rfl (fun K hK => ?_) AllReadyH.nil
      refine rstep_app rfl _ _ rfl wc.heap.size _ 0 [] rfl (World.ownsRow_nil _ _ _ _) _ _ _ rfl (us A.cells) HUL.out (fun e => by cases e) (HNW.out _ b3) us_one hcl hsz ?_
      intro up uc w6 ho hg
      obtain ⟨⟨d1, d2, r2, r3⟩, HZ⟩ := HEND.out up uc w6 ho hg
      clear ho hg
      refine hK.out _ _ (HS2.out _ r2) (fun hHeld => ?_)
      clear hK K
      refine wpAnyH_take (i := 10) (v := ?vvf4_8) rfl (by kernel_rfl) (by kernel_rfl) (by kernel_rfl) (fun _ _ _ h => h) (Or.inl ⟨by rfl, ?hyf4_8⟩) hHeld ?restf4_8
      case hyf4_8 => first | (intro w hSw; (try dsimp only at hSw); go_simp; done) | (intro w hSw; (try dsimp only at hSw); go_simp; with_reducible rfl)
      try simp only [Act.put, List.setIfInBounds_toArray, List.set_cons_zero, List.set_cons_succ]
      refine wpAnyH_take (i := 11) (v := ?vvf4_9) rfl (by kernel_rfl) (by kernel_rfl) (by kernel_rfl) (fun _ _ _ h => h) (Or.inl ⟨by rfl, ?hyf4_9⟩) hHeld ?restf4_9
      case hyf4_9 => first | (intro w hSw; (try dsimp only at hSw); go_simp; done) | (intro w hSw; (try dsimp only at hSw); go_simp; with_reducible rfl)
      try simp only [Act.put, List.setIfInBounds_toArray, List.set_cons_zero, List.set_cons_succ]
      refine wpAnyH_ready (rs := [12]) (by kernel_rfl) (by simp) ?_
      refine AllReadyH.cons rfl (fun K hK => ?_) AllReadyH.nil
      go_simp
      refine hK.out _ _ (by first | exact HS2.out _ r3 | (simp only [Nat.zero_add]; exact HS2.out _ r3)) (fun hHeld => ?_)
      clear hK K
      refine wpAnyH_done (by kernel_rfl) ?_ _
      go_wp2_with fail
      go_ret
      exact ⟨_, rfl, by have h := HZ.out; rw [Nat.zero_add] at h; exact h⟩
    · go_simp
      refine hK.out _ _ (by first | exact HS2.out _ r1 | exact HS2.out _ r0) (fun hHeld => ?_)
      clear hK K
      refine wpAnyH_ready (rs := [4]) (by kernel_rfl) (by simp) ?_
      refine AllReadyH.cons rfl (fun K hK => ?_) AllReadyH.nil
      go_simp
      refine hK.out _ _ (by first | exact HS2.out _ r1 | exact HS2.out _ r0) (fun hHeld => ?_)
      clear hK K
      refine wpAnyH_ready (rs := [9]) (by kernel_rfl) (by simp) ?_
      refine AllReadyH.cons rfl (fun K hK => ?_) AllReadyH.nil
      refine rstep_app rfl _ _ rfl wc.heap.size _ 0 [] rfl (World.ownsRow_nil _ _ _ _) _ _ _ rfl (us A.cells) HUL.out (fun e => by cases e) (HNW.out _ b3) us_one hcl hsz ?_
      intro up uc w6 ho hg
      obtain ⟨⟨d1, d2, r2, r3⟩, HZ⟩ := HEND.out up uc w6 ho hg
      clear ho hg
      refine hK.out _ _ (HS2.out _ r2) (fun hHeld => ?_)
      clear hK K
      refine wpAnyH_take (i := 10) (v := ?vvf4_10) rfl (by kernel_rfl) (by kernel_rfl) (by kernel_rfl) (fun _ _ _ h => h) (Or.inl ⟨by rfl, ?hyf4_10⟩) hHeld ?restf4_10
      case hyf4_10 => first | (intro w hSw; (try dsimp only at hSw); go_simp; done) | (intro w hSw; (try dsimp only at hSw); go_simp; with_reducible rfl)
      try simp only [Act.put, List.setIfInBounds_toArray, List.set_cons_zero, List.set_cons_succ]
      refine wpAnyH_take (i := 11) (v := ?vvf4_11) rfl (by kernel_rfl) (by kernel_rfl) (by kernel_rfl) (fun _ _ _ h => h) (Or.inl ⟨by rfl, ?hyf4_11⟩) hHeld ?restf4_11
      case hyf4_11 => first | (intro w hSw; (try dsimp only at hSw); go_simp; done) | (intro w hSw; (try dsimp only at hSw); go_simp; with_reducible rfl)
      try simp only [Act.put, List.setIfInBounds_toArray, List.set_cons_zero, List.set_cons_succ]
      refine wpAnyH_ready (rs := [12]) (by kernel_rfl) (by simp) ?_
      refine AllReadyH.cons rfl (fun K hK => ?_) AllReadyH.nil
      go_simp
      refine hK.out _ _ (by first | exact HS2.out _ r3 | (simp only [Nat.zero_add]; exact HS2.out _ r3)) (fun hHeld => ?_)
      clear hK K
      refine wpAnyH_done (by kernel_rfl) ?_ _
      go_wp2_with fail
      go_ret
      exact ⟨_, rfl, by have h := HZ.out; rw [Nat.zero_add] at h; exact h⟩
end
end Go.Proofs.Ythggpbbnhjaegaa

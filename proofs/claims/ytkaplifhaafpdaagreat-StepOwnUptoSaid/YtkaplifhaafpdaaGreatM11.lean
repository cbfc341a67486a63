/-
  The law's own proc takes a step. No condition.
-/
import Derived.Test.YtkaplifhaafpdaaGreatM10
import Derived.Deep.Cut
import Derived.Deep.DeepCutAuto
import Derived.Deep.RegionHeld3
import Derived.Deep.RegionHeldLaw
namespace Go.Proofs.YtkaplifhaafpdaaGreat
open Go Go.RowKit
set_option linter.unusedSimpArgs false
set_option linter.unusedVariables false
/-- the plan's step number i, as it lies -/
structure DoAt (w : World) (b o i : Nat) (d : Do) (av : Value) : Prop where
  lt : b < w.heap.size
  qk : w.cell? ⟨b, o + i * 5, none⟩ = some (.int .u8 d.kind)
  qx : w.cell? ⟨b, o + i * 5 + 1, none⟩ = some (.int .u64 d.addr)
  qa : w.cell? ⟨b, o + i * 5 + 2, none⟩ = some (.int .u64 d.a)
  qb : w.cell? ⟨b, o + i * 5 + 3, none⟩ = some (.int .u64 d.b)
  qv : w.cell? ⟨b, o + i * 5 + 4, none⟩ = some av
section
variable {w w' w1 w2 w3 w4 w5 : World} {F F' G S : Nat → Prop} {bm v pb : Nat} {th made : Int} {A A' : Mem} {lv gv : Value} {i b o n c ac : Nat} {ap : Option Addr} {got : List Int} {d : Do}
theorem QRel.drawn (h : QRel w w' F bm v pb th made A lv i gv got) (n : Nat) : QRel w (w'.drewN n) F bm v pb th made A lv i gv got := by
  obtain ⟨F', gv', h1, h2, h3, h4⟩ := h
  exact ⟨F', gv', h1.fr ((Fr.refl (fun _ => False) w').drawn n) (fun _ _ e => e) id id (fun _ _ e => e), h2, h3, h4.drawn n⟩
set_option maxHeartbeats 4000000 in
set_option maxRecDepth 100000 in
theorem QStep_any (h : PSt w F bm v pb th made A (.slice (some ⟨b, o, none⟩) n c) i gv got) (hi : i < n) (hn : n ≤ 1000000000) (hd : DoAt w b o i d (.slice ap d.vals.length ac)) (hk : 0 ≤ d.kind ∧ d.kind ≤ 255) (ha : 0 ≤ d.addr) (hva : VA w (.slice ap d.vals.length ac) d.vals) (hoff : d.vals ≠ [] → Off (.slice ap d.vals.length ac) (fun k => F k ∨ k = v ∨ k = pb ∨ gv.ownBlock = some k)) (hnil : ap = none → ac = 0) (hl : d.vals.length ≤ 1000000000) (hA : A.Fit) (hm0 : 0 ≤ made) (hm1 : made ≤ 1000000000) (hg : got.length ≤ 1000000000) :
    Calls Tryz.prog 104 #[.pointer (some ⟨pb, 0, none⟩), .pointer (some ⟨v, 0, none⟩)] w fun e w' => e = .returned (.bool (decide (n ≤ i + 1))) ∧ QRel w w' F bm v pb th (if 1 ≤ d.kind ∧ d.kind ≤ 5 then made + 1 else made) (A.make th d) (.slice (some ⟨b, o, none⟩) n c) (i + 1) gv (got ++ if 1 ≤ d.kind ∧ d.kind ≤ 5 then [A.tell d] else []) := by
  have c0 : w.cell? ⟨pb, 0, none⟩ = some (.slice (some ⟨b, o, none⟩) n c) := h.pr.cell 0
  have c1 : w.cell? ⟨pb, 1, none⟩ = some (.int .i64 i) := h.pr.cell 1
  have t0 : decide ((i : Int) < (n : Int)) = true := by simp; omega
  have i0 : (0 : Int) ≤ (i : Int) := by omega
  have i1 : (i : Int) < (n : Int) := by omega
  have HD := Lib.hid hd
  have HH := Lib.hid h
  clear h hd
  go_enter Tryz.func104, Tryz.ntmps104
  go_wp2_with fail
  go_quiet (fail)
  have HH1 : Hid (PSt (w.drewN nq) F bm v pb th made A (.slice (some ⟨b, o, none⟩) n c) i gv got) := HH.out.bel (((Fr.refl (fun _ => False) w).drawn nq).below (fun _ _ e => e))
  have HD1 : Hid (DoAt (w.drewN nq) b o i d (.slice ap d.vals.length ac)) := ⟨HD.out.lt, HD.out.qk, HD.out.qx, HD.out.qa, HD.out.qb, HD.out.qv⟩
  have HF1 : Hid (Fr (fun _ => False) w (w.drewN nq)) := (Fr.refl _ w).drawn nq
  clear c0 c1
  generalize w.drewN nq = w1 at *
  obtain ⟨hbl, q0, q1, q2, q3, q4⟩ := HD1.out
  have c0 : w1.cell? ⟨pb, 0, none⟩ = some (.slice (some ⟨b, o, none⟩) n c) := HH1.out.pr.cell 0
  have c1 : w1.cell? ⟨pb, 1, none⟩ = some (.int .i64 i) := HH1.out.pr.cell 1
  have hpl : pb < w1.heap.size := Blk.lt HH1.out.pr
  have hS : ∀ o', (w1.alloc o').cell? ⟨pb, 0, none⟩ = some (.slice (some ⟨b, o, none⟩) n c) ∧ (w1.alloc o').cell? ⟨pb, 1, none⟩ = some (.int .i64 i) ∧ (w1.alloc o').cell? ⟨b, o + i * 5, none⟩ = some (.int .u8 d.kind) ∧ (w1.alloc o').cell? ⟨b, o + i * 5 + 1, none⟩ = some (.int .u64 d.addr) ∧ (w1.alloc o').cell? ⟨b, o + i * 5 + 2, none⟩ = some (.int .u64 d.a) ∧ (w1.alloc o').cell? ⟨b, o + i * 5 + 3, none⟩ = some (.int .u64 d.b) ∧ (w1.alloc o').cell? ⟨b, o + i * 5 + 4, none⟩ = some (.slice ap d.vals.length ac) := fun o' =>
    ⟨(World.cell?_alloc_lt w1 o' _ hpl).trans c0, (World.cell?_alloc_lt w1 o' _ hpl).trans c1, (World.cell?_alloc_lt w1 o' _ hbl).trans q0, (World.cell?_alloc_lt w1 o' _ hbl).trans q1, (World.cell?_alloc_lt w1 o' _ hbl).trans q2, (World.cell?_alloc_lt w1 o' _ hbl).trans q3, (World.cell?_alloc_lt w1 o' _ hbl).trans q4⟩
  have HSS := Lib.hid hS
  clear hS
  go_upto_region 2 with fail
  go_region_held3 (fun w' => w'.cell? ⟨pb, 0, none⟩ = some (.slice (some ⟨b, o, none⟩) n c) ∧ w'.cell? ⟨pb, 1, none⟩ = some (.int .i64 i) ∧ w'.cell? ⟨b, o + i * 5, none⟩ = some (.int .u8 d.kind) ∧ w'.cell? ⟨b, o + i * 5 + 1, none⟩ = some (.int .u64 d.addr) ∧ w'.cell? ⟨b, o + i * 5 + 2, none⟩ = some (.int .u64 d.a) ∧ w'.cell? ⟨b, o + i * 5 + 3, none⟩ = some (.int .u64 d.b) ∧ w'.cell? ⟨b, o + i * 5 + 4, none⟩ = some (.slice ap d.vals.length ac))
    (first | exact ⟨c0, c1, q0, q1, q2, q3, q4⟩ | exact HSS.out _) (fail)
  -- [kinds]
  have HP2 : Hid (PSt (w1.alloc (.cells #[.int .u8 d.kind, .int .u64 d.addr, .int .u64 d.a, .int .u64 d.b, .slice ap d.vals.length ac] 109)).drew F bm v pb th made A (.slice (some ⟨b, o, none⟩) n c) i gv got ∧ Blk (w1.alloc (.cells #[.int .u8 d.kind, .int .u64 d.addr, .int .u64 d.a, .int .u64 d.b, .slice ap d.vals.length ac] 109)).drew w1.heap.size 109 #[.int .u8 d.kind, .int .u64 d.addr, .int .u64 d.a, .int .u64 d.b, .slice ap d.vals.length ac] ∧ Fr (fun _ => False) w (w1.alloc (.cells #[.int .u8 d.kind, .int .u64 d.addr, .int .u64 d.a, .int .u64 d.b, .slice ap d.vals.length ac] 109)).drew ∧ w.heap.size ≤ w1.heap.size) := by
    have f : Fr (fun _ => False) w1 (w1.alloc (.cells #[.int .u8 d.kind, .int .u64 d.addr, .int .u64 d.a, .int .u64 d.b, .slice ap d.vals.length ac] 109)).drew := ((Fr.refl _ w1).alloc _).drawn 1
    exact ⟨HH1.out.fr f (fun _ _ e => e) id id (fun _ _ e => e), Blk.made w1 _ _, HF1.out.trans f, HF1.out.size⟩
  clear HSS q0 q1 q2 q3 q4 c0 c1 hbl hpl HD1 HF1 HH1
  generalize (w1.alloc (.cells #[.int .u8 d.kind, .int .u64 d.addr, .int .u64 d.a, .int .u64 d.b, .slice ap d.vals.length ac] 109)).drew = w2 at *
  generalize w1.heap.size = bx at *
  have c1 : w2.cell? ⟨pb, 1, none⟩ = some (.int .i64 i) := HP2.out.1.pr.cell 1
  have f1 := HP2.out.1.pr.cold 1
  have HP3 : Hid (PSt (w2.setCell ⟨pb, 1, none⟩ (.int .i64 ((i : Int) + 1))) F bm v pb th made A (.slice (some ⟨b, o, none⟩) n c) (i + 1) gv got ∧ Blk (w2.setCell ⟨pb, 1, none⟩ (.int .i64 ((i : Int) + 1))) bx 109 #[.int .u8 d.kind, .int .u64 d.addr, .int .u64 d.a, .int .u64 d.b, .slice ap d.vals.length ac] ∧ Fr (fun k => k = pb) w (w2.setCell ⟨pb, 1, none⟩ (.int .i64 ((i : Int) + 1)))) := by
    obtain ⟨h1, f1⟩ := HP2.out.1.next
    exact ⟨h1, HP2.out.2.1.fr f1 (fun e => Blk.ne HP2.out.2.1 (e ▸ HP2.out.1.pr) (by decide) rfl), (HP2.out.2.2.1.mono (fun _ _ e => e.elim)).trans f1⟩
  have ow1 : wrap64 ((i : Int) + 1) = (i : Int) + 1 := by unfold wrap64; omega
  go_upto_region 4 with fail
  clear c1 f1
  generalize w2.setCell ⟨pb, 1, none⟩ (.int .i64 ((i : Int) + 1)) = w3 at *
  have b0 : w3.cell? ⟨bx, 0, none⟩ = some (.int .u8 d.kind) := HP3.out.2.1.cell 0
  have b1 : w3.cell? ⟨bx, 1, none⟩ = some (.int .u64 d.addr) := HP3.out.2.1.cell 1
  have b2 : w3.cell? ⟨bx, 2, none⟩ = some (.int .u64 d.a) := HP3.out.2.1.cell 2
  have b3 : w3.cell? ⟨bx, 3, none⟩ = some (.int .u64 d.b) := HP3.out.2.1.cell 3
  have b4 : w3.cell? ⟨bx, 4, none⟩ = some (.slice ap d.vals.length ac) := HP3.out.2.1.cell 4
  have e2 : w3.cell? ⟨pb, 2, none⟩ = some gv := HP3.out.1.pr.cell 2
  have HBF : Hid (¬ F bx) := fun e => by have := HH.out.lt bx e; have := HP2.out.2.2.2; omega
  by_cases k1 : d.kind = 1
  · rw [k1] at b0
    obtain ⟨q, r, tv, rows, hx⟩ := HP3.out.1.pm
    obtain ⟨i0, hi0, hz0, hz1, hz2⟩ := info_parts infoU
    have hx1 : PMx w3.drew F bm q r tv rows A := hx.fr ((Fr.refl (fun _ => False) w3).drawn 1) (fun _ _ e => e)
    have h31 : PSt w3.drew F bm v pb th made A (.slice (some ⟨b, o, none⟩) n c) (i + 1) gv got := HP3.out.1.fr ((Fr.refl (fun _ => False) w3).drawn 1) (fun _ _ e => e) id id (fun _ _ e => e)
    have hb31 : Blk w3.drew bx 109 _ := HP3.out.2.1
    have HC := Lib.hid (Load_x hx1 h31.vw d.addr ha hA.n hA.t hm0 hm1)
    have hMK : A.make th d = A.load th d.addr := by simp [Mem.make, k1]
    have hTL : A.tell d = A.peek d.addr := by simp [Mem.tell, k1]
    have hif : (1 ≤ d.kind ∧ d.kind ≤ 5) := by omega
    have HMT := Lib.hid (And.intro hif (And.intro hMK hTL))
    have HA := Lib.hid (PSt.tell (w := w) (HP3.out.2.2.drawn 1) h31 hb31 HBF.out rfl rfl (A.peek d.addr) (A' := A.load th d.addr))
    clear hx hx1 h31 hb31 hMK hTL hif
    go_upto_region 6 with fail
    refine wp_region_held_drew (S := (fun w' => w'.cell? ⟨bx, 1, none⟩ = some (.int .u64 d.addr) ∧ w'.cell? ⟨bx, 2, none⟩ = some (.int .u64 d.a))) (by kernel_rfl) (by exact ⟨b1, b2⟩) (fun hHeld => ?_)
    refine wpAnyH_take (i := 0) (v := ?vvq1_1) rfl (by kernel_rfl) (by kernel_rfl) (by kernel_rfl) (fun _ _ _ h => h) (Or.inl ⟨by rfl, ?hyq1_1⟩) hHeld ?restq1_1
    case hyq1_1 => first | (intro w hSw; (try dsimp only at hSw); go_simp; done) | (intro w hSw; (try dsimp only at hSw); go_simp; with_reducible rfl)
    try simp only [Act.put, List.setIfInBounds_toArray, List.set_cons_zero, List.set_cons_succ]
    refine wpAnyH_take (i := 1) (v := ?vvq1_2) rfl (by kernel_rfl) (by kernel_rfl) (by kernel_rfl) (fun _ _ _ h => h) (Or.inl ⟨by rfl, ?hyq1_2⟩) hHeld ?restq1_2
    case hyq1_2 => first | (intro w hSw; (try dsimp only at hSw); go_simp; done) | (intro w hSw; (try dsimp only at hSw); go_simp; with_reducible rfl)
    try simp only [Act.put, List.setIfInBounds_toArray, List.set_cons_zero, List.set_cons_succ]
    refine wpAnyH_take (i := 2) (v := ?vvq1_3) rfl (by kernel_rfl) (by kernel_rfl) (by kernel_rfl) (fun _ _ _ h => h) (Or.inl ⟨by rfl, ?hyq1_3⟩) hHeld ?restq1_3
    case hyq1_3 => first | (intro w hSw; (try dsimp only at hSw); go_simp; done) | (intro w hSw; (try dsimp only at hSw); go_simp; with_reducible rfl)
    try simp only [Act.put, List.setIfInBounds_toArray, List.set_cons_zero, List.set_cons_succ]
    refine wpAnyH_take (i := 3) (v := ?vvq1_4) rfl (by kernel_rfl) (by kernel_rfl) (by kernel_rfl) (fun _ _ _ h => h) (Or.inl ⟨by rfl, ?hyq1_4⟩) hHeld ?restq1_4
    case hyq1_4 => first | (intro w hSw; (try dsimp only at hSw); go_simp; done) | (intro w hSw; (try dsimp only at hSw); go_simp; with_reducible rfl)
    try simp only [Act.put, List.setIfInBounds_toArray, List.set_cons_zero, List.set_cons_succ]
    refine wpAnyH_take (i := 5) (v := ?vvq1_5) rfl (by kernel_rfl) (by kernel_rfl) (by kernel_rfl) (fun _ _ _ h => h) (Or.inl ⟨by rfl, ?hyq1_5⟩) hHeld ?restq1_5
    case hyq1_5 => first | (intro w hSw; (try dsimp only at hSw); go_simp; done) | (intro w hSw; (try dsimp only at hSw); go_simp; with_reducible rfl)
    try simp only [Act.put, List.setIfInBounds_toArray, List.set_cons_zero, List.set_cons_succ]
    refine wpAnyH_take (i := 6) (v := ?vvq1_6) rfl (by kernel_rfl) (by kernel_rfl) (by kernel_rfl) (fun _ _ _ h => h) (Or.inl ⟨by rfl, ?hyq1_6⟩) hHeld ?restq1_6
    case hyq1_6 => first | (intro w hSw; (try dsimp only at hSw); go_simp; done) | (intro w hSw; (try dsimp only at hSw); go_simp; with_reducible rfl)
    try simp only [Act.put, List.setIfInBounds_toArray, List.set_cons_zero, List.set_cons_succ]
    refine wpAnyH_take (i := 7) (v := ?vvq1_7) rfl (by kernel_rfl) (by kernel_rfl) (by kernel_rfl) (fun _ _ _ h => h) (Or.inl ⟨by rfl, ?hyq1_7⟩) hHeld ?restq1_7
    case hyq1_7 => first | (intro w hSw; (try dsimp only at hSw); go_simp; done) | (intro w hSw; (try dsimp only at hSw); go_simp; with_reducible rfl)
    try simp only [Act.put, List.setIfInBounds_toArray, List.set_cons_zero, List.set_cons_succ]
    refine wpAnyH_ready (rs := [4, 8]) (by kernel_rfl) (by simp) ?_
    refine AllReadyH.cons rfl (fun K hK => ?_) (AllReadyH.cons rfl (fun K hK => ?_) AllReadyH.nil)
    · go_simp
      refine hK.out _ _ (by exact ⟨b1, b2⟩) (fun hHeld => ?_)
      clear hK K
      refine wpAnyH_ready (rs := [8]) (by kernel_rfl) (by simp) ?_
      refine AllReadyH.cons rfl (fun K hK => ?_) AllReadyH.nil
      go_simp
      refine HC.out.mono ?_
      rintro e w4 ⟨rfl, hD4⟩
      obtain ⟨a1, a2, s1, s2, HE⟩ := HA.out _ hD4
      clear hD4
      refine hK.out _ _ (by exact s1) (fun hHeld => ?_)
      clear hK K
      refine wpAnyH_ready (rs := [9]) (by kernel_rfl) (by simp) ?_
      refine AllReadyH.cons rfl (fun K hK => ?_) AllReadyH.nil
      go_simp
      refine hK.out _ _ (by exact s2 _) (fun hHeld => ?_)
      clear hK K
      refine wpAnyH_ready (rs := [10]) (by kernel_rfl) (by simp) ?_
      refine AllReadyH.cons rfl (fun K hK => ?_) AllReadyH.nil
      refine step_append_lies _ rfl _ _ 107 rfl 0 72 i0 _ 1 8 Tryz.underlying107 hi0 hz0 hz1 hz2 rfl (by decide) _ got.length _ rfl HE.out.1 ⟨w4.heap.size, 0, none⟩ 1 1 [.int .u64 (A.peek d.addr)] rfl rfl (World.news_of_block (heap_alloc_new _ _)) (by simp [Value.oneCell']) (by decide) (by unfold maxLen; omega) (by omega) (Nat.zero_le _) _ rfl ?_
      intro g cap w5 hown5 hgrow5 hat5 hlt5
      obtain ⟨q1, q2, s5, s6, HQ⟩ := HE.out.2 g cap w5 hown5 hgrow5 hat5
      clear hown5 hgrow5 hat5 hlt5
      refine hK.out _ _ (by exact s5) (fun hHeld => ?_)
      clear hK K
      refine wpAnyH_take (i := 11) (v := ?vvq1_8) rfl (by kernel_rfl) (by kernel_rfl) (by kernel_rfl) (fun _ _ _ h => h) (Or.inl ⟨by rfl, ?hyq1_8⟩) hHeld ?restq1_8
      case hyq1_8 => first | (intro w hSw; (try dsimp only at hSw); go_simp; done) | (intro w hSw; (try dsimp only at hSw); go_simp; with_reducible rfl)
      try simp only [Act.put, List.setIfInBounds_toArray, List.set_cons_zero, List.set_cons_succ]
      refine wpAnyH_take (i := 12) (v := ?vvq1_9) rfl (by kernel_rfl) (by kernel_rfl) (by kernel_rfl) (fun _ _ _ h => h) (Or.inl ⟨by rfl, ?hyq1_9⟩) hHeld ?restq1_9
      case hyq1_9 => first | (intro w hSw; (try dsimp only at hSw); go_simp; done) | (intro w hSw; (try dsimp only at hSw); go_simp; with_reducible rfl)
      try simp only [Act.put, List.setIfInBounds_toArray, List.set_cons_zero, List.set_cons_succ]
      refine wpAnyH_ready (rs := [13]) (by kernel_rfl) (by simp) ?_
      refine AllReadyH.cons rfl (fun K hK => ?_) AllReadyH.nil
      go_simp
      refine hK.out _ _ (by exact s6) (fun hHeld => ?_)
      clear hK K
      refine wpAnyH_done (by kernel_rfl) ?_ _
      obtain ⟨F5, gv5, hp5, hr5⟩ := HQ.out
      have z0 : _ = some (Value.slice (some ⟨b, o, none⟩) n c) := hp5.pr.cell 0
      have z1 : _ = some (Value.int .i64 ((i + 1 : Nat) : Int)) := hp5.pr.cell 1
      clear hp5 hr5
      generalize w5.setCell ⟨pb, 2, none⟩ (.slice (some ⟨g, 0, none⟩) (got.length + 1) cap) = w6 at *
      go_wp2_with fail
      go_quiet (fail)
      go_wp2_with fail
      go_ret
      exact ⟨by simp; omega, by (try rw [if_pos HMT.out.1]); (try rw [if_pos HMT.out.1]); rw [HMT.out.2.1, HMT.out.2.2]; exact HQ.out.drawn _⟩
    · go_simp
      refine HC.out.mono ?_
      rintro e w4 ⟨rfl, hD4⟩
      obtain ⟨a1, a2, s1, s2, HE⟩ := HA.out _ hD4
      clear hD4
      refine hK.out _ _ (by exact s1) (fun hHeld => ?_)
      clear hK K
      refine wpAnyH_ready (rs := [4, 9]) (by kernel_rfl) (by simp) ?_
      refine AllReadyH.cons rfl (fun K hK => ?_) (AllReadyH.cons rfl (fun K hK => ?_) AllReadyH.nil)
      · go_simp
        refine hK.out _ _ (by exact s1) (fun hHeld => ?_)
        clear hK K
        refine wpAnyH_ready (rs := [9]) (by kernel_rfl) (by simp) ?_
        refine AllReadyH.cons rfl (fun K hK => ?_) AllReadyH.nil
        go_simp
        refine hK.out _ _ (by exact s2 _) (fun hHeld => ?_)
        clear hK K
        refine wpAnyH_ready (rs := [10]) (by kernel_rfl) (by simp) ?_
        refine AllReadyH.cons rfl (fun K hK => ?_) AllReadyH.nil
        refine step_append_lies _ rfl _ _ 107 rfl 0 72 i0 _ 1 8 Tryz.underlying107 hi0 hz0 hz1 hz2 rfl (by decide) _ got.length _ rfl HE.out.1 ⟨w4.heap.size, 0, none⟩ 1 1 [.int .u64 (A.peek d.addr)] rfl rfl (World.news_of_block (heap_alloc_new _ _)) (by simp [Value.oneCell']) (by decide) (by unfold maxLen; omega) (by omega) (Nat.zero_le _) _ rfl ?_
        intro g cap w5 hown5 hgrow5 hat5 hlt5
        obtain ⟨q1, q2, s5, s6, HQ⟩ := HE.out.2 g cap w5 hown5 hgrow5 hat5
        clear hown5 hgrow5 hat5 hlt5
        refine hK.out _ _ (by exact s5) (fun hHeld => ?_)
        clear hK K
        refine wpAnyH_take (i := 11) (v := ?vvq1_10) rfl (by kernel_rfl) (by kernel_rfl) (by kernel_rfl) (fun _ _ _ h => h) (Or.inl ⟨by rfl, ?hyq1_10⟩) hHeld ?restq1_10
        case hyq1_10 => first | (intro w hSw; (try dsimp only at hSw); go_simp; done) | (intro w hSw; (try dsimp only at hSw); go_simp; with_reducible rfl)
        try simp only [Act.put, List.setIfInBounds_toArray, List.set_cons_zero, List.set_cons_succ]
        refine wpAnyH_take (i := 12) (v := ?vvq1_11) rfl (by kernel_rfl) (by kernel_rfl) (by kernel_rfl) (fun _ _ _ h => h) (Or.inl ⟨by rfl, ?hyq1_11⟩) hHeld ?restq1_11
        case hyq1_11 => first | (intro w hSw; (try dsimp only at hSw); go_simp; done) | (intro w hSw; (try dsimp only at hSw); go_simp; with_reducible rfl)
        try simp only [Act.put, List.setIfInBounds_toArray, List.set_cons_zero, List.set_cons_succ]
        refine wpAnyH_ready (rs := [13]) (by kernel_rfl) (by simp) ?_
        refine AllReadyH.cons rfl (fun K hK => ?_) AllReadyH.nil
        go_simp
        refine hK.out _ _ (by exact s6) (fun hHeld => ?_)
        clear hK K
        refine wpAnyH_done (by kernel_rfl) ?_ _
        obtain ⟨F5, gv5, hp5, hr5⟩ := HQ.out
        have z0 : _ = some (Value.slice (some ⟨b, o, none⟩) n c) := hp5.pr.cell 0
        have z1 : _ = some (Value.int .i64 ((i + 1 : Nat) : Int)) := hp5.pr.cell 1
        clear hp5 hr5
        generalize w5.setCell ⟨pb, 2, none⟩ (.slice (some ⟨g, 0, none⟩) (got.length + 1) cap) = w6 at *
        go_wp2_with fail
        go_quiet (fail)
        go_wp2_with fail
        go_ret
        exact ⟨by simp; omega, by (try rw [if_pos HMT.out.1]); (try rw [if_pos HMT.out.1]); rw [HMT.out.2.1, HMT.out.2.2]; exact HQ.out.drawn _⟩
      · go_simp
        refine hK.out _ _ (by exact s2 _) (fun hHeld => ?_)
        clear hK K
        refine wpAnyH_ready (rs := [4]) (by kernel_rfl) (by simp) ?_
        refine AllReadyH.cons rfl (fun K hK => ?_) AllReadyH.nil
        go_simp
        refine hK.out _ _ (by exact s2 _) (fun hHeld => ?_)
        clear hK K
        refine wpAnyH_ready (rs := [10]) (by kernel_rfl) (by simp) ?_
        refine AllReadyH.cons rfl (fun K hK => ?_) AllReadyH.nil
        refine step_append_lies _ rfl _ _ 107 rfl 0 72 i0 _ 1 8 Tryz.underlying107 hi0 hz0 hz1 hz2 rfl (by decide) _ got.length _ rfl HE.out.1 ⟨w4.heap.size, 0, none⟩ 1 1 [.int .u64 (A.peek d.addr)] rfl rfl (World.news_of_block (heap_alloc_new _ _)) (by simp [Value.oneCell']) (by decide) (by unfold maxLen; omega) (by omega) (Nat.zero_le _) _ rfl ?_
        intro g cap w5 hown5 hgrow5 hat5 hlt5
        obtain ⟨q1, q2, s5, s6, HQ⟩ := HE.out.2 g cap w5 hown5 hgrow5 hat5
        clear hown5 hgrow5 hat5 hlt5
        refine hK.out _ _ (by exact s5) (fun hHeld => ?_)
        clear hK K
        refine wpAnyH_take (i := 11) (v := ?vvq1_12) rfl (by kernel_rfl) (by kernel_rfl) (by kernel_rfl) (fun _ _ _ h => h) (Or.inl ⟨by rfl, ?hyq1_12⟩) hHeld ?restq1_12
        case hyq1_12 => first | (intro w hSw; (try dsimp only at hSw); go_simp; done) | (intro w hSw; (try dsimp only at hSw); go_simp; with_reducible rfl)
        try simp only [Act.put, List.setIfInBounds_toArray, List.set_cons_zero, List.set_cons_succ]
        refine wpAnyH_take (i := 12) (v := ?vvq1_13) rfl (by kernel_rfl) (by kernel_rfl) (by kernel_rfl) (fun _ _ _ h => h) (Or.inl ⟨by rfl, ?hyq1_13⟩) hHeld ?restq1_13
        case hyq1_13 => first | (intro w hSw; (try dsimp only at hSw); go_simp; done) | (intro w hSw; (try dsimp only at hSw); go_simp; with_reducible rfl)
        try simp only [Act.put, List.setIfInBounds_toArray, List.set_cons_zero, List.set_cons_succ]
        refine wpAnyH_ready (rs := [13]) (by kernel_rfl) (by simp) ?_
        refine AllReadyH.cons rfl (fun K hK => ?_) AllReadyH.nil
        go_simp
        refine hK.out _ _ (by exact s6) (fun hHeld => ?_)
        clear hK K
        refine wpAnyH_done (by kernel_rfl) ?_ _
        obtain ⟨F5, gv5, hp5, hr5⟩ := HQ.out
        have z0 : _ = some (Value.slice (some ⟨b, o, none⟩) n c) := hp5.pr.cell 0
        have z1 : _ = some (Value.int .i64 ((i + 1 : Nat) : Int)) := hp5.pr.cell 1
        clear hp5 hr5
        generalize w5.setCell ⟨pb, 2, none⟩ (.slice (some ⟨g, 0, none⟩) (got.length + 1) cap) = w6 at *
        go_wp2_with fail
        go_quiet (fail)
        go_wp2_with fail
        go_ret
        exact ⟨by simp; omega, by (try rw [if_pos HMT.out.1]); (try rw [if_pos HMT.out.1]); rw [HMT.out.2.1, HMT.out.2.2]; exact HQ.out.drawn _⟩
  by_cases k4 : d.kind = 4
  · rw [k4] at b0
    obtain ⟨q, r, tv, rows, hx⟩ := HP3.out.1.pm
    obtain ⟨i0, hi0, hz0, hz1, hz2⟩ := info_parts infoU
    have hx1 : PMx w3.drew F bm q r tv rows A := hx.fr ((Fr.refl (fun _ => False) w3).drawn 1) (fun _ _ e => e)
    have h31 : PSt w3.drew F bm v pb th made A (.slice (some ⟨b, o, none⟩) n c) (i + 1) gv got := HP3.out.1.fr ((Fr.refl (fun _ => False) w3).drawn 1) (fun _ _ e => e) id id (fun _ _ e => e)
    have hb31 : Blk w3.drew bx 109 _ := HP3.out.2.1
    have HC := Lib.hid (Add_x hx1 h31.vw d.addr d.a ha hA.n hA.t hm0 hm1)
    have hMK : A.make th d = A.add th d.addr d.a := by simp [Mem.make, k4]
    have hTL : A.tell d = A.peek d.addr := by simp [Mem.tell, k4]
    have hif : (1 ≤ d.kind ∧ d.kind ≤ 5) := by omega
    have HMT := Lib.hid (And.intro hif (And.intro hMK hTL))
    have HA := Lib.hid (PSt.tell (w := w) (HP3.out.2.2.drawn 1) h31 hb31 HBF.out rfl rfl (A.peek d.addr) (A' := A.add th d.addr d.a))
    clear hx hx1 h31 hb31 hMK hTL hif
    go_upto_region 16 with fail
    refine wp_region_held_drew (S := (fun w' => w'.cell? ⟨bx, 1, none⟩ = some (.int .u64 d.addr) ∧ w'.cell? ⟨bx, 2, none⟩ = some (.int .u64 d.a))) (by kernel_rfl) (by exact ⟨b1, b2⟩) (fun hHeld => ?_)
    refine wpAnyH_take (i := 0) (v := ?vvq4_1) rfl (by kernel_rfl) (by kernel_rfl) (by kernel_rfl) (fun _ _ _ h => h) (Or.inl ⟨by rfl, ?hyq4_1⟩) hHeld ?restq4_1
    case hyq4_1 => first | (intro w hSw; (try dsimp only at hSw); go_simp; done) | (intro w hSw; (try dsimp only at hSw); go_simp; with_reducible rfl)
    try simp only [Act.put, List.setIfInBounds_toArray, List.set_cons_zero, List.set_cons_succ]
    refine wpAnyH_take (i := 1) (v := ?vvq4_2) rfl (by kernel_rfl) (by kernel_rfl) (by kernel_rfl) (fun _ _ _ h => h) (Or.inl ⟨by rfl, ?hyq4_2⟩) hHeld ?restq4_2
    case hyq4_2 => first | (intro w hSw; (try dsimp only at hSw); go_simp; done) | (intro w hSw; (try dsimp only at hSw); go_simp; with_reducible rfl)
    try simp only [Act.put, List.setIfInBounds_toArray, List.set_cons_zero, List.set_cons_succ]
    refine wpAnyH_take (i := 2) (v := ?vvq4_3) rfl (by kernel_rfl) (by kernel_rfl) (by kernel_rfl) (fun _ _ _ h => h) (Or.inl ⟨by rfl, ?hyq4_3⟩) hHeld ?restq4_3
    case hyq4_3 => first | (intro w hSw; (try dsimp only at hSw); go_simp; done) | (intro w hSw; (try dsimp only at hSw); go_simp; with_reducible rfl)
    try simp only [Act.put, List.setIfInBounds_toArray, List.set_cons_zero, List.set_cons_succ]
    refine wpAnyH_take (i := 3) (v := ?vvq4_4) rfl (by kernel_rfl) (by kernel_rfl) (by kernel_rfl) (fun _ _ _ h => h) (Or.inl ⟨by rfl, ?hyq4_4⟩) hHeld ?restq4_4
    case hyq4_4 => first | (intro w hSw; (try dsimp only at hSw); go_simp; done) | (intro w hSw; (try dsimp only at hSw); go_simp; with_reducible rfl)
    try simp only [Act.put, List.setIfInBounds_toArray, List.set_cons_zero, List.set_cons_succ]
    refine wpAnyH_take (i := 5) (v := ?vvq4_5) rfl (by kernel_rfl) (by kernel_rfl) (by kernel_rfl) (fun _ _ _ h => h) (Or.inl ⟨by rfl, ?hyq4_5⟩) hHeld ?restq4_5
    case hyq4_5 => first | (intro w hSw; (try dsimp only at hSw); go_simp; done) | (intro w hSw; (try dsimp only at hSw); go_simp; with_reducible rfl)
    try simp only [Act.put, List.setIfInBounds_toArray, List.set_cons_zero, List.set_cons_succ]
    refine wpAnyH_take (i := 6) (v := ?vvq4_6) rfl (by kernel_rfl) (by kernel_rfl) (by kernel_rfl) (fun _ _ _ h => h) (Or.inl ⟨by rfl, ?hyq4_6⟩) hHeld ?restq4_6
    case hyq4_6 => first | (intro w hSw; (try dsimp only at hSw); go_simp; done) | (intro w hSw; (try dsimp only at hSw); go_simp; with_reducible rfl)
    try simp only [Act.put, List.setIfInBounds_toArray, List.set_cons_zero, List.set_cons_succ]
    refine wpAnyH_take (i := 7) (v := ?vvq4_7) rfl (by kernel_rfl) (by kernel_rfl) (by kernel_rfl) (fun _ _ _ h => h) (Or.inl ⟨by rfl, ?hyq4_7⟩) hHeld ?restq4_7
    case hyq4_7 => first | (intro w hSw; (try dsimp only at hSw); go_simp; done) | (intro w hSw; (try dsimp only at hSw); go_simp; with_reducible rfl)
    try simp only [Act.put, List.setIfInBounds_toArray, List.set_cons_zero, List.set_cons_succ]
    refine wpAnyH_take (i := 8) (v := ?vvq4_8) rfl (by kernel_rfl) (by kernel_rfl) (by kernel_rfl) (fun _ _ _ h => h) (Or.inl ⟨by rfl, ?hyq4_8⟩) hHeld ?restq4_8
    case hyq4_8 => first | (intro w hSw; (try dsimp only at hSw); go_simp; done) | (intro w hSw; (try dsimp only at hSw); go_simp; with_reducible rfl)
    try simp only [Act.put, List.setIfInBounds_toArray, List.set_cons_zero, List.set_cons_succ]
    refine wpAnyH_take (i := 9) (v := ?vvq4_9) rfl (by kernel_rfl) (by kernel_rfl) (by kernel_rfl) (fun _ _ _ h => h) (Or.inl ⟨by rfl, ?hyq4_9⟩) hHeld ?restq4_9
    case hyq4_9 => first | (intro w hSw; (try dsimp only at hSw); go_simp; done) | (intro w hSw; (try dsimp only at hSw); go_simp; with_reducible rfl)
    try simp only [Act.put, List.setIfInBounds_toArray, List.set_cons_zero, List.set_cons_succ]
    refine wpAnyH_ready (rs := [4, 10]) (by kernel_rfl) (by simp) ?_
    refine AllReadyH.cons rfl (fun K hK => ?_) (AllReadyH.cons rfl (fun K hK => ?_) AllReadyH.nil)
    · go_simp
      refine hK.out _ _ (by exact ⟨b1, b2⟩) (fun hHeld => ?_)
      clear hK K
      refine wpAnyH_ready (rs := [10]) (by kernel_rfl) (by simp) ?_
      refine AllReadyH.cons rfl (fun K hK => ?_) AllReadyH.nil
      go_simp
      refine HC.out.mono ?_
      rintro e w4 ⟨rfl, hD4⟩
      obtain ⟨a1, a2, s1, s2, HE⟩ := HA.out _ hD4
      clear hD4
      refine hK.out _ _ (by exact s1) (fun hHeld => ?_)
      clear hK K
      refine wpAnyH_ready (rs := [11]) (by kernel_rfl) (by simp) ?_
      refine AllReadyH.cons rfl (fun K hK => ?_) AllReadyH.nil
      go_simp
      refine hK.out _ _ (by exact s2 _) (fun hHeld => ?_)
      clear hK K
      refine wpAnyH_ready (rs := [12]) (by kernel_rfl) (by simp) ?_
      refine AllReadyH.cons rfl (fun K hK => ?_) AllReadyH.nil
      refine step_append_lies _ rfl _ _ 107 rfl 0 72 i0 _ 1 8 Tryz.underlying107 hi0 hz0 hz1 hz2 rfl (by decide) _ got.length _ rfl HE.out.1 ⟨w4.heap.size, 0, none⟩ 1 1 [.int .u64 (A.peek d.addr)] rfl rfl (World.news_of_block (heap_alloc_new _ _)) (by simp [Value.oneCell']) (by decide) (by unfold maxLen; omega) (by omega) (Nat.zero_le _) _ rfl ?_
      intro g cap w5 hown5 hgrow5 hat5 hlt5
      obtain ⟨q1, q2, s5, s6, HQ⟩ := HE.out.2 g cap w5 hown5 hgrow5 hat5
      clear hown5 hgrow5 hat5 hlt5
      refine hK.out _ _ (by exact s5) (fun hHeld => ?_)
      clear hK K
      refine wpAnyH_take (i := 13) (v := ?vvq4_10) rfl (by kernel_rfl) (by kernel_rfl) (by kernel_rfl) (fun _ _ _ h => h) (Or.inl ⟨by rfl, ?hyq4_10⟩) hHeld ?restq4_10
      case hyq4_10 => first | (intro w hSw; (try dsimp only at hSw); go_simp; done) | (intro w hSw; (try dsimp only at hSw); go_simp; with_reducible rfl)
      try simp only [Act.put, List.setIfInBounds_toArray, List.set_cons_zero, List.set_cons_succ]
      refine wpAnyH_take (i := 14) (v := ?vvq4_11) rfl (by kernel_rfl) (by kernel_rfl) (by kernel_rfl) (fun _ _ _ h => h) (Or.inl ⟨by rfl, ?hyq4_11⟩) hHeld ?restq4_11
      case hyq4_11 => first | (intro w hSw; (try dsimp only at hSw); go_simp; done) | (intro w hSw; (try dsimp only at hSw); go_simp; with_reducible rfl)
      try simp only [Act.put, List.setIfInBounds_toArray, List.set_cons_zero, List.set_cons_succ]
      refine wpAnyH_ready (rs := [15]) (by kernel_rfl) (by simp) ?_
      refine AllReadyH.cons rfl (fun K hK => ?_) AllReadyH.nil
      go_simp
      refine hK.out _ _ (by exact s6) (fun hHeld => ?_)
      clear hK K
      refine wpAnyH_done (by kernel_rfl) ?_ _
      obtain ⟨F5, gv5, hp5, hr5⟩ := HQ.out
      have z0 : _ = some (Value.slice (some ⟨b, o, none⟩) n c) := hp5.pr.cell 0
      have z1 : _ = some (Value.int .i64 ((i + 1 : Nat) : Int)) := hp5.pr.cell 1
      clear hp5 hr5
      generalize w5.setCell ⟨pb, 2, none⟩ (.slice (some ⟨g, 0, none⟩) (got.length + 1) cap) = w6 at *
      go_wp2_with fail
      go_quiet (fail)
      go_wp2_with fail
      go_ret
      exact ⟨by simp; omega, by (try rw [if_pos HMT.out.1]); (try rw [if_pos HMT.out.1]); rw [HMT.out.2.1, HMT.out.2.2]; exact HQ.out.drawn _⟩
    · go_simp
      refine HC.out.mono ?_
      rintro e w4 ⟨rfl, hD4⟩
      obtain ⟨a1, a2, s1, s2, HE⟩ := HA.out _ hD4
      clear hD4
      refine hK.out _ _ (by exact s1) (fun hHeld => ?_)
      clear hK K
      refine wpAnyH_ready (rs := [4, 11]) (by kernel_rfl) (by simp) ?_
      refine AllReadyH.cons rfl (fun K hK => ?_) (AllReadyH.cons rfl (fun K hK => ?_) AllReadyH.nil)
      · go_simp
        refine hK.out _ _ (by exact s1) (fun hHeld => ?_)
        clear hK K
        refine wpAnyH_ready (rs := [11]) (by kernel_rfl) (by simp) ?_
        refine AllReadyH.cons rfl (fun K hK => ?_) AllReadyH.nil
        go_simp
        refine hK.out _ _ (by exact s2 _) (fun hHeld => ?_)
        clear hK K
        refine wpAnyH_ready (rs := [12]) (by kernel_rfl) (by simp) ?_
        refine AllReadyH.cons rfl (fun K hK => ?_) AllReadyH.nil
        refine step_append_lies _ rfl _ _ 107 rfl 0 72 i0 _ 1 8 Tryz.underlying107 hi0 hz0 hz1 hz2 rfl (by decide) _ got.length _ rfl HE.out.1 ⟨w4.heap.size, 0, none⟩ 1 1 [.int .u64 (A.peek d.addr)] rfl rfl (World.news_of_block (heap_alloc_new _ _)) (by simp [Value.oneCell']) (by decide) (by unfold maxLen; omega) (by omega) (Nat.zero_le _) _ rfl ?_
        intro g cap w5 hown5 hgrow5 hat5 hlt5
        obtain ⟨q1, q2, s5, s6, HQ⟩ := HE.out.2 g cap w5 hown5 hgrow5 hat5
        clear hown5 hgrow5 hat5 hlt5
        refine hK.out _ _ (by exact s5) (fun hHeld => ?_)
        clear hK K
        refine wpAnyH_take (i := 13) (v := ?vvq4_12) rfl (by kernel_rfl) (by kernel_rfl) (by kernel_rfl) (fun _ _ _ h => h) (Or.inl ⟨by rfl, ?hyq4_12⟩) hHeld ?restq4_12
        case hyq4_12 => first | (intro w hSw; (try dsimp only at hSw); go_simp; done) | (intro w hSw; (try dsimp only at hSw); go_simp; with_reducible rfl)
        try simp only [Act.put, List.setIfInBounds_toArray, List.set_cons_zero, List.set_cons_succ]
        refine wpAnyH_take (i := 14) (v := ?vvq4_13) rfl (by kernel_rfl) (by kernel_rfl) (by kernel_rfl) (fun _ _ _ h => h) (Or.inl ⟨by rfl, ?hyq4_13⟩) hHeld ?restq4_13
        case hyq4_13 => first | (intro w hSw; (try dsimp only at hSw); go_simp; done) | (intro w hSw; (try dsimp only at hSw); go_simp; with_reducible rfl)
        try simp only [Act.put, List.setIfInBounds_toArray, List.set_cons_zero, List.set_cons_succ]
        refine wpAnyH_ready (rs := [15]) (by kernel_rfl) (by simp) ?_
        refine AllReadyH.cons rfl (fun K hK => ?_) AllReadyH.nil
        go_simp
        refine hK.out _ _ (by exact s6) (fun hHeld => ?_)
        clear hK K
        refine wpAnyH_done (by kernel_rfl) ?_ _
        obtain ⟨F5, gv5, hp5, hr5⟩ := HQ.out
        have z0 : _ = some (Value.slice (some ⟨b, o, none⟩) n c) := hp5.pr.cell 0
        have z1 : _ = some (Value.int .i64 ((i + 1 : Nat) : Int)) := hp5.pr.cell 1
        clear hp5 hr5
        generalize w5.setCell ⟨pb, 2, none⟩ (.slice (some ⟨g, 0, none⟩) (got.length + 1) cap) = w6 at *
        go_wp2_with fail
        go_quiet (fail)
        go_wp2_with fail
        go_ret
        exact ⟨by simp; omega, by (try rw [if_pos HMT.out.1]); (try rw [if_pos HMT.out.1]); rw [HMT.out.2.1, HMT.out.2.2]; exact HQ.out.drawn _⟩
      · go_simp
        refine hK.out _ _ (by exact s2 _) (fun hHeld => ?_)
        clear hK K
        refine wpAnyH_ready (rs := [4]) (by kernel_rfl) (by simp) ?_
        refine AllReadyH.cons rfl (fun K hK => ?_) AllReadyH.nil
        go_simp
        refine hK.out _ _ (by exact s2 _) (fun hHeld => ?_)
        clear hK K
        refine wpAnyH_ready (rs := [12]) (by kernel_rfl) (by simp) ?_
        refine AllReadyH.cons rfl (fun K hK => ?_) AllReadyH.nil
        refine step_append_lies _ rfl _ _ 107 rfl 0 72 i0 _ 1 8 Tryz.underlying107 hi0 hz0 hz1 hz2 rfl (by decide) _ got.length _ rfl HE.out.1 ⟨w4.heap.size, 0, none⟩ 1 1 [.int .u64 (A.peek d.addr)] rfl rfl (World.news_of_block (heap_alloc_new _ _)) (by simp [Value.oneCell']) (by decide) (by unfold maxLen; omega) (by omega) (Nat.zero_le _) _ rfl ?_
        intro g cap w5 hown5 hgrow5 hat5 hlt5
        obtain ⟨q1, q2, s5, s6, HQ⟩ := HE.out.2 g cap w5 hown5 hgrow5 hat5
        clear hown5 hgrow5 hat5 hlt5
        refine hK.out _ _ (by exact s5) (fun hHeld => ?_)
        clear hK K
        refine wpAnyH_take (i := 13) (v := ?vvq4_14) rfl (by kernel_rfl) (by kernel_rfl) (by kernel_rfl) (fun _ _ _ h => h) (Or.inl ⟨by rfl, ?hyq4_14⟩) hHeld ?restq4_14
        case hyq4_14 => first | (intro w hSw; (try dsimp only at hSw); go_simp; done) | (intro w hSw; (try dsimp only at hSw); go_simp; with_reducible rfl)
        try simp only [Act.put, List.setIfInBounds_toArray, List.set_cons_zero, List.set_cons_succ]
        refine wpAnyH_take (i := 14) (v := ?vvq4_15) rfl (by kernel_rfl) (by kernel_rfl) (by kernel_rfl) (fun _ _ _ h => h) (Or.inl ⟨by rfl, ?hyq4_15⟩) hHeld ?restq4_15
        case hyq4_15 => first | (intro w hSw; (try dsimp only at hSw); go_simp; done) | (intro w hSw; (try dsimp only at hSw); go_simp; with_reducible rfl)
        try simp only [Act.put, List.setIfInBounds_toArray, List.set_cons_zero, List.set_cons_succ]
        refine wpAnyH_ready (rs := [15]) (by kernel_rfl) (by simp) ?_
        refine AllReadyH.cons rfl (fun K hK => ?_) AllReadyH.nil
        go_simp
        refine hK.out _ _ (by exact s6) (fun hHeld => ?_)
        clear hK K
        refine wpAnyH_done (by kernel_rfl) ?_ _
        obtain ⟨F5, gv5, hp5, hr5⟩ := HQ.out
        have z0 : _ = some (Value.slice (some ⟨b, o, none⟩) n c) := hp5.pr.cell 0
        have z1 : _ = some (Value.int .i64 ((i + 1 : Nat) : Int)) := hp5.pr.cell 1
        clear hp5 hr5
        generalize w5.setCell ⟨pb, 2, none⟩ (.slice (some ⟨g, 0, none⟩) (got.length + 1) cap) = w6 at *
        go_wp2_with fail
        go_quiet (fail)
        go_wp2_with fail
        go_ret
        exact ⟨by simp; omega, by (try rw [if_pos HMT.out.1]); (try rw [if_pos HMT.out.1]); rw [HMT.out.2.1, HMT.out.2.2]; exact HQ.out.drawn _⟩
  by_cases k2 : d.kind = 2
  · rw [k2] at b0
    obtain ⟨q, r, tv, rows, hx⟩ := HP3.out.1.pm
    obtain ⟨i0, hi0, hz0, hz1, hz2⟩ := info_parts infoU
    have hx1 : PMx w3 F bm q r tv rows A := hx
    have h31 := HP3.out.1
    have HC := Lib.hid (Store_x hx1 h31.vw d.addr d.a ha hA.n hA.t hm0 hm1)
    have hMK : A.make th d = A.store th d.addr d.a := by simp [Mem.make, k2]
    have hTL : A.tell d = 0 := by simp [Mem.tell, k2]
    have hif : (1 ≤ d.kind ∧ d.kind ≤ 5) := by omega
    have HMT := Lib.hid (And.intro hif (And.intro hMK hTL))
    have HA := Lib.hid (PSt.tell (w := w) HP3.out.2.2 HP3.out.1 HP3.out.2.1 HBF.out rfl rfl (0) (A' := A.store th d.addr d.a))
    clear hx hx1 h31 hMK hTL hif
    go_wp2_with fail
    refine HC.out.mono ?_
    rintro e w4 ⟨rfl, hD4⟩
    obtain ⟨a1, a2, s1, s2, HE⟩ := HA.out _ hD4
    clear hD4
    go_wp2_with (at_builtin; refine wpList_append_lies _ rfl _ _ 107 rfl 0 72 i0 _ 1 8 Tryz.underlying107 hi0 hz0 hz1 hz2 rfl (by decide) _ got.length _ rfl HE.out.1 ⟨w4.heap.size, 0, none⟩ 1 1 [.int .u64 (0)] rfl rfl (cell_one_new _ _ _) (by simp [Value.oneCell']) (by decide) (by unfold maxLen; omega) (by omega) (Nat.zero_le _) (w4.heap.size + 1) (by simp) ?_; intro g cap w5 hown5 hgrow5 hat5 _; obtain ⟨q1, q2, s5, s6, HQ⟩ := HE.out.2 g cap w5 hown5 hgrow5 (hat5.imp id fun e => by rw [e]; simp); clear hown5 hgrow5 hat5)
    obtain ⟨F5, gv5, hp5, hr5⟩ := HQ.out
    have z0 : _ = some (Value.slice (some ⟨b, o, none⟩) n c) := hp5.pr.cell 0
    have z1 : _ = some (Value.int .i64 ((i + 1 : Nat) : Int)) := hp5.pr.cell 1
    clear hp5 hr5
    generalize w5.setCell ⟨pb, 2, none⟩ (.slice (some ⟨g, 0, none⟩) (got.length + 1) cap) = w6 at *
    go_wp2_with fail
    go_quiet (fail)
    go_wp2_with fail
    go_ret
    exact ⟨by simp; omega, by (try rw [if_pos HMT.out.1]); (try rw [if_pos HMT.out.1]); rw [HMT.out.2.1, HMT.out.2.2]; exact HQ.out.drawn _⟩
  by_cases k3 : d.kind = 3
  · rw [k3] at b0
    obtain ⟨q, r, tv, rows, hx⟩ := HP3.out.1.pm
    obtain ⟨i0, hi0, hz0, hz1, hz2⟩ := info_parts infoU
    have hx1 : PMx w3 F bm q r tv rows A := hx
    have h31 := HP3.out.1
    have HC := Lib.hid (Cas_x hx1 h31.vw d.addr d.a d.b ha hA.n hA.t hm0 hm1)
    have hMK : A.make th d = A.cas th d.addr d.a d.b := by simp [Mem.make, k3]
    have hTL : A.tell d = if A.hit d.addr d.a then 1 else 0 := by simp [Mem.tell, k3]
    have hif : (1 ≤ d.kind ∧ d.kind ≤ 5) := by omega
    have HMT := Lib.hid (And.intro hif (And.intro hMK hTL))
    cases hh : A.hit d.addr d.a
    · rw [hh] at HC HMT
      simp only [Bool.false_eq_true, if_false, if_true] at HMT
      have HA := Lib.hid (PSt.tell (w := w) HP3.out.2.2 HP3.out.1 HP3.out.2.1 HBF.out rfl rfl (0) (A' := A.cas th d.addr d.a d.b))
      clear hx hx1 h31 hMK hTL hif
      go_wp2_with fail
      refine HC.out.mono ?_
      rintro e w4 ⟨rfl, hD4⟩
      obtain ⟨a1, a2, s1, s2, HE⟩ := HA.out _ hD4
      clear hD4
      go_wp2_with (at_builtin; refine wpList_append_lies _ rfl _ _ 107 rfl 0 72 i0 _ 1 8 Tryz.underlying107 hi0 hz0 hz1 hz2 rfl (by decide) _ got.length _ rfl HE.out.1 ⟨w4.heap.size, 0, none⟩ 1 1 [.int .u64 (0)] rfl rfl (cell_one_new _ _ _) (by simp [Value.oneCell']) (by decide) (by unfold maxLen; omega) (by omega) (Nat.zero_le _) (w4.heap.size + 1) (by simp) ?_; intro g cap w5 hown5 hgrow5 hat5 _; obtain ⟨q1, q2, s5, s6, HQ⟩ := HE.out.2 g cap w5 hown5 hgrow5 (hat5.imp id fun e => by rw [e]; simp); clear hown5 hgrow5 hat5)
      obtain ⟨F5, gv5, hp5, hr5⟩ := HQ.out
      have z0 : _ = some (Value.slice (some ⟨b, o, none⟩) n c) := hp5.pr.cell 0
      have z1 : _ = some (Value.int .i64 ((i + 1 : Nat) : Int)) := hp5.pr.cell 1
      clear hp5 hr5
      generalize w5.setCell ⟨pb, 2, none⟩ (.slice (some ⟨g, 0, none⟩) (got.length + 1) cap) = w6 at *
      go_wp2_with fail
      go_quiet (fail)
      go_wp2_with fail
      go_ret
      exact ⟨by simp; omega, by (try rw [if_pos HMT.out.1]); (try rw [if_pos HMT.out.1]); rw [HMT.out.2.1, HMT.out.2.2]; exact HQ.out.drawn _⟩
    · rw [hh] at HC HMT
      simp only [Bool.false_eq_true, if_false, if_true] at HMT
      have HA := Lib.hid (PSt.tell (w := w) HP3.out.2.2 HP3.out.1 HP3.out.2.1 HBF.out rfl rfl (1) (A' := A.cas th d.addr d.a d.b))
      clear hx hx1 h31 hMK hTL hif
      go_wp2_with fail
      refine HC.out.mono ?_
      rintro e w4 ⟨rfl, hD4⟩
      obtain ⟨a1, a2, s1, s2, HE⟩ := HA.out _ hD4
      clear hD4
      go_wp2_with (at_builtin; refine wpList_append_lies _ rfl _ _ 107 rfl 0 72 i0 _ 1 8 Tryz.underlying107 hi0 hz0 hz1 hz2 rfl (by decide) _ got.length _ rfl HE.out.1 ⟨w4.heap.size, 0, none⟩ 1 1 [.int .u64 (1)] rfl rfl (cell_one_new _ _ _) (by simp [Value.oneCell']) (by decide) (by unfold maxLen; omega) (by omega) (Nat.zero_le _) (w4.heap.size + 1) (by simp) ?_; intro g cap w5 hown5 hgrow5 hat5 _; obtain ⟨q1, q2, s5, s6, HQ⟩ := HE.out.2 g cap w5 hown5 hgrow5 (hat5.imp id fun e => by rw [e]; simp); clear hown5 hgrow5 hat5)
      obtain ⟨F5, gv5, hp5, hr5⟩ := HQ.out
      have z0 : _ = some (Value.slice (some ⟨b, o, none⟩) n c) := hp5.pr.cell 0
      have z1 : _ = some (Value.int .i64 ((i + 1 : Nat) : Int)) := hp5.pr.cell 1
      clear hp5 hr5
      generalize w5.setCell ⟨pb, 2, none⟩ (.slice (some ⟨g, 0, none⟩) (got.length + 1) cap) = w6 at *
      go_wp2_with fail
      go_quiet (fail)
      go_wp2_with fail
      go_ret
      exact ⟨by simp; omega, by (try rw [if_pos HMT.out.1]); (try rw [if_pos HMT.out.1]); rw [HMT.out.2.1, HMT.out.2.2]; exact HQ.out.drawn _⟩
  by_cases k5 : d.kind = 5
  · rw [k5] at b0
    obtain ⟨q, r, tv, rows, hx⟩ := HP3.out.1.pm
    obtain ⟨i0, hi0, hz0, hz1, hz2⟩ := info_parts infoU
    have h31 : PSt w3.drew F bm v pb th made A (.slice (some ⟨b, o, none⟩) n c) (i + 1) gv got := HP3.out.1.fr ((Fr.refl (fun _ => False) w3).drawn 1) (fun _ _ e => e) id id (fun _ _ e => e)
    have hb31 : Blk w3.drew bx 109 #[.int .u8 d.kind, .int .u64 d.addr, .int .u64 d.a, .int .u64 d.b, .slice ap d.vals.length ac] := HP3.out.2.1
    have hMK : A.make th d = A.alloc th d.vals := by simp [Mem.make, k5]
    have hTL : A.tell d = A.spot d.vals := by simp [Mem.tell, k5]
    have hif : (1 ≤ d.kind ∧ d.kind ≤ 5) := by omega
    have HMT := Lib.hid (And.intro hif (And.intro hMK hTL))
    have n6 : ∀ o', (w3.drew.alloc o').cell? ⟨bx, 4, none⟩ = some (.slice ap d.vals.length ac) := fun o' => (hb31.alloc o').cell 4
    have e6 : ∀ o', (w3.drew.alloc o').cell? ⟨pb, 2, none⟩ = some gv := fun o' => (h31.pr.alloc o').cell 2
    have e6b : ∀ o', (w3.alloc o').cell? ⟨pb, 2, none⟩ = some gv := fun o' => (HP3.out.1.pr.alloc o').cell 2
    have hsw : w.heap.size ≤ w3.heap.size := HP3.out.2.2.size
    have hv3 : VA w3 (.slice ap d.vals.length ac) d.vals := by
      by_cases hv0 : d.vals = []
      · obtain ⟨p, c2, e, _⟩ := hva
        exact ⟨p, c2, e, .inl hv0⟩
      · exact hva.fr HP3.out.2.2 (fun ad nn cc e e2 => hoff hv0 ad nn cc e (.inr (.inr (.inl e2))))
    have hv6 : VA (w3.drew.alloc (.cells #[] 72)) (.slice ap d.vals.length ac) d.vals := hv3.fr (((Fr.refl (fun _ => False) w3).drawn 1).alloc _) (fun _ _ _ _ e => e)
    obtain ⟨-, hc6, hnl⟩ := hv6.nilp
    have HC6 := Lib.hid hc6
    have HNL : Hid (ap = none → d.vals.length = 0 ∧ ac = 0) := fun e => ⟨by rw [hnl e]; rfl, hnil e⟩
    have HEM := Lib.hid (emp_own w3.drew 72 1)
    have HUV : Hid ((us d.vals).length = d.vals.length) := by show _ = _; simp [us]
    have HA9 : Hid (∀ up uc w9, w9.ownsRow w3.drew.heap.size 72 1 (.slice up d.vals.length uc) d.vals.length (us d.vals) → (w3.drew.alloc (.cells #[] 72)).grownBy w9 (some w3.drew.heap.size) → w9.cell? ⟨bx, 4, none⟩ = some (.slice ap d.vals.length ac) ∧ w9.cell? ⟨pb, 2, none⟩ = some gv ∧
        Hid (Calls Tryz.prog 107 #[.pointer (some ⟨v, 0, none⟩), .slice up d.vals.length uc] w9 fun e w' => e = .returned (.int .u64 (A.spot d.vals)) ∧ Did w9 w' F bm v th made (A.alloc th d.vals)) ∧
        Hid (∀ w4, Did w9 w4 F bm v th made (A.alloc th d.vals) → w4.cell? ⟨pb, 2, none⟩ = some gv ∧ (∀ o, (w4.alloc o).cell? ⟨pb, 2, none⟩ = some gv) ∧ Blk w4 bx 109 #[.int .u8 d.kind, .int .u64 d.addr, .int .u64 d.a, .int .u64 d.b, .slice ap d.vals.length ac] ∧ (∀ o, Blk (w4.alloc o) bx 109 #[.int .u8 d.kind, .int .u64 d.addr, .int .u64 d.a, .int .u64 d.b, .slice ap d.vals.length ac]) ∧
          Hid ((w4.alloc (.cells #[.int .u64 (A.spot d.vals)] 72)).ownsRow 0 72 1 gv got.length (us got) ∧
            ∀ g c2 w5, w5.ownsRow 0 72 1 (.slice (some ⟨g, 0, none⟩) (got.length + 1) c2) (got.length + 1) (us got ++ [.int .u64 (A.spot d.vals)]) → (w4.alloc (.cells #[.int .u64 (A.spot d.vals)] 72)).grownBy w5 gv.ownBlock → (gv.ownBlock = some g ∨ g = (w4.alloc (.cells #[.int .u64 (A.spot d.vals)] 72)).heap.size) →
              w5.cell? ⟨pb, 2, none⟩ = some gv ∧ w5.frozen? ⟨pb, 2, none⟩ = false ∧ Blk w5 bx 109 #[.int .u8 d.kind, .int .u64 d.addr, .int .u64 d.a, .int .u64 d.b, .slice ap d.vals.length ac] ∧ Blk (w5.setCell ⟨pb, 2, none⟩ (.slice (some ⟨g, 0, none⟩) (got.length + 1) c2)) bx 109 #[.int .u8 d.kind, .int .u64 d.addr, .int .u64 d.a, .int .u64 d.b, .slice ap d.vals.length ac] ∧
                Hid (QRel w (w5.setCell ⟨pb, 2, none⟩ (.slice (some ⟨g, 0, none⟩) (got.length + 1) c2)) F bm v pb th (made + 1) (A.alloc th d.vals) (.slice (some ⟨b, o, none⟩) n c) (i + 1) gv (got ++ [A.spot d.vals]))))) := by
      intro up uc w9 ho9 hg9
      have f9 : Fr (fun _ => False) w3.drew w9 := Fr.of_below (((Below.refl _ w3.drew).alloc (Nat.le_refl _) _).grown hg9 (by simp) (by intro k hk; injection hk with e; omega))
      have h9 := h31.fr f9 (fun _ _ e => e) id id (fun _ _ e => e)
      have hb9 := hb31.fr f9 id
      obtain ⟨q9, r9, tv9, rows9, hx9⟩ := h9.pm
      have hva9 : VA w9 (.slice up d.vals.length uc) d.vals := by
        refine ⟨up, uc, rfl, ?_⟩
        rcases ho9.2 with ⟨e, e2⟩ | ⟨g, cap, cur, e, hge, hbk, _⟩
        · exact .inl (List.eq_nil_of_length_eq_zero e2)
        · right
          injection e with e1 _ e3
          subst e1 e3
          refine ⟨_, rfl, Blk.lt (t := 72) hbk, fun j u hu => ?_⟩
          have ea : (⟨g, 0, none⟩ : Addr).add j = ⟨g, j, none⟩ := by unfold Addr.add; split <;> simp_all
          rw [ea]
          exact own_cell ho9 hu
      have hoff9 : Off (.slice up d.vals.length uc) F := by
        intro ad nn cc e hF
        injection e with e1 _ _
        subst e1
        have := h31.lt _ hF
        rcases ho9.2 with ⟨e, _⟩ | ⟨g, cap, cur, e, hge, hbk, _⟩
        · cases e
        · injection e with e1 _ _
          injection e1 with e1
          subst e1
          exact absurd this (by simp at *; omega)
      refine ⟨hb9.cell 4, h9.pr.cell 2, Alloc_x hx9 h9.vw h9.fv hva9 (fun _ => hoff9) hl hA.x hA.n hA.t hm0 hm1, fun w4 hD => ?_⟩
      exact PSt.tellB (w := w) ((HP3.out.2.2.drawn 1).trans (f9.mono (fun _ _ e => e.elim))) h9 hb9 HBF.out (A.spot d.vals) w4 hD
    clear hx h31 hb31 hMK hTL hif hv3 hv6 hc6 hnl
    go_upto_region 18 with fail
    refine wp_region_held_drew (S := (fun w' => w'.cell? ⟨bx, 4, none⟩ = some (.slice ap d.vals.length ac))) (by kernel_rfl) (by exact b4) (fun hHeld => ?_)
    refine wpAnyH_take (i := 0) (v := ?vvq5_1) rfl (by kernel_rfl) (by kernel_rfl) (by kernel_rfl) (fun _ _ _ h => h) (Or.inl ⟨by rfl, ?hyq5_1⟩) hHeld ?restq5_1
    case hyq5_1 => first | (intro w hSw; (try dsimp only at hSw); go_simp; done) | (intro w hSw; (try dsimp only at hSw); go_simp; with_reducible rfl)
    try simp only [Act.put, List.setIfInBounds_toArray, List.set_cons_zero, List.set_cons_succ]
    refine wpAnyH_take (i := 1) (v := ?vvq5_2) rfl (by kernel_rfl) (by kernel_rfl) (by kernel_rfl) (fun _ _ _ h => h) (Or.inl ⟨by rfl, ?hyq5_2⟩) hHeld ?restq5_2
    case hyq5_2 => first | (intro w hSw; (try dsimp only at hSw); go_simp; done) | (intro w hSw; (try dsimp only at hSw); go_simp; with_reducible rfl)
    try simp only [Act.put, List.setIfInBounds_toArray, List.set_cons_zero, List.set_cons_succ]
    refine wpAnyH_take (i := 2) (v := ?vvq5_3) rfl (by kernel_rfl) (by kernel_rfl) (by kernel_rfl) (fun _ _ _ h => h) (Or.inl ⟨by rfl, ?hyq5_3⟩) hHeld ?restq5_3
    case hyq5_3 => first | (intro w hSw; (try dsimp only at hSw); go_simp; done) | (intro w hSw; (try dsimp only at hSw); go_simp; with_reducible rfl)
    try simp only [Act.put, List.setIfInBounds_toArray, List.set_cons_zero, List.set_cons_succ]
    refine wpAnyH_take (i := 3) (v := ?vvq5_4) rfl (by kernel_rfl) (by kernel_rfl) (by kernel_rfl) (fun _ _ _ h => h) (Or.inl ⟨by rfl, ?hyq5_4⟩) hHeld ?restq5_4
    case hyq5_4 => first | (intro w hSw; (try dsimp only at hSw); go_simp; done) | (intro w hSw; (try dsimp only at hSw); go_simp; with_reducible rfl)
    try simp only [Act.put, List.setIfInBounds_toArray, List.set_cons_zero, List.set_cons_succ]
    refine wpAnyH_take (i := 5) (v := ?vvq5_5) rfl (by kernel_rfl) (by kernel_rfl) (by kernel_rfl) (fun _ _ _ h => h) (Or.inl ⟨by rfl, ?hyq5_5⟩) hHeld ?restq5_5
    case hyq5_5 => first | (intro w hSw; (try dsimp only at hSw); go_simp; done) | (intro w hSw; (try dsimp only at hSw); go_simp; with_reducible rfl)
    try simp only [Act.put, List.setIfInBounds_toArray, List.set_cons_zero, List.set_cons_succ]
    refine wpAnyH_take (i := 7) (v := ?vvq5_6) rfl (by kernel_rfl) (by kernel_rfl) (by kernel_rfl) (fun _ _ _ h => h) (Or.inl ⟨by rfl, ?hyq5_6⟩) hHeld ?restq5_6
    case hyq5_6 => first | (intro w hSw; (try dsimp only at hSw); go_simp; done) | (intro w hSw; (try dsimp only at hSw); go_simp; with_reducible rfl)
    try simp only [Act.put, List.setIfInBounds_toArray, List.set_cons_zero, List.set_cons_succ]
    refine wpAnyH_take (i := 8) (v := ?vvq5_7) rfl (by kernel_rfl) (by kernel_rfl) (by kernel_rfl) (fun _ _ _ h => h) (Or.inl ⟨by rfl, ?hyq5_7⟩) hHeld ?restq5_7
    case hyq5_7 => first | (intro w hSw; (try dsimp only at hSw); go_simp; done) | (intro w hSw; (try dsimp only at hSw); go_simp; with_reducible rfl)
    try simp only [Act.put, List.setIfInBounds_toArray, List.set_cons_zero, List.set_cons_succ]
    refine wpAnyH_ready (rs := [4, 6]) (by kernel_rfl) (by simp) ?_
    refine AllReadyH.cons rfl (fun K hK => ?_) (AllReadyH.cons rfl (fun K hK => ?_) AllReadyH.nil)
    · go_simp
      refine hK.out _ _ (by exact b4) (fun hHeld => ?_)
      clear hK K
      refine wpAnyH_ready (rs := [6]) (by kernel_rfl) (by simp) ?_
      refine AllReadyH.cons rfl (fun K hK => ?_) AllReadyH.nil
      go_simp
      refine hK.out _ _ (by exact n6 _) (fun hHeld => ?_)
      clear hK K
      refine wpAnyH_ready (rs := [9]) (by kernel_rfl) (by simp) ?_
      refine AllReadyH.cons rfl (fun K hK => ?_) AllReadyH.nil
      refine step_app_u64 rfl _ _ rfl w3.drew.heap.size _ 0 [] rfl HEM.out ap d.vals.length ac rfl (us d.vals) HUV.out HNL.out HC6.out us_one (by omega) (by simp) ?_
      intro up uc w9 ho9 hg9
      rw [Nat.zero_add] at ho9
      obtain ⟨s9, e9, HC9, HT9⟩ := HA9.out up uc w9 ho9 hg9
      clear ho9 hg9
      try rw [Nat.zero_add]
      refine hK.out _ _ (by exact s9) (fun hHeld => ?_)
      clear hK K
      refine wpAnyH_ready (rs := [10]) (by kernel_rfl) (by simp) ?_
      refine AllReadyH.cons rfl (fun K hK => ?_) AllReadyH.nil
      go_simp
      refine HC9.out.mono ?_
      rintro e w4 ⟨rfl, hD4⟩
      obtain ⟨a1, a2, s1, s2, HE⟩ := HT9.out _ hD4
      clear hD4
      refine hK.out _ _ (by exact s1.cell 4) (fun hHeld => ?_)
      clear hK K
      refine wpAnyH_ready (rs := [11]) (by kernel_rfl) (by simp) ?_
      refine AllReadyH.cons rfl (fun K hK => ?_) AllReadyH.nil
      go_simp
      refine hK.out _ _ (by exact (s2 _).cell 4) (fun hHeld => ?_)
      clear hK K
      refine wpAnyH_ready (rs := [12]) (by kernel_rfl) (by simp) ?_
      refine AllReadyH.cons rfl (fun K hK => ?_) AllReadyH.nil
      refine step_append_lies _ rfl _ _ 107 rfl 0 72 i0 _ 1 8 Tryz.underlying107 hi0 hz0 hz1 hz2 rfl (by decide) _ got.length _ rfl HE.out.1 ⟨w4.heap.size, 0, none⟩ 1 1 [.int .u64 (A.spot d.vals)] rfl rfl (World.news_of_block (heap_alloc_new _ _)) (by simp [Value.oneCell']) (by decide) (by unfold maxLen; omega) (by omega) (Nat.zero_le _) _ rfl ?_
      intro g cap w5 hown5 hgrow5 hat5 hlt5
      obtain ⟨q1, q2, s5, s6, HQ⟩ := HE.out.2 g cap w5 hown5 hgrow5 hat5
      clear hown5 hgrow5 hat5 hlt5
      refine hK.out _ _ (by exact s5.cell 4) (fun hHeld => ?_)
      clear hK K
      refine wpAnyH_take (i := 13) (v := ?vvq5_8) rfl (by kernel_rfl) (by kernel_rfl) (by kernel_rfl) (fun _ _ _ h => h) (Or.inl ⟨by rfl, ?hyq5_8⟩) hHeld ?restq5_8
      case hyq5_8 => first | (intro w hSw; (try dsimp only at hSw); go_simp; done) | (intro w hSw; (try dsimp only at hSw); go_simp; with_reducible rfl)
      try simp only [Act.put, List.setIfInBounds_toArray, List.set_cons_zero, List.set_cons_succ]
      refine wpAnyH_take (i := 14) (v := ?vvq5_9) rfl (by kernel_rfl) (by kernel_rfl) (by kernel_rfl) (fun _ _ _ h => h) (Or.inl ⟨by rfl, ?hyq5_9⟩) hHeld ?restq5_9
      case hyq5_9 => first | (intro w hSw; (try dsimp only at hSw); go_simp; done) | (intro w hSw; (try dsimp only at hSw); go_simp; with_reducible rfl)
      try simp only [Act.put, List.setIfInBounds_toArray, List.set_cons_zero, List.set_cons_succ]
      refine wpAnyH_ready (rs := [15]) (by kernel_rfl) (by simp) ?_
      refine AllReadyH.cons rfl (fun K hK => ?_) AllReadyH.nil
      go_simp
      refine hK.out _ _ (by exact s6.cell 4) (fun hHeld => ?_)
      clear hK K
      refine wpAnyH_done (by kernel_rfl) ?_ _
      obtain ⟨F5, gv5, hp5, hr5⟩ := HQ.out
      have z0 : _ = some (Value.slice (some ⟨b, o, none⟩) n c) := hp5.pr.cell 0
      have z1 : _ = some (Value.int .i64 ((i + 1 : Nat) : Int)) := hp5.pr.cell 1
      clear hp5 hr5
      generalize w5.setCell ⟨pb, 2, none⟩ (.slice (some ⟨g, 0, none⟩) (got.length + 1) cap) = w6 at *
      go_wp2_with fail
      go_quiet (fail)
      go_wp2_with fail
      go_ret
      exact ⟨by simp; omega, by (try rw [if_pos HMT.out.1]); (try rw [if_pos HMT.out.1]); rw [HMT.out.2.1, HMT.out.2.2]; exact HQ.out.drawn _⟩
    · go_simp
      refine hK.out _ _ (by exact n6 _) (fun hHeld => ?_)
      clear hK K
      refine wpAnyH_ready (rs := [4, 9]) (by kernel_rfl) (by simp) ?_
      refine AllReadyH.cons rfl (fun K hK => ?_) (AllReadyH.cons rfl (fun K hK => ?_) AllReadyH.nil)
      · go_simp
        refine hK.out _ _ (by exact n6 _) (fun hHeld => ?_)
        clear hK K
        refine wpAnyH_ready (rs := [9]) (by kernel_rfl) (by simp) ?_
        refine AllReadyH.cons rfl (fun K hK => ?_) AllReadyH.nil
        refine step_app_u64 rfl _ _ rfl w3.drew.heap.size _ 0 [] rfl HEM.out ap d.vals.length ac rfl (us d.vals) HUV.out HNL.out HC6.out us_one (by omega) (by simp) ?_
        intro up uc w9 ho9 hg9
        rw [Nat.zero_add] at ho9
        obtain ⟨s9, e9, HC9, HT9⟩ := HA9.out up uc w9 ho9 hg9
        clear ho9 hg9
        try rw [Nat.zero_add]
        refine hK.out _ _ (by exact s9) (fun hHeld => ?_)
        clear hK K
        refine wpAnyH_ready (rs := [10]) (by kernel_rfl) (by simp) ?_
        refine AllReadyH.cons rfl (fun K hK => ?_) AllReadyH.nil
        go_simp
        refine HC9.out.mono ?_
        rintro e w4 ⟨rfl, hD4⟩
        obtain ⟨a1, a2, s1, s2, HE⟩ := HT9.out _ hD4
        clear hD4
        refine hK.out _ _ (by exact s1.cell 4) (fun hHeld => ?_)
        clear hK K
        refine wpAnyH_ready (rs := [11]) (by kernel_rfl) (by simp) ?_
        refine AllReadyH.cons rfl (fun K hK => ?_) AllReadyH.nil
        go_simp
        refine hK.out _ _ (by exact (s2 _).cell 4) (fun hHeld => ?_)
        clear hK K
        refine wpAnyH_ready (rs := [12]) (by kernel_rfl) (by simp) ?_
        refine AllReadyH.cons rfl (fun K hK => ?_) AllReadyH.nil
        refine step_append_lies _ rfl _ _ 107 rfl 0 72 i0 _ 1 8 Tryz.underlying107 hi0 hz0 hz1 hz2 rfl (by decide) _ got.length _ rfl HE.out.1 ⟨w4.heap.size, 0, none⟩ 1 1 [.int .u64 (A.spot d.vals)] rfl rfl (World.news_of_block (heap_alloc_new _ _)) (by simp [Value.oneCell']) (by decide) (by unfold maxLen; omega) (by omega) (Nat.zero_le _) _ rfl ?_
        intro g cap w5 hown5 hgrow5 hat5 hlt5
        obtain ⟨q1, q2, s5, s6, HQ⟩ := HE.out.2 g cap w5 hown5 hgrow5 hat5
        clear hown5 hgrow5 hat5 hlt5
        refine hK.out _ _ (by exact s5.cell 4) (fun hHeld => ?_)
        clear hK K
        refine wpAnyH_take (i := 13) (v := ?vvq5_10) rfl (by kernel_rfl) (by kernel_rfl) (by kernel_rfl) (fun _ _ _ h => h) (Or.inl ⟨by rfl, ?hyq5_10⟩) hHeld ?restq5_10
        case hyq5_10 => first | (intro w hSw; (try dsimp only at hSw); go_simp; done) | (intro w hSw; (try dsimp only at hSw); go_simp; with_reducible rfl)
        try simp only [Act.put, List.setIfInBounds_toArray, List.set_cons_zero, List.set_cons_succ]
        refine wpAnyH_take (i := 14) (v := ?vvq5_11) rfl (by kernel_rfl) (by kernel_rfl) (by kernel_rfl) (fun _ _ _ h => h) (Or.inl ⟨by rfl, ?hyq5_11⟩) hHeld ?restq5_11
        case hyq5_11 => first | (intro w hSw; (try dsimp only at hSw); go_simp; done) | (intro w hSw; (try dsimp only at hSw); go_simp; with_reducible rfl)
        try simp only [Act.put, List.setIfInBounds_toArray, List.set_cons_zero, List.set_cons_succ]
        refine wpAnyH_ready (rs := [15]) (by kernel_rfl) (by simp) ?_
        refine AllReadyH.cons rfl (fun K hK => ?_) AllReadyH.nil
        go_simp
        refine hK.out _ _ (by exact s6.cell 4) (fun hHeld => ?_)
        clear hK K
        refine wpAnyH_done (by kernel_rfl) ?_ _
        obtain ⟨F5, gv5, hp5, hr5⟩ := HQ.out
        have z0 : _ = some (Value.slice (some ⟨b, o, none⟩) n c) := hp5.pr.cell 0
        have z1 : _ = some (Value.int .i64 ((i + 1 : Nat) : Int)) := hp5.pr.cell 1
        clear hp5 hr5
        generalize w5.setCell ⟨pb, 2, none⟩ (.slice (some ⟨g, 0, none⟩) (got.length + 1) cap) = w6 at *
        go_wp2_with fail
        go_quiet (fail)
        go_wp2_with fail
        go_ret
        exact ⟨by simp; omega, by (try rw [if_pos HMT.out.1]); (try rw [if_pos HMT.out.1]); rw [HMT.out.2.1, HMT.out.2.2]; exact HQ.out.drawn _⟩
      · refine step_app_u64 rfl _ _ rfl w3.drew.heap.size _ 0 [] rfl HEM.out ap d.vals.length ac rfl (us d.vals) HUV.out HNL.out HC6.out us_one (by omega) (by simp) ?_
        intro up uc w9 ho9 hg9
        rw [Nat.zero_add] at ho9
        obtain ⟨s9, e9, HC9, HT9⟩ := HA9.out up uc w9 ho9 hg9
        clear ho9 hg9
        try rw [Nat.zero_add]
        refine hK.out _ _ (by exact s9) (fun hHeld => ?_)
        clear hK K
        refine wpAnyH_ready (rs := [4, 10]) (by kernel_rfl) (by simp) ?_
        refine AllReadyH.cons rfl (fun K hK => ?_) (AllReadyH.cons rfl (fun K hK => ?_) AllReadyH.nil)
        · go_simp
          refine hK.out _ _ (by exact s9) (fun hHeld => ?_)
          clear hK K
          refine wpAnyH_ready (rs := [10]) (by kernel_rfl) (by simp) ?_
          refine AllReadyH.cons rfl (fun K hK => ?_) AllReadyH.nil
          go_simp
          refine HC9.out.mono ?_
          rintro e w4 ⟨rfl, hD4⟩
          obtain ⟨a1, a2, s1, s2, HE⟩ := HT9.out _ hD4
          clear hD4
          refine hK.out _ _ (by exact s1.cell 4) (fun hHeld => ?_)
          clear hK K
          refine wpAnyH_ready (rs := [11]) (by kernel_rfl) (by simp) ?_
          refine AllReadyH.cons rfl (fun K hK => ?_) AllReadyH.nil
          go_simp
          refine hK.out _ _ (by exact (s2 _).cell 4) (fun hHeld => ?_)
          clear hK K
          refine wpAnyH_ready (rs := [12]) (by kernel_rfl) (by simp) ?_
          refine AllReadyH.cons rfl (fun K hK => ?_) AllReadyH.nil
          refine step_append_lies _ rfl _ _ 107 rfl 0 72 i0 _ 1 8 Tryz.underlying107 hi0 hz0 hz1 hz2 rfl (by decide) _ got.length _ rfl HE.out.1 ⟨w4.heap.size, 0, none⟩ 1 1 [.int .u64 (A.spot d.vals)] rfl rfl (World.news_of_block (heap_alloc_new _ _)) (by simp [Value.oneCell']) (by decide) (by unfold maxLen; omega) (by omega) (Nat.zero_le _) _ rfl ?_
          intro g cap w5 hown5 hgrow5 hat5 hlt5
          obtain ⟨q1, q2, s5, s6, HQ⟩ := HE.out.2 g cap w5 hown5 hgrow5 hat5
          clear hown5 hgrow5 hat5 hlt5
          refine hK.out _ _ (by exact s5.cell 4) (fun hHeld => ?_)
          clear hK K
          refine wpAnyH_take (i := 13) (v := ?vvq5_12) rfl (by kernel_rfl) (by kernel_rfl) (by kernel_rfl) (fun _ _ _ h => h) (Or.inl ⟨by rfl, ?hyq5_12⟩) hHeld ?restq5_12
          case hyq5_12 => first | (intro w hSw; (try dsimp only at hSw); go_simp; done) | (intro w hSw; (try dsimp only at hSw); go_simp; with_reducible rfl)
          try simp only [Act.put, List.setIfInBounds_toArray, List.set_cons_zero, List.set_cons_succ]
          refine wpAnyH_take (i := 14) (v := ?vvq5_13) rfl (by kernel_rfl) (by kernel_rfl) (by kernel_rfl) (fun _ _ _ h => h) (Or.inl ⟨by rfl, ?hyq5_13⟩) hHeld ?restq5_13
          case hyq5_13 => first | (intro w hSw; (try dsimp only at hSw); go_simp; done) | (intro w hSw; (try dsimp only at hSw); go_simp; with_reducible rfl)
          try simp only [Act.put, List.setIfInBounds_toArray, List.set_cons_zero, List.set_cons_succ]
          refine wpAnyH_ready (rs := [15]) (by kernel_rfl) (by simp) ?_
          refine AllReadyH.cons rfl (fun K hK => ?_) AllReadyH.nil
          go_simp
          refine hK.out _ _ (by exact s6.cell 4) (fun hHeld => ?_)
          clear hK K
          refine wpAnyH_done (by kernel_rfl) ?_ _
          obtain ⟨F5, gv5, hp5, hr5⟩ := HQ.out
          have z0 : _ = some (Value.slice (some ⟨b, o, none⟩) n c) := hp5.pr.cell 0
          have z1 : _ = some (Value.int .i64 ((i + 1 : Nat) : Int)) := hp5.pr.cell 1
          clear hp5 hr5
          generalize w5.setCell ⟨pb, 2, none⟩ (.slice (some ⟨g, 0, none⟩) (got.length + 1) cap) = w6 at *
          go_wp2_with fail
          go_quiet (fail)
          go_wp2_with fail
          go_ret
          exact ⟨by simp; omega, by (try rw [if_pos HMT.out.1]); (try rw [if_pos HMT.out.1]); rw [HMT.out.2.1, HMT.out.2.2]; exact HQ.out.drawn _⟩
        · go_simp
          refine HC9.out.mono ?_
          rintro e w4 ⟨rfl, hD4⟩
          obtain ⟨a1, a2, s1, s2, HE⟩ := HT9.out _ hD4
          clear hD4
          refine hK.out _ _ (by exact s1.cell 4) (fun hHeld => ?_)
          clear hK K
          refine wpAnyH_ready (rs := [4, 11]) (by kernel_rfl) (by simp) ?_
          refine AllReadyH.cons rfl (fun K hK => ?_) (AllReadyH.cons rfl (fun K hK => ?_) AllReadyH.nil)
          · go_simp
            refine hK.out _ _ (by exact s1.cell 4) (fun hHeld => ?_)
            clear hK K
            refine wpAnyH_ready (rs := [11]) (by kernel_rfl) (by simp) ?_
            refine AllReadyH.cons rfl (fun K hK => ?_) AllReadyH.nil
            go_simp
            refine hK.out _ _ (by exact (s2 _).cell 4) (fun hHeld => ?_)
            clear hK K
            refine wpAnyH_ready (rs := [12]) (by kernel_rfl) (by simp) ?_
            refine AllReadyH.cons rfl (fun K hK => ?_) AllReadyH.nil
            refine step_append_lies _ rfl _ _ 107 rfl 0 72 i0 _ 1 8 Tryz.underlying107 hi0 hz0 hz1 hz2 rfl (by decide) _ got.length _ rfl HE.out.1 ⟨w4.heap.size, 0, none⟩ 1 1 [.int .u64 (A.spot d.vals)] rfl rfl (World.news_of_block (heap_alloc_new _ _)) (by simp [Value.oneCell']) (by decide) (by unfold maxLen; omega) (by omega) (Nat.zero_le _) _ rfl ?_
            intro g cap w5 hown5 hgrow5 hat5 hlt5
            obtain ⟨q1, q2, s5, s6, HQ⟩ := HE.out.2 g cap w5 hown5 hgrow5 hat5
            clear hown5 hgrow5 hat5 hlt5
            refine hK.out _ _ (by exact s5.cell 4) (fun hHeld => ?_)
            clear hK K
            refine wpAnyH_take (i := 13) (v := ?vvq5_14) rfl (by kernel_rfl) (by kernel_rfl) (by kernel_rfl) (fun _ _ _ h => h) (Or.inl ⟨by rfl, ?hyq5_14⟩) hHeld ?restq5_14
            case hyq5_14 => first | (intro w hSw; (try dsimp only at hSw); go_simp; done) | (intro w hSw; (try dsimp only at hSw); go_simp; with_reducible rfl)
            try simp only [Act.put, List.setIfInBounds_toArray, List.set_cons_zero, List.set_cons_succ]
            refine wpAnyH_take (i := 14) (v := ?vvq5_15) rfl (by kernel_rfl) (by kernel_rfl) (by kernel_rfl) (fun _ _ _ h => h) (Or.inl ⟨by rfl, ?hyq5_15⟩) hHeld ?restq5_15
            case hyq5_15 => first | (intro w hSw; (try dsimp only at hSw); go_simp; done) | (intro w hSw; (try dsimp only at hSw); go_simp; with_reducible rfl)
            try simp only [Act.put, List.setIfInBounds_toArray, List.set_cons_zero, List.set_cons_succ]
            refine wpAnyH_ready (rs := [15]) (by kernel_rfl) (by simp) ?_
            refine AllReadyH.cons rfl (fun K hK => ?_) AllReadyH.nil
            go_simp
            refine hK.out _ _ (by exact s6.cell 4) (fun hHeld => ?_)
            clear hK K
            refine wpAnyH_done (by kernel_rfl) ?_ _
            obtain ⟨F5, gv5, hp5, hr5⟩ := HQ.out
            have z0 : _ = some (Value.slice (some ⟨b, o, none⟩) n c) := hp5.pr.cell 0
            have z1 : _ = some (Value.int .i64 ((i + 1 : Nat) : Int)) := hp5.pr.cell 1
            clear hp5 hr5
            generalize w5.setCell ⟨pb, 2, none⟩ (.slice (some ⟨g, 0, none⟩) (got.length + 1) cap) = w6 at *
            go_wp2_with fail
            go_quiet (fail)
            go_wp2_with fail
            go_ret
            exact ⟨by simp; omega, by (try rw [if_pos HMT.out.1]); (try rw [if_pos HMT.out.1]); rw [HMT.out.2.1, HMT.out.2.2]; exact HQ.out.drawn _⟩
          · go_simp
            refine hK.out _ _ (by exact (s2 _).cell 4) (fun hHeld => ?_)
            clear hK K
            refine wpAnyH_ready (rs := [4]) (by kernel_rfl) (by simp) ?_
            refine AllReadyH.cons rfl (fun K hK => ?_) AllReadyH.nil
            go_simp
            refine hK.out _ _ (by exact (s2 _).cell 4) (fun hHeld => ?_)
            clear hK K
            refine wpAnyH_ready (rs := [12]) (by kernel_rfl) (by simp) ?_
            refine AllReadyH.cons rfl (fun K hK => ?_) AllReadyH.nil
            refine step_append_lies _ rfl _ _ 107 rfl 0 72 i0 _ 1 8 Tryz.underlying107 hi0 hz0 hz1 hz2 rfl (by decide) _ got.length _ rfl HE.out.1 ⟨w4.heap.size, 0, none⟩ 1 1 [.int .u64 (A.spot d.vals)] rfl rfl (World.news_of_block (heap_alloc_new _ _)) (by simp [Value.oneCell']) (by decide) (by unfold maxLen; omega) (by omega) (Nat.zero_le _) _ rfl ?_
            intro g cap w5 hown5 hgrow5 hat5 hlt5
            obtain ⟨q1, q2, s5, s6, HQ⟩ := HE.out.2 g cap w5 hown5 hgrow5 hat5
            clear hown5 hgrow5 hat5 hlt5
            refine hK.out _ _ (by exact s5.cell 4) (fun hHeld => ?_)
            clear hK K
            refine wpAnyH_take (i := 13) (v := ?vvq5_16) rfl (by kernel_rfl) (by kernel_rfl) (by kernel_rfl) (fun _ _ _ h => h) (Or.inl ⟨by rfl, ?hyq5_16⟩) hHeld ?restq5_16
            case hyq5_16 => first | (intro w hSw; (try dsimp only at hSw); go_simp; done) | (intro w hSw; (try dsimp only at hSw); go_simp; with_reducible rfl)
            try simp only [Act.put, List.setIfInBounds_toArray, List.set_cons_zero, List.set_cons_succ]
            refine wpAnyH_take (i := 14) (v := ?vvq5_17) rfl (by kernel_rfl) (by kernel_rfl) (by kernel_rfl) (fun _ _ _ h => h) (Or.inl ⟨by rfl, ?hyq5_17⟩) hHeld ?restq5_17
            case hyq5_17 => first | (intro w hSw; (try dsimp only at hSw); go_simp; done) | (intro w hSw; (try dsimp only at hSw); go_simp; with_reducible rfl)
            try simp only [Act.put, List.setIfInBounds_toArray, List.set_cons_zero, List.set_cons_succ]
            refine wpAnyH_ready (rs := [15]) (by kernel_rfl) (by simp) ?_
            refine AllReadyH.cons rfl (fun K hK => ?_) AllReadyH.nil
            go_simp
            refine hK.out _ _ (by exact s6.cell 4) (fun hHeld => ?_)
            clear hK K
            refine wpAnyH_done (by kernel_rfl) ?_ _
            obtain ⟨F5, gv5, hp5, hr5⟩ := HQ.out
            have z0 : _ = some (Value.slice (some ⟨b, o, none⟩) n c) := hp5.pr.cell 0
            have z1 : _ = some (Value.int .i64 ((i + 1 : Nat) : Int)) := hp5.pr.cell 1
            clear hp5 hr5
            generalize w5.setCell ⟨pb, 2, none⟩ (.slice (some ⟨g, 0, none⟩) (got.length + 1) cap) = w6 at *
            go_wp2_with fail
            go_quiet (fail)
            go_wp2_with fail
            go_ret
            exact ⟨by simp; omega, by (try rw [if_pos HMT.out.1]); (try rw [if_pos HMT.out.1]); rw [HMT.out.2.1, HMT.out.2.2]; exact HQ.out.drawn _⟩
  have t1 : decide (d.kind = 1) = false := by simpa using k1
  have t2 : decide (d.kind = 2) = false := by simpa using k2
  have t3 : decide (d.kind = 3) = false := by simpa using k3
  have t4 : decide (d.kind = 4) = false := by simpa using k4
  have t5 : decide (d.kind = 5) = false := by simpa using k5
  have HMT : Hid (¬ (1 ≤ d.kind ∧ d.kind ≤ 5) ∧ A.make th d = A) := ⟨by omega, by simp [Mem.make, k1, k2, k3, k4, k5]⟩
  have HQ : Hid (QRel w w3 F bm v pb th made A (.slice (some ⟨b, o, none⟩) n c) (i + 1) gv got) := ⟨F, gv, HP3.out.1, fun k e => .inl e, fun g e => .inl e, HP3.out.2.2.mono (fun k _ e => .inr (.inr (.inl e)))⟩
  have z0 : w3.cell? ⟨pb, 0, none⟩ = some (Value.slice (some ⟨b, o, none⟩) n c) := HP3.out.1.pr.cell 0
  have z1 : w3.cell? ⟨pb, 1, none⟩ = some (Value.int .i64 ((i + 1 : Nat) : Int)) := HP3.out.1.pr.cell 1
  go_wp2_with fail
  go_quiet (fail)
  go_wp2_with fail
  go_ret
  exact ⟨by simp; omega, by (try rw [if_neg HMT.out.1]); (try rw [if_neg HMT.out.1]); rw [HMT.out.2]; (try rw [List.append_nil]); exact HQ.out.drawn _⟩
end
end Go.Proofs.YtkaplifhaafpdaaGreat

/-
  What a run leaves, as the laws read it; CameraRuns. No condition.
-/
import Derived.Test.YtfbdgodebeggbaaCamPlain
namespace Go.Proofs.Ytfbdgodebeggbaa
open Go Go.RowKit
set_option linter.unusedSimpArgs false
set_option linter.unusedVariables false
/-- the calls that began, and the program's memory -/
structure RFin (w : World) (bm : Nat) (allv : Value) (cs : List CS) (A : Mem) : Prop where
  row : ∃ ps : List (Nat × Nat × Nat), ps.length = cs.length ∧ w.ownsRow 0 55 1 allv cs.length (ps.map fun c => Value.pointer (some ⟨c.1, 0, none⟩)) ∧ ∀ (j : Nat) (c : CS) (p : Nat × Nat × Nat), cs[j]? = some c → ps[j]? = some p → ∃ C, CAt w C p.1 p.2.1 p.2.2 c
  mem : ∃ F, PM w F bm A
section
variable {w w' : World} {bm j n : Nat} {allv u : Value} {cs : List CS} {A : Mem} {c : CS} {picks : List Int} {th : List (List (Bool × Int))} {lab : Nat → Nat} {P : RP} {s : RS} {m : Nat}
theorem RFin.fr (h : RFin w bm allv cs A) (hf : Fr (fun _ => False) w w') : RFin w' bm allv cs A := by
  obtain ⟨⟨ps, h1, h2, h3⟩, F, h4⟩ := h
  refine ⟨⟨ps, h1, own_some h2 hf (fun _ _ _ e => e), fun j c p hc hp => ?_⟩, F, h4.fr hf (fun _ _ e => e)⟩
  obtain ⟨C, hC⟩ := h3 j c p hc hp
  exact ⟨C, hC.fr hf (fun _ _ e => e)⟩
theorem RFin.drawn (h : RFin w bm allv cs A) (k : Nat) : RFin (w.drewN k) bm allv cs A := h.fr ((Fr.refl (fun _ => False) w).drawn k)
theorem RFin.of (h : RH w lab P allv s m) (hl : RL n P s) : RFin w P.bm allv s.all s.A :=
  ⟨⟨P.calls, hl.clen, h.all, fun j c p hc hp => ⟨_, h.call j c p hc hp⟩⟩, _, h.both.pm⟩
theorem RFin.form (h : RFin w bm allv cs A) : ∃ p cap, allv = .slice p cs.length cap := by
  obtain ⟨⟨ps, h1, h2, h3⟩, _⟩ := h
  rcases h2.2 with ⟨h4, h5⟩ | ⟨g, cap, cur, h4, _⟩
  · exact ⟨none, 0, by rw [h4, h5]⟩
  · exact ⟨_, _, h4⟩
theorem RFin.at (h : RFin w bm allv cs A) (hc : cs[j]? = some c) : ∃ g cap pb np tp, allv = .slice (some ⟨g, 0, none⟩) cs.length cap ∧ w.cell? ⟨g, j, none⟩ = some (.pointer (some ⟨pb, 0, none⟩)) ∧ PAt w pb (c.ps np tp) ∧ NowAt w np c.n ∧ TakeAt w tp c.t := by
  obtain ⟨⟨ps, h1, h2, h3⟩, _⟩ := h
  have hj : j < cs.length := (List.getElem?_eq_some_iff.1 hc).1
  have hp : ps[j]? = some ps[j] := List.getElem?_eq_getElem (by omega)
  obtain ⟨C, hC⟩ := h3 j c _ hc hp
  obtain ⟨g, cap, hv, _⟩ := h2.form (by omega)
  subst hv
  exact ⟨g, cap, _, _, _, rfl, own_cell h2 (by rw [List.getElem?_map, hp]; rfl), hC.p, hC.n, hC.t⟩
/-- numbers that fit -/
def FitsT (th : List (List (Bool × Int))) : Prop := th.length ≤ 1048576 ∧ (∀ l ∈ th, l.length ≤ 1048576) ∧ ∀ l ∈ th, ∀ x ∈ l, 0 ≤ x.2 ∧ x.2 ≤ 18446744073709551615
theorem ran_fin (cell first : Int) (tv pv : Value) (w : World) (h0 : 0 ≤ cell) (ht : ThreadsAt w tv th) (hp : PicksAt w pv picks) (hn : FitsT th) (hk : picks.length ≤ 1048576) :
    Calls Try.prog 26 #[.agg #[.int .u64 cell, .int .u64 first, tv, pv]] w fun e w' => ∃ bm p cap, e = .returned (.tuple #[.slice p (RS.upto cell first th picks picks.length).all.length cap, .pointer (some ⟨bm, 0, none⟩), .bool true]) ∧
      RFin w' bm (.slice p (RS.upto cell first th picks picks.length).all.length cap) (RS.upto cell first th picks picks.length).all (RS.upto cell first th picks picks.length).A ∧ Below w.heap.size w w' := by
  refine (ran_any cell first tv pv w h0 ht hp hn.1 hk hn.2.1).mono ?_
  rintro e w' ⟨lab, P, allv, rfl, hR, hL, hb⟩
  have hF := RFin.of hR hL
  obtain ⟨p, cap, rfl⟩ := hF.form
  exact ⟨P.bm, p, cap, rfl, hF, hb⟩
set_option maxRecDepth 100000 in
theorem CameraRuns_any (cell first : Int) (tv pv : Value) (w : World) (h0 : 0 ≤ cell) (ht : ThreadsAt w tv th) (hp : PicksAt w pv picks) (hn : FitsT th) (hk : picks.length ≤ 1048576) :
    Calls Try.prog 4 #[.agg #[.int .u64 cell, .int .u64 first, tv, pv]] w fun e w' => e = .returned (.bool true) ∧ Below w.heap.size w w' := by
  have HT := Lib.hid ht
  have HP := Lib.hid hp
  obtain ⟨tp, tc, rfl, -⟩ := ht
  obtain ⟨pp, pc, rfl, -⟩ := hp
  go_enter Try.func4, Try.ntmps4
  go_wp2_with fail
  have hbx := Blk.made w 42 #[.int .u64 cell, .int .u64 first, .slice tp th.length tc, .slice pp picks.length pc]
  have b1 := (Below.refl w.heap.size w).alloc (Nat.le_refl _) (.cells #[.int .u64 cell, .int .u64 first, .slice tp th.length tc, .slice pp picks.length pc] 42)
  generalize hw1 : w.alloc _ = w1 at *
  clear hw1
  refine (live8_any _).mono ?_
  rintro e w2 ⟨rfl, b2⟩
  have hbx2 := hbx.below b2
  have b12 := b1.trans (b2.mono b1.size)
  have c0 : w2.cell? ⟨w.heap.size, 0, none⟩ = some _ := hbx2.cell 0
  have c1 : w2.cell? ⟨w.heap.size, 1, none⟩ = some _ := hbx2.cell 1
  have c2 : w2.cell? ⟨w.heap.size, 2, none⟩ = some _ := hbx2.cell 2
  have c3 : w2.cell? ⟨w.heap.size, 3, none⟩ = some _ := hbx2.cell 3
  have HR := Lib.hid (ran_fin cell first _ _ w2 h0 (HT.out.below b12) (HP.out.below b12) hn hk)
  clear hbx b1 b2 hbx2
  go_wp2_with fail
  refine HR.out.mono ?_
  rintro e w3 ⟨bm, p, cap, rfl, hF, b3⟩
  have b13 := b12.trans (b3.mono b12.size)
  clear hF
  go_wp2
  go_ret
  exact ⟨rfl, b13⟩
end
end Go.Proofs.Ytfbdgodebeggbaa

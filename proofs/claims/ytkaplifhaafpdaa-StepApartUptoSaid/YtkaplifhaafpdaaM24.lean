/-
  StLoads, StFin, StLong: the texts of the proof, merged. No condition.
-/
import Derived.Test.YtkaplifhaafpdaaM23
import Derived.Test.YtkaplifhaafpdaaM17
import Derived.Test.YtkaplifhaafpdaaM07
import Derived.Test.YtkaplifhaafpdaaM16
section
/-
  StepLoads: a Load of any cell. No condition.
-/
namespace Go.Proofs.Ytkaplifhaafpdaa
open Go Go.RowKit
set_option linter.unusedSimpArgs false
set_option linter.unusedVariables false
theorem LStep_o {w0 w : World} {F : Nat → Prop} {bm v pb : Nat} {A : Mem} {th made a y : Int} (h : Own w0 w F bm A) (hv : VW w v bm th made) (hF : ¬ F v) (hB : w0.heap.size ≤ v) (hl : LD w pb a false y) (hFp : ¬ F pb) (hBp : w0.heap.size ≤ pb) (h0 : 0 ≤ a) (ht : A.Fit) (hm0 : 0 ≤ made) (hm1 : made ≤ 1000000000) :
    Calls Try.prog 17 #[.pointer (some ⟨pb, 0, none⟩), .pointer (some ⟨v, 0, none⟩)] w fun e w' => e = .returned (.bool true) ∧ ∃ F', Own w0 w' F' bm (A.load th a) ∧ VW w' v bm th (made + 1) ∧ ¬ F' v ∧ ¬ F' pb ∧ LD w' pb a true (A.peek a) := by
  refine (LStep_on h.mine.1 hv hl hFp h0 ht.n ht.t hm0 hm1).mono ?_
  rintro e w' ⟨rfl, hm, hv', hl', hf⟩
  refine ⟨rfl, _, ⟨⟨hm.tight, ?_⟩, h.below.trans (hf.to_below h.size ?_)⟩, hv', ?_, ?_, hl'⟩
  · rintro b ⟨⟨hb | hb, _⟩, hl⟩
    · exact ⟨(h.mine.2 b hb).1, hl⟩
    · exact ⟨Nat.le_trans h.size hb, hl⟩
  · rintro k hk (e | e | e)
    · have := (h.mine.2 k e).1; omega
    · omega
    · omega
  · rintro ⟨⟨e | e, _⟩, _⟩
    · exact hF e
    · have : v < w.heap.size := Blk.lt hv
      have : w.heap.size ≤ v := e
      omega
  · rintro ⟨⟨_, e⟩, _⟩
    exact e rfl
theorem made_peek (a y : Int) (h0 : 0 ≤ a) : ((Mem.made 128).store 0 a y).peek a = if a < 128 then y else 0 := by
  obtain ⟨n, rfl⟩ : ∃ n : Nat, a = n := ⟨a.toNat, by omega⟩
  simp only [Mem.peek, Mem.store, Mem.note, Mem.put, Mem.made, Int.toNat_natCast]
  by_cases h : n < 128
  · rw [if_pos (by omega), List.getD_eq_getElem?_getD, List.getElem?_set_self (by simpa using h)]
    rfl
  · rw [if_neg (by omega), List.getD_eq_getElem?_getD, List.getElem?_eq_none (by simp; omega)]
    rfl
theorem fit_made : (Mem.made 128).Fit := ⟨by simp [Mem.made], by simp [Mem.made], by simp [Mem.made]⟩
theorem fit_store {A : Mem} {t x u : Int} (h : A.Fit) (hl : A.trace.length ≤ 1000) : (A.store t x u).Fit := ⟨by simpa [Mem.store, Mem.note, Mem.put] using h.n, by simp [Mem.store, Mem.note, Mem.put]; omega, by simpa [Mem.store, Mem.note, Mem.put] using h.x⟩
theorem fit_load {A : Mem} {t x : Int} (h : A.Fit) (hl : A.trace.length ≤ 1000) : (A.load t x).Fit := ⟨by simpa [Mem.load, Mem.note] using h.n, by simp [Mem.load, Mem.note]; omega, by simpa [Mem.load, Mem.note] using h.x⟩
set_option maxHeartbeats 2000000 in
set_option maxRecDepth 100000 in
theorem StepLoads_any (a y : Int) (w : World) (h0 : 0 ≤ a) : Calls Try.prog 3 #[.int .u64 a, .int .u64 y] w fun e w' => e = .returned (.bool true) ∧ Below w.heap.size w w' := by
  have hlt : ∃ want : Int, ((a < 128 ∧ want = y) ∨ (¬ a < 128 ∧ want = 0)) ∧ ((Mem.made 128).store 0 a y).peek a = want := by
    refine ⟨if a < 128 then y else 0, ?_, made_peek a y h0⟩
    by_cases h : a < 128
    · exact .inl ⟨h, by rw [if_pos h]⟩
    · exact .inr ⟨h, by rw [if_neg h]⟩
  obtain ⟨want, hw, hpk⟩ := hlt
  have HW := Lib.hid hw
  have HPK := Lib.hid hpk
  clear hw hpk
  go_enter Try.func3, Try.ntmps3
  go_wp2_with fail
  refine (live_any w).mono ?_
  rintro e wl ⟨rfl, hbl⟩
  have HBL := Lib.hid hbl
  clear hbl
  go_wp2_with fail
  refine (New_128 wl).mono ?_
  rintro e w1 ⟨bm, rfl, hm, hb⟩
  obtain ⟨F, O1, -⟩ := Own.new w HBL.out hm hb
  have HO1 := Lib.hid O1
  clear hm hb O1
  go_wp2_with fail
  refine (View_any w1 bm 0).mono ?_
  rintro e w2 ⟨rfl, hw2⟩
  obtain ⟨O2, hv2, hF2, -⟩ := HO1.out.view 0 hw2
  have hB : w.heap.size ≤ w1.heap.size := HO1.out.size
  generalize w1.heap.size = v at *
  have HS := Lib.hid (Store_o O2 hv2 hF2 hB a y h0 fit_made (by decide) (by decide))
  have HB := Lib.hid hB
  clear hw2 HO1 O2 hv2 hF2 hB
  go_wp2_with fail
  refine HS.out.mono ?_
  rintro e w3 ⟨rfl, F3, O3, hv3, hF3, -, -⟩
  have HO3 := Lib.hid (And.intro O3 (And.intro hv3 hF3))
  clear HS O3 hv3 hF3
  have hA1 : ((Mem.made 128).store 0 a y).Fit ∧ ((Mem.made 128).store 0 a y).trace.length = 1 := ⟨fit_store fit_made (by simp [Mem.made]), by simp [Mem.store, Mem.note, Mem.put, Mem.made]⟩
  generalize (Mem.made 128).store 0 a y = A1 at *
  go_wp2_with fail
  refine (NewLoad_any w3 a).mono ?_
  rintro e w4 ⟨rfl, hw4⟩
  obtain ⟨O3, hv3, hF3⟩ := HO3.out
  have hb4 : Below w3.heap.size w3 w4 := by rw [hw4]; exact (Below.refl _ w3).alloc (Nat.le_refl _) _
  have hl4 : LD w4 w3.heap.size a false 0 := by rw [hw4]; exact Blk.made w3 _ _
  have hsz : w.heap.size ≤ w3.heap.size := O3.size
  have hFp : ¬ F3 w3.heap.size := O3.mine.not (Nat.le_refl _)
  have hne : w3.heap.size ≠ v := fun e => by have : v < w3.heap.size := Blk.lt hv3; omega
  have HV := Lib.hid (LValue_any hl4)
  have HS := Lib.hid (LStep_o (O3.bel hb4) (hv3.fr (Fr.of_below (S := fun _ => False) hb4) id) hF3 HB.out hl4 hFp hsz h0 hA1.1 (by decide) (by decide))
  have HSZ := Lib.hid hsz
  have HNE := Lib.hid hne
  clear HO3 O3 hv3 hF3 hb4 hl4 hsz hFp hw4 hne
  generalize w3.heap.size = pb at *
  go_wp2_with fail
  refine HV.out.mono ?_
  rintro e w5 ⟨rfl, rfl⟩
  clear HV
  go_wp2_with fail
  refine HS.out.mono ?_
  rintro e w5 ⟨rfl, F5, O5, hv5, hF5, hFp5, hl5⟩
  rw [HPK.out] at hl5
  have H5 := Lib.hid (And.intro O5 (And.intro hv5 (And.intro hF5 (And.intro hFp5 hl5))))
  clear HS O5 hv5 hF5 hFp5 hl5
  have hA2 : (A1.load 0 a).Fit ∧ (A1.load 0 a).trace.length = 2 := ⟨fit_load hA1.1 (by omega), by simp [Mem.load, Mem.note, hA1.2]⟩
  generalize A1.load 0 a = A2 at *
  have hend : ∀ y2, Hid (Calls Try.prog 14 #[.pointer (some ⟨v, 0, none⟩), .int .u64 a, .int .u64 y2] w5 fun e w' => e = .returned (.tuple #[]) ∧ Hid (Below w.heap.size w w' ∧ VW w' v bm 0 3 ∧ LD w' pb a true want)) := by
    intro y2
    obtain ⟨O5, hv5, hF5, hFp5, hl5⟩ := H5.out
    refine (Store_o O5 hv5 hF5 HB.out a y2 h0 hA2.1 (by decide) (by decide)).mono ?_
    rintro e w6 ⟨rfl, F6, O6, hv6, -, -, hf6⟩
    exact ⟨rfl, O6.below, hv6, Blk.fr hl5 hf6 (by rintro (e | e); exact hFp5 e; exact HNE.out e)⟩
  clear H5
  have fin : ∀ w6, Hid (Below w.heap.size w w6 ∧ VW w6 v bm 0 3 ∧ LD w6 pb a true want) → Hid (Calls Try.prog 16 #[.pointer (some ⟨pb, 0, none⟩)] w6 (fun e w' => e = .returned (.int .u64 want) ∧ w6 = w') ∧ Calls Try.prog 17 #[.pointer (some ⟨pb, 0, none⟩), .pointer (some ⟨v, 0, none⟩)] w6 (fun e w' => e = .returned (.bool true) ∧ w6 = w') ∧ Calls Try.prog 18 #[.pointer (some ⟨v, 0, none⟩)] w6 (fun e w' => e = .returned (.int .i64 3) ∧ w6 = w')) := fun w6 h => ⟨LValue_any h.out.2.2, LStep_done h.out.2.2 _, Accesses_any h.out.2.1⟩
  rcases HW.out with ⟨hc, rfl⟩ | ⟨hc, rfl⟩
  all_goals
    clear HW HPK
    go_wp2_with fail
    refine (hend _).out.mono ?_
    rintro e w6 ⟨rfl, H6⟩
    have HF := fin w6 H6
    clear hend fin
    go_wp2_with fail
    refine HF.out.1.mono ?_
    rintro e w7 ⟨rfl, rfl⟩
    go_wp2_with fail
    refine HF.out.2.1.mono ?_
    rintro e w7 ⟨rfl, rfl⟩
    go_wp2_with fail
    refine HF.out.1.mono ?_
    rintro e w7 ⟨rfl, rfl⟩
    go_wp2_with fail
    refine HF.out.2.2.mono ?_
    rintro e w7 ⟨rfl, rfl⟩
    go_wp2_with fail
    go_ret
    exact ⟨rfl, H6.out.1⟩
end Go.Proofs.Ytkaplifhaafpdaa
end
section
/-
  Finish, over any kind of procs. No condition.
-/
namespace Go.Proofs.Ytkaplifhaafpdaa
open Go Go.RowKit
set_option linter.unusedSimpArgs false
set_option linter.unusedVariables false
/-- a runner whose picks go from state to state -/
structure Mach (σ : Type) (rp bm : Nat) where
  I : σ → World → Prop
  thr : σ → List Thr
  nxt : σ → Nat → σ
  left : σ → Nat
  rx : ∀ s w, I s w → ∃ R vws steps evs ats cs tv ev av, RX w R rp bm vws (thr s) steps evs ats cs tv ev av
  len : ∀ s w, I s w → (thr s).length ≤ 64 ∧ ∀ x ∈ thr s, x.procs.length ≤ 1000000
  drawn : ∀ s w n, I s w → I s (w.drewN n)
  pick : ∀ s w (t : Nat), I s w → t < (thr s).length → idle (thr s) (t : Int) = false → Calls Try.prog 25 #[.pointer (some ⟨rp, 0, none⟩), .int .i64 (t : Int)] w fun e w' => e = .returned (.bool true) ∧ I (nxt s t) w'
  keep : ∀ s t, (thr (nxt s t)).length = (thr s).length
  less : ∀ s w (t : Nat), I s w → t < (thr s).length → idle (thr s) (t : Int) = false → left (nxt s t) < left s
section
variable {σ : Type} {rp bm : Nat} {w w0 w1 w' : World}
/-- all threads once -/
def sweep (idl : σ → Nat → Bool) (nxt : σ → Nat → σ) (most : Int) : Nat → Nat → Nat → σ → Bool × Nat × σ
  | 0, _, n, s => (true, n, s)
  | m + 1, t, n, s => if idl s t then sweep idl nxt most m (t + 1) n s else if most ≤ n then (false, n, s) else sweep idl nxt most m (t + 1) (n + 1) (nxt s t)
/-- again and again -/
def fin (idl : σ → Nat → Bool) (nxt : σ → Nat → σ) (done : σ → Bool) (len : Nat) (most : Int) : Nat → Nat → σ → Option (Bool × σ)
  | 0, _, _ => none
  | f + 1, n, s => if done s then some (true, s) else match sweep idl nxt most len 0 n s with
    | (false, _, s') => some (false, s')
    | (true, n', s') => fin idl nxt done len most f n' s'
def Mach.idl (M : Mach σ rp bm) (s : σ) (t : Nat) : Bool := idle (M.thr s) (t : Int)
def Mach.fin (M : Mach σ rp bm) (len : Nat) (most : Int) := Go.Proofs.Ytkaplifhaafpdaa.fin M.idl M.nxt (fun s => allDone (M.thr s)) len most
def Mach.sweep (M : Mach σ rp bm) (most : Int) := Go.Proofs.Ytkaplifhaafpdaa.sweep M.idl M.nxt most
theorem not_done {T : List Thr} (h : ∀ j, j < T.length → idle T ((j : Nat) : Int) = true) : allDone T = true := by
  unfold allDone
  rw [List.all_eq_true]
  intro x hx
  obtain ⟨i, hi⟩ := List.getElem?_of_mem hx
  have := h i (List.getElem?_eq_some_iff.1 hi).1
  rwa [idle_in hi] at this
theorem idle_any (M : Mach σ rp bm) {s : σ} (h : M.I s w) (t : Nat) : Calls Try.prog 54 #[.pointer (some ⟨rp, 0, none⟩), .int .i64 (t : Int)] w fun e w' => e = .returned (.bool (idle (M.thr s) t)) ∧ M.I s w' := by
  obtain ⟨R, vws, steps, evs, ats, cs, tv, ev, av, hx⟩ := M.rx s w h
  obtain ⟨h1, h2⟩ := M.len s w h
  refine (isIdle_any hx (by omega) t (fun x hx => by have := h2 x hx; omega)).mono ?_
  rintro e w' ⟨rfl, n, rfl⟩
  exact ⟨rfl, M.drawn s w n h⟩
theorem done_any (M : Mach σ rp bm) {s : σ} (h : M.I s w) : Calls Try.prog 23 #[.pointer (some ⟨rp, 0, none⟩)] w fun e w' => e = .returned (.bool (allDone (M.thr s))) ∧ M.I s w' := by
  obtain ⟨R, vws, steps, evs, ats, cs, tv, ev, av, hx⟩ := M.rx s w h
  obtain ⟨h1, h2⟩ := M.len s w h
  refine (Done_any hx (by omega) (fun x hx => by have := h2 x hx; omega)).mono ?_
  rintro e w' ⟨rfl, n, rfl⟩
  exact ⟨rfl, M.drawn s w n h⟩
theorem thr_cell (M : Mach σ rp bm) {s : σ} (h : M.I s w) : ∃ tp tc, w.cell? ⟨rp, 1, none⟩ = some (.slice tp (M.thr s).length tc) := by
  obtain ⟨R, vws, steps, evs, ats, cs, tv, ev, av, hx⟩ := M.rx s w h
  obtain ⟨tp, tc, rfl⟩ := bk_form hx.thr
  exact ⟨tp, tc, (hx.blk.cell 1).trans hx.rc.c1⟩
set_option maxHeartbeats 2000000 in
set_option maxRecDepth 100000 in
theorem Finish_any (M : Mach σ rp bm) {s0 : σ} (h : M.I s0 w) (most : Int) (hL : M.left s0 ≤ 1000000000) :
    Calls Try.prog 20 #[.pointer (some ⟨rp, 0, none⟩), .int .i64 most] w fun e w' => ∃ b s', e = .returned (.bool b) ∧ M.I s' w' ∧ ∃ f, M.fin (M.thr s0).length most f 0 s0 = some (b, s') := by
  obtain ⟨hl64, -⟩ := M.len s0 w h
  generalize hlen : (M.thr s0).length = len at *
  have H0 := Lib.hid h
  have HLEN := Lib.hid hlen
  clear h hlen
  go_enter Try.func20, Try.ntmps20
  go_wp2_with fail
  go_loopw [5] (fun i wr => ∃ (n : Nat) (s : σ), i = .int .i64 (n : Int) ∧ M.I s wr ∧ Hid ((M.thr s).length = len) ∧ Hid (n + M.left s ≤ M.left s0) ∧ Hid (∀ r, (∃ f, M.fin len most f n s = some r) → ∃ f, M.fin len most f 0 s0 = some r)) (fun i _ => M.left s0 - (intOf i).toNat)
  case atStart => exact ⟨0, s0, rfl, H0.out, HLEN, Lib.hid (by omega), Lib.hid fun r h => h⟩
  case round =>
    clear H0 HLEN
    obtain ⟨n, s, rfl, hI, hls, hn, hF⟩ := hrel
    have HD := Lib.hid (done_any M hI)
    clear hI
    cases hd : allDone (M.thr s)
    · rw [hd] at HD
      have HND := Lib.hid hd
      clear hd
      go_wp2_with fail
      refine HD.out.mono ?_
      rintro e w1 ⟨rfl, hI1⟩
      obtain ⟨tp, tc, c1⟩ := thr_cell M hI1
      rw [hls.out] at c1
      have HI1 := Lib.hid hI1
      clear hI1 HD
      go_wp2_with fail
      go_loopw [5, 17] (fun i5 i17 wr => ∃ (t n' : Nat) (s' : σ), i5 = .int .i64 (n' : Int) ∧ i17 = .int .i64 (t : Int) ∧ t ≤ len ∧ M.I s' wr ∧ Hid ((M.thr s').length = len) ∧ Hid (n ≤ n' ∧ n' + M.left s' ≤ M.left s0) ∧ Hid (M.sweep most (len - t) t n' s' = M.sweep most len 0 n s) ∧ Hid (n' = n → s' = s ∧ ∀ j, j < t → idle (M.thr s) ((j : Nat) : Int) = true)) (fun _ i17 _ => len - (intOf i17).toNat)
      case atStart => exact ⟨0, n, s, rfl, rfl, Nat.zero_le _, HI1.out, hls, Lib.hid ⟨Nat.le_refl _, hn.out⟩, Lib.hid rfl, Lib.hid fun _ => ⟨rfl, fun j hj => by omega⟩⟩
      case round =>
        clear HI1
        obtain ⟨t, n', s', rfl, rfl, ht, hI, hls', hnn, hsw, hpr⟩ := hrel
        obtain ⟨tp2, tc2, c2⟩ := thr_cell M hI
        have hsm : n' ≤ 1000000000 := by have := hnn.out; omega
        by_cases hlt : t < len
        · have HI := Lib.hid (idle_any M hI t)
          have hm1 : len - t = (len - (t + 1)) + 1 := by omega
          cases hi : idle (M.thr s') (t : Int)
          · rw [hi] at HI
            by_cases hm : most ≤ (n' : Int)
            · have HE : Hid (∃ f, M.fin len most f 0 s0 = some (false, s')) := by
                refine hF.out _ ⟨1, ?_⟩
                have h2 := hsw.out
                rw [hm1] at h2
                unfold Mach.sweep at h2
                simp only [sweep, Mach.idl, hi, if_pos hm] at h2
                unfold Mach.fin
                simp only [fin, HND.out]
                have h3 : sweep M.idl M.nxt most len 0 n s = (false, n', s') := by simpa using h2.symm
                rw [h3]
                rfl
              clear hI hF hsw hpr c2 hm1 hi
              go_wp2_with fail
              refine HI.out.mono ?_
              rintro e w2 ⟨rfl, hI2⟩
              go_wp2
              go_ret
              exact ⟨false, s', rfl, hI2, HE.out⟩
            · have HSW : Hid (M.sweep most (len - (t + 1)) (t + 1) (n' + 1) (M.nxt s' t) = M.sweep most len 0 n s) := by
                refine Lib.hid ?_
                have h2 := hsw.out
                rw [hm1] at h2
                unfold Mach.sweep at h2 ⊢
                simpa [sweep, Mach.idl, hi, hm] using h2
              have HLS : Hid ((M.thr (M.nxt s' t)).length = len) := by
                show _ = _
                rw [M.keep]; exact hls'.out
              have hless := M.less s' wr t hI (by rw [hls'.out]; exact hlt) hi
              have HNN : Hid (n ≤ n' + 1 ∧ n' + 1 + M.left (M.nxt s' t) ≤ M.left s0) := by
                have := hnn.out
                constructor <;> omega
              have HP : Hid (∀ w2, M.I s' w2 → Calls Try.prog 25 #[.pointer (some ⟨rp, 0, none⟩), .int .i64 (t : Int)] w2 fun e w' => e = .returned (.bool true) ∧ M.I (M.nxt s' t) w') := fun w2 h2 => M.pick s' w2 t h2 (by rw [hls'.out]; exact hlt) hi
              have hnn2 := hnn.out.1
              clear hI hF hsw hpr c2 hm1 hi hless hls' hnn
              have hm := hm
              go_wp2_with fail
              refine HI.out.mono ?_
              rintro e w2 ⟨rfl, hI2⟩
              have HP2 := Lib.hid (HP.out w2 hI2)
              clear HP hI2 HI
              go_wp2_with fail
              refine HP2.out.mono ?_
              rintro e w3 ⟨rfl, hI3⟩
              have HI3 := Lib.hid hI3
              clear hI3 HP2
              go_wp2_with fail
              go_round
              case rel => exact ⟨t + 1, n' + 1, M.nxt s' t, by go_num, by go_num, by omega, HI3.out, HLS, HNN, HSW, Lib.hid fun e => by omega⟩
              case measure => simp [intOf]; omega
          · rw [hi] at HI
            have HSW : Hid (M.sweep most (len - (t + 1)) (t + 1) n' s' = M.sweep most len 0 n s) := by
              refine Lib.hid ?_
              have h2 := hsw.out
              rw [hm1] at h2
              unfold Mach.sweep at h2 ⊢
              simpa [sweep, Mach.idl, hi] using h2
            have HPR : Hid (n' = n → s' = s ∧ ∀ j, j < t + 1 → idle (M.thr s) ((j : Nat) : Int) = true) := by
              intro e
              obtain ⟨h1, h2⟩ := hpr.out e
              refine ⟨h1, fun j hj => ?_⟩
              by_cases e2 : j = t
              · subst e2; rw [← h1]; exact hi
              · exact h2 j (by omega)
            clear hI hF hsw hpr c2 hm1 hi
            go_wp2_with fail
            refine HI.out.mono ?_
            rintro e w2 ⟨rfl, hI2⟩
            have HI2 := Lib.hid hI2
            clear hI2 HI
            go_wp2_with fail
            go_round
            case rel => exact ⟨t + 1, n', s', rfl, by go_num, by omega, HI2.out, hls', hnn, HSW, HPR⟩
            case measure => simp [intOf]; omega
        · have htl : t = len := by omega
          have HSW : Hid (sweep M.idl M.nxt most len 0 n s = (true, n', s')) := by
            refine Lib.hid ?_
            have h2 := hsw.out
            rw [htl, Nat.sub_self] at h2
            unfold Mach.sweep at h2
            simpa [sweep] using h2.symm
          have hlt2 : n < n' := by
            rcases Nat.lt_or_ge n n' with h | h
            · exact h
            · have := hnn.out.1
              obtain ⟨h1, h2⟩ := hpr.out (by omega)
              have h3 : allDone (M.thr s) = true := not_done (fun j hj => h2 j (by rw [hls.out] at hj; omega))
              rw [HND.out] at h3
              cases h3
          have HF : Hid (∀ r, (∃ f, M.fin len most f n' s' = some r) → ∃ f, M.fin len most f 0 s0 = some r) := by
            rintro r ⟨f, hf⟩
            refine hF.out r ⟨f + 1, ?_⟩
            unfold Mach.fin at hf ⊢
            simp only [fin, HND.out, HSW.out]
            exact hf
          have hnn2 := hnn.out
          have HII := Lib.hid hI
          have HNN : Hid (n' + M.left s' ≤ M.left s0) := hnn.out.2
          clear hI hF hsw hpr c2 hnn
          go_wp2_with fail
          go_round
          case rel => exact ⟨n', s', rfl, HII.out, hls', HNN, HF⟩
          case measure => simp [intOf]; omega
    · rw [hd] at HD
      have HE : Hid (∃ f, M.fin len most f 0 s0 = some (true, s)) := hF.out _ ⟨1, by simp [Mach.fin, fin, hd]⟩
      clear hF hd
      go_wp2_with fail
      refine HD.out.mono ?_
      rintro e w1 ⟨rfl, hI1⟩
      go_wp2_with fail
      go_ret
      exact ⟨true, s, rfl, hI1, HE.out⟩
end
end Go.Proofs.Ytkaplifhaafpdaa
end
section
/-
  A runner whose procs are all nil: to its end. No condition.
-/
namespace Go.Proofs.Ytkaplifhaafpdaa
open Go Go.RowKit
set_option linter.unusedSimpArgs false
set_option linter.unusedVariables false
section
variable {σ : Type} {idl : σ → Nat → Bool} {nxt : σ → Nat → σ} {done : σ → Bool} {len : Nat} {most : Int} {left : σ → Nat} {P : σ → Prop}
theorem sweep_true (hP : ∀ s t, P s → t < len → idl s t = false → P (nxt s t) ∧ left (nxt s t) + 1 = left s) : ∀ (m t n : Nat) (s : σ), P s → t + m ≤ len → ((n + left s : Nat) : Int) ≤ most → ∃ n' s', sweep idl nxt most m t n s = (true, n', s') ∧ P s' ∧ n' + left s' = n + left s
  | 0, t, n, s, hs, _, _ => ⟨n, s, rfl, hs, rfl⟩
  | m + 1, t, n, s, hs, ht, hm => by
    cases hi : idl s t
    · obtain ⟨h1, h2⟩ := hP s t hs (by omega) hi
      obtain ⟨n', s', h3, h4, h5⟩ := sweep_true hP m (t + 1) (n + 1) (nxt s t) h1 (by omega) (by omega)
      refine ⟨n', s', ?_, h4, by omega⟩
      have hn : ¬ most ≤ (n : Int) := by omega
      simp only [sweep, hi, if_neg hn]
      exact h3
    · obtain ⟨n', s', h3, h4, h5⟩ := sweep_true hP m (t + 1) n s hs (by omega) hm
      exact ⟨n', s', by simp only [sweep, hi]; exact h3, h4, h5⟩
theorem fin_true (hP : ∀ s t, P s → t < len → idl s t = false → P (nxt s t) ∧ left (nxt s t) + 1 = left s) : ∀ (f n : Nat) (s : σ) (b : Bool) (s' : σ), P s → ((n + left s : Nat) : Int) ≤ most → fin idl nxt done len most f n s = some (b, s') → b = true ∧ P s' ∧ done s' = true
  | 0, n, s, b, s', _, _, h => by cases h
  | f + 1, n, s, b, s', hs, hm, h => by
    cases hd : done s
    · obtain ⟨n', s1, h1, h2, h3⟩ := sweep_true (most := most) hP len 0 n s hs (by omega) hm
      simp only [fin, hd, h1] at h
      exact fin_true hP f n' s1 b s' h2 (by omega) h
    · simp only [fin, hd] at h
      simp at h
      obtain ⟨rfl, rfl⟩ := h
      exact ⟨rfl, hs, hd⟩
end
theorem sum_set : ∀ (l : List Thr) (f : Thr → Nat) (i : Nat) (x y : Thr), l[i]? = some x → ((l.set i y).map f).sum + f x = (l.map f).sum + f y
  | [], f, i, x, y, h => by simp at h
  | z :: l, f, 0, x, y, h => by
    obtain rfl : z = x := by simpa using h
    simp
    omega
  | z :: l, f, i + 1, x, y, h => by
    have := sum_set l f i x y (by simpa using h)
    simp only [List.set_cons_succ, List.map_cons, List.sum_cons]
    omega
/-- a memory alone -/
def NE (w0 : World) (bm : Nat) (A : Mem) (E : Nat → Prop) (w : World) : Prop := Mine w w0.heap.size E bm A
theorem NE.ok (w0 : World) (bm : Nat) (A : Mem) : EnvOK w0 bm (NE w0 bm A) A.trace.length where
  st := fun E S w w' h hf hS => Mine.fr h hf hS
  pos := fun E w h k hk => h.2 k hk
  made := by
    rintro E w ⟨⟨q, r, tv, rows, hx⟩, _⟩
    exact Made_any hx
abbrev LSt := List Thr × Nat × List Ev
def lleft (s : LSt) : Nat := (s.1.map fun x => x.procs.length - x.pos).sum
def lnxt (s : LSt) (t : Nat) : LSt := match s.1[t]? with | some x => (pickT s.1 t x true, s.2.1 + 1, pickE s.2.2 s.2.1 t x true) | none => s
structure LGood (K n : Nat) (s : LSt) : Prop where
  len : s.1.length = n
  nil : ∀ x ∈ s.1, (∀ p ∈ x.procs, p = .nilIface) ∧ x.procs.length ≤ 4096 ∧ x.op = false
  sum : s.2.1 + lleft s = K
  evl : s.2.2.length ≤ 2 * s.2.1
theorem lpick {s : LSt} {t : Nat} {x : Thr} (hx : s.1[t]? = some x) (hi : x.pos < x.procs.length) : lleft (lnxt s t) + 1 = lleft s := by
  unfold lleft lnxt
  rw [hx]
  have := sum_set s.1 (fun x => x.procs.length - x.pos) t x { x with op := false, pos := x.pos + 1 } hx
  simp only [pickT] at this ⊢
  simp only [if_true] at this ⊢
  omega
theorem lgood {K n : Nat} {s : LSt} {t : Nat} (h : LGood K n s) (ht : t < n) (hi : idle s.1 (t : Int) = false) : LGood K n (lnxt s t) ∧ lleft (lnxt s t) + 1 = lleft s := by
  obtain ⟨x, hx⟩ : ∃ x, s.1[t]? = some x := ⟨_, List.getElem?_eq_getElem (by rw [h.len]; exact ht)⟩
  rw [idle_in hx] at hi
  have hi2 : x.pos < x.procs.length := by simpa using hi
  have hl := lpick hx hi2
  obtain ⟨h1, h2, h3⟩ := h.nil x (List.mem_of_getElem? hx)
  refine ⟨⟨?_, ?_, ?_, ?_⟩, hl⟩
  · unfold lnxt; rw [hx]; simp [pickT, h.len]
  · unfold lnxt; rw [hx]
    intro y hy
    rcases List.mem_or_eq_of_mem_set hy with hy | rfl
    · exact h.nil y hy
    · exact ⟨h1, h2, rfl⟩
  · have : (lnxt s t).2.1 = s.2.1 + 1 := by unfold lnxt; rw [hx]
    have := h.sum
    omega
  · unfold lnxt; rw [hx]
    have := h.evl
    simp [pickE, begun, h3]
    omega
section
variable {w0 w w' w1 w2 : World} {R S G F E E' U : Nat → Prop} {rp bm n K : Nat} {vws : List Nat} {T T' : List Thr} {cs : Array Value} {tv : Value} {ps : List (List Value)}
def LMach (w0 : World) (bm rp K n : Nat) (vws : List Nat) (hK : K ≤ 10000000) (hn : n ≤ 64) (hv : vws.length = n) : Mach LSt rp bm where
  I := fun s w => ∃ R E, PJ w0 w R E (NE w0 bm (Mem.made 128)) rp bm vws s.1 s.2.1 s.2.2 [] ∧ Below w0.heap.size w0 w ∧ LGood K n s
  thr := fun s => s.1
  nxt := lnxt
  left := lleft
  rx := by
    rintro s w ⟨R, E, j, _, _⟩
    obtain ⟨⟨cs, tv, ev, av, hx⟩, _⟩ := j.ro
    exact ⟨R, vws, _, _, _, cs, tv, ev, av, hx⟩
  len := by
    rintro s w ⟨R, E, j, _, g⟩
    exact ⟨by rw [g.len]; exact hn, fun x hx => by have := (g.nil x hx).2.1; omega⟩
  drawn := by
    rintro s w k ⟨R, E, j, hb, g⟩
    exact ⟨R, E, j.drawn (NE.ok _ _ _) k, hb.trans (((Fr.refl (fun _ => False) w).drawn k).to_below j.sz (fun _ _ e => e)), g⟩
  pick := by
    rintro s w t ⟨R, E, j, hb, g⟩ ht hi
    obtain ⟨x, hx⟩ : ∃ x, s.1[t]? = some x := ⟨_, List.getElem?_eq_getElem ht⟩
    have hid := hi
    rw [idle_in hx] at hi
    have hi2 : x.pos < x.procs.length := by simpa using hi
    obtain ⟨h1, h2, h3⟩ := g.nil x (List.mem_of_getElem? hx)
    obtain ⟨v, hv2⟩ : ∃ v, vws[t]? = some v := ⟨_, List.getElem?_eq_getElem (by rw [hv, ← g.len]; exact ht)⟩
    have hp : x.procs[x.pos]? = some .nilIface := by rw [List.getElem?_eq_getElem hi2, h1 _ (List.getElem_mem hi2)]
    have hs := g.sum
    have he := g.evl
    have hm : (Mem.made 128).trace.length = 0 := rfl
    refine (Pick_Nil j (NE.ok _ _ _) hx hi2 hp hv2 (by rw [g.len]; omega) (fun y hy => by have := (g.nil y hy).2.1; omega) (by omega) (by omega) (by simp) (by omega)).mono ?_
    rintro e w' ⟨rfl, hps⟩
    have hb2 := PS.bel j (NE.ok _ _ _) hps
    obtain ⟨R', E', j', -, -⟩ := hps
    refine ⟨rfl, R', E', ?_, hb.trans hb2, (lgood g (by rw [← g.len]; exact ht) hid).1⟩
    unfold lnxt
    rw [hx]
    rw [hm] at j'
    exact j'
  keep := by
    intro s t
    unfold lnxt
    split <;> simp [pickT]
  less := by
    rintro s w t ⟨R, E, j, hb, g⟩ ht hi
    have := (lgood g (by rw [← g.len]; exact ht) hi).2
    omega
theorem LFinish (hK : K ≤ 10000000) (hn : n ≤ 64) (hv : vws.length = n) {s : LSt} (h : (LMach w0 bm rp K n vws hK hn hv).I s w) (h0 : s.2.1 = 0) {most : Int} (hmost : (K : Int) ≤ most) :
    Calls Try.prog 20 #[.pointer (some ⟨rp, 0, none⟩), .int .i64 most] w fun e w' => e = .returned (.bool true) ∧ Hid (∃ R T evs, RO w0 w' R rp bm vws T K evs [] ∧ T.length ≤ 64 ∧ (∀ x ∈ T, x.procs.length ≤ 4096) ∧ allDone T = true ∧ w0.heap.size ≤ w'.heap.size ∧ Below w0.heap.size w0 w') := by
  have hg : LGood K n s := by obtain ⟨R, E, j, hb, g⟩ := h; exact g
  have hl := hg.sum
  refine (Finish_any (LMach w0 bm rp K n vws hK hn hv) h most (by show lleft s ≤ _; omega)).mono ?_
  rintro e w' ⟨b, s', rfl, hI, f, hf⟩
  have hlen : ((LMach w0 bm rp K n vws hK hn hv).thr s).length = n := hg.len
  rw [hlen] at hf
  obtain ⟨rfl, hg', hd⟩ := fin_true (P := LGood K n) (left := lleft) (fun s t hs ht hi => lgood hs ht hi) f 0 s b s' hg (by omega) hf
  refine ⟨rfl, ?_⟩
  obtain ⟨R, E, j, hb, g⟩ := hI
  have hz : lleft s' = 0 := by
    have hd : allDone s'.1 = true := hd
    unfold lleft
    unfold allDone at hd
    rw [List.all_eq_true] at hd
    apply Nat.eq_zero_of_le_zero
    have : ∀ l : List Thr, (∀ x ∈ l, x.procs.length ≤ x.pos) → (l.map fun x => x.procs.length - x.pos).sum = 0 := by
      intro l
      induction l with
      | nil => intro _; rfl
      | cons a l ih =>
        intro hh
        have h1 := hh a (by simp)
        have h2 := ih fun x hx => hh x (by simp [hx])
        simp only [List.map_cons, List.sum_cons, h2]
        omega
    rw [this _ fun x hx => by simpa using hd x hx]
    exact Nat.le_refl _
  have hs : s'.2.1 = K := by have := hg'.sum; omega
  have ho := j.ro
  rw [hs] at ho
  exact ⟨R, s'.1, s'.2.2, ho, by rw [g.len]; exact hn, fun x hx => (g.nil x hx).2.1, hd, j.sz, hb⟩
/-- a runner of nil procs as New left it -/
theorem NewAt.long (h : NewAt w w1 rp bm ps ps.length T vws cs tv) (hF : Mine w w0.heap.size F bm (Mem.made 128)) (hb : Below w0.heap.size w0 w) (hn : ps.length ≤ 64) (hp : ∀ l ∈ ps, (∀ p ∈ l, p = .nilIface) ∧ l.length ≤ 4096) (hK : (ps.map List.length).sum = K) (hK2 : K ≤ 10000000) :
    (LMach w0 bm rp K ps.length vws hK2 hn h.lv).I (T, 0, []) w1 := by
  have hbel := h.bel
  have hs := hb.size
  have hfr : Fr (fun _ => False) w w1 := Fr.of_below hbel
  have hmap : T.map Thr.procs = ps := by
    apply List.ext_getElem?
    intro i
    rw [List.getElem?_map]
    by_cases hi : i < ps.length
    · obtain ⟨x, hx⟩ : ∃ x, T[i]? = some x := ⟨_, List.getElem?_eq_getElem (by rw [h.lt]; exact hi)⟩
      rw [hx]; exact (h.th i x hx).1.symm
    · rw [List.getElem?_eq_none (by rw [h.lt]; omega), List.getElem?_eq_none (by omega)]; rfl
  refine ⟨_, F, ⟨h.ro hs, Mine.fr hF hfr (fun _ _ e => e), ?_, Nat.le_trans hs hbel.size⟩, hb.trans (hbel.mono hs), ⟨h.lt, ?_, ?_, by simp⟩⟩
  · rintro k e ⟨h1, h2, h3⟩
    have := (hF.2 k e).2; omega
  · intro x hx
    obtain ⟨i, hi⟩ := List.getElem?_of_mem hx
    obtain ⟨h1, h2, h3⟩ := h.th i x hi
    obtain ⟨h4, h5⟩ := hp _ (List.mem_of_getElem? h1)
    exact ⟨h4, h5, h3⟩
  · unfold lleft
    rw [← hK, ← hmap, Nat.zero_add, List.map_map]
    congr 1
    apply List.map_congr_left
    intro x hx
    obtain ⟨i, hi⟩ := List.getElem?_of_mem hx
    have := (h.th i x hi).2.1
    simp [this]
end
end Go.Proofs.Ytkaplifhaafpdaa
end

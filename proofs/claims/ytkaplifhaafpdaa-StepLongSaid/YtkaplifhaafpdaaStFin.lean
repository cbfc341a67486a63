/-
  Finish, over any kind of procs. No condition.
-/
import Derived.Test.YtkaplifhaafpdaaStTell
import Derived.Test.YtkaplifhaafpdaaStE
namespace Go.Proofs.Ytkaplifhaafpdaa
open Go Go.RowKit
set_option linter.unusedSimpArgs false
set_option linter.unusedVariables false
/-- a runner whose picks go from state to state -/
structure Mach (σ : Type) (rp bm : Nat) where
  I : σ → World → Prop
  thr : σ → List Thr
  nxt : σ → Nat → σ
  left : σ → Nat
  rx : ∀ s w, I s w → ∃ R vws steps evs ats cs tv ev av, RX w R rp bm vws (thr s) steps evs ats cs tv ev av
  len : ∀ s w, I s w → (thr s).length ≤ 64 ∧ ∀ x ∈ thr s, x.procs.length ≤ 1000000
  drawn : ∀ s w n, I s w → I s (w.drewN n)
  pick : ∀ s w (t : Nat), I s w → t < (thr s).length → idle (thr s) (t : Int) = false → Calls Try.prog 25 #[.pointer (some ⟨rp, 0, none⟩), .int .i64 (t : Int)] w fun e w' => e = .returned (.bool true) ∧ I (nxt s t) w'
  keep : ∀ s t, (thr (nxt s t)).length = (thr s).length
  less : ∀ s w (t : Nat), I s w → t < (thr s).length → idle (thr s) (t : Int) = false → left (nxt s t) < left s
section
variable {σ : Type} {rp bm : Nat} {w w0 w1 w' : World}
/-- all threads once -/
def sweep (idl : σ → Nat → Bool) (nxt : σ → Nat → σ) (most : Int) : Nat → Nat → Nat → σ → Bool × Nat × σ
  | 0, _, n, s => (true, n, s)
  | m + 1, t, n, s => if idl s t then sweep idl nxt most m (t + 1) n s else if most ≤ n then (false, n, s) else sweep idl nxt most m (t + 1) (n + 1) (nxt s t)
/-- again and again -/
def fin (idl : σ → Nat → Bool) (nxt : σ → Nat → σ) (done : σ → Bool) (len : Nat) (most : Int) : Nat → Nat → σ → Option (Bool × σ)
  | 0, _, _ => none
  | f + 1, n, s => if done s then some (true, s) else match sweep idl nxt most len 0 n s with
    | (false, _, s') => some (false, s')
    | (true, n', s') => fin idl nxt done len most f n' s'
def Mach.idl (M : Mach σ rp bm) (s : σ) (t : Nat) : Bool := idle (M.thr s) (t : Int)
def Mach.fin (M : Mach σ rp bm) (len : Nat) (most : Int) := Go.Proofs.Ytkaplifhaafpdaa.fin M.idl M.nxt (fun s => allDone (M.thr s)) len most
def Mach.sweep (M : Mach σ rp bm) (most : Int) := Go.Proofs.Ytkaplifhaafpdaa.sweep M.idl M.nxt most
theorem not_done {T : List Thr} (h : ∀ j, j < T.length → idle T ((j : Nat) : Int) = true) : allDone T = true := by
  unfold allDone
  rw [List.all_eq_true]
  intro x hx
  obtain ⟨i, hi⟩ := List.getElem?_of_mem hx
  have := h i (List.getElem?_eq_some_iff.1 hi).1
  rwa [idle_in hi] at this
theorem idle_any (M : Mach σ rp bm) {s : σ} (h : M.I s w) (t : Nat) : Calls Try.prog 54 #[.pointer (some ⟨rp, 0, none⟩), .int .i64 (t : Int)] w fun e w' => e = .returned (.bool (idle (M.thr s) t)) ∧ M.I s w' := by
  obtain ⟨R, vws, steps, evs, ats, cs, tv, ev, av, hx⟩ := M.rx s w h
  obtain ⟨h1, h2⟩ := M.len s w h
  refine (isIdle_any hx (by omega) t (fun x hx => by have := h2 x hx; omega)).mono ?_
  rintro e w' ⟨rfl, n, rfl⟩
  exact ⟨rfl, M.drawn s w n h⟩
theorem done_any (M : Mach σ rp bm) {s : σ} (h : M.I s w) : Calls Try.prog 23 #[.pointer (some ⟨rp, 0, none⟩)] w fun e w' => e = .returned (.bool (allDone (M.thr s))) ∧ M.I s w' := by
  obtain ⟨R, vws, steps, evs, ats, cs, tv, ev, av, hx⟩ := M.rx s w h
  obtain ⟨h1, h2⟩ := M.len s w h
  refine (Done_any hx (by omega) (fun x hx => by have := h2 x hx; omega)).mono ?_
  rintro e w' ⟨rfl, n, rfl⟩
  exact ⟨rfl, M.drawn s w n h⟩
theorem thr_cell (M : Mach σ rp bm) {s : σ} (h : M.I s w) : ∃ tp tc, w.cell? ⟨rp, 1, none⟩ = some (.slice tp (M.thr s).length tc) := by
  obtain ⟨R, vws, steps, evs, ats, cs, tv, ev, av, hx⟩ := M.rx s w h
  obtain ⟨tp, tc, rfl⟩ := bk_form hx.thr
  exact ⟨tp, tc, (hx.blk.cell 1).trans hx.rc.c1⟩
set_option maxHeartbeats 2000000 in
set_option maxRecDepth 100000 in
theorem Finish_any (M : Mach σ rp bm) {s0 : σ} (h : M.I s0 w) (most : Int) (hL : M.left s0 ≤ 1000000000) :
    Calls Try.prog 20 #[.pointer (some ⟨rp, 0, none⟩), .int .i64 most] w fun e w' => ∃ b s', e = .returned (.bool b) ∧ M.I s' w' ∧ ∃ f, M.fin (M.thr s0).length most f 0 s0 = some (b, s') := by
  obtain ⟨hl64, -⟩ := M.len s0 w h
  generalize hlen : (M.thr s0).length = len at *
  have H0 := Lib.hid h
  have HLEN := Lib.hid hlen
  clear h hlen
  go_enter Try.func20, Try.ntmps20
  go_wp2_with fail
  go_loopw [5] (fun i wr => ∃ (n : Nat) (s : σ), i = .int .i64 (n : Int) ∧ M.I s wr ∧ Hid ((M.thr s).length = len) ∧ Hid (n + M.left s ≤ M.left s0) ∧ Hid (∀ r, (∃ f, M.fin len most f n s = some r) → ∃ f, M.fin len most f 0 s0 = some r)) (fun i _ => M.left s0 - (intOf i).toNat)
  case atStart => exact ⟨0, s0, rfl, H0.out, HLEN, Lib.hid (by omega), Lib.hid fun r h => h⟩
  case round =>
    clear H0 HLEN
    obtain ⟨n, s, rfl, hI, hls, hn, hF⟩ := hrel
    have HD := Lib.hid (done_any M hI)
    clear hI
    cases hd : allDone (M.thr s)
    · rw [hd] at HD
      have HND := Lib.hid hd
      clear hd
      go_wp2_with fail
      refine HD.out.mono ?_
      rintro e w1 ⟨rfl, hI1⟩
      obtain ⟨tp, tc, c1⟩ := thr_cell M hI1
      rw [hls.out] at c1
      have HI1 := Lib.hid hI1
      clear hI1 HD
      go_wp2_with fail
      go_loopw [5, 17] (fun i5 i17 wr => ∃ (t n' : Nat) (s' : σ), i5 = .int .i64 (n' : Int) ∧ i17 = .int .i64 (t : Int) ∧ t ≤ len ∧ M.I s' wr ∧ Hid ((M.thr s').length = len) ∧ Hid (n ≤ n' ∧ n' + M.left s' ≤ M.left s0) ∧ Hid (M.sweep most (len - t) t n' s' = M.sweep most len 0 n s) ∧ Hid (n' = n → s' = s ∧ ∀ j, j < t → idle (M.thr s) ((j : Nat) : Int) = true)) (fun _ i17 _ => len - (intOf i17).toNat)
      case atStart => exact ⟨0, n, s, rfl, rfl, Nat.zero_le _, HI1.out, hls, Lib.hid ⟨Nat.le_refl _, hn.out⟩, Lib.hid rfl, Lib.hid fun _ => ⟨rfl, fun j hj => by omega⟩⟩
      case round =>
        clear HI1
        obtain ⟨t, n', s', rfl, rfl, ht, hI, hls', hnn, hsw, hpr⟩ := hrel
        obtain ⟨tp2, tc2, c2⟩ := thr_cell M hI
        have hsm : n' ≤ 1000000000 := by have := hnn.out; omega
        by_cases hlt : t < len
        · have HI := Lib.hid (idle_any M hI t)
          have hm1 : len - t = (len - (t + 1)) + 1 := by omega
          cases hi : idle (M.thr s') (t : Int)
          · rw [hi] at HI
            by_cases hm : most ≤ (n' : Int)
            · have HE : Hid (∃ f, M.fin len most f 0 s0 = some (false, s')) := by
                refine hF.out _ ⟨1, ?_⟩
                have h2 := hsw.out
                rw [hm1] at h2
                unfold Mach.sweep at h2
                simp only [sweep, Mach.idl, hi, if_pos hm] at h2
                unfold Mach.fin
                simp only [fin, HND.out]
                have h3 : sweep M.idl M.nxt most len 0 n s = (false, n', s') := by simpa using h2.symm
                rw [h3]
                rfl
              clear hI hF hsw hpr c2 hm1 hi
              go_wp2_with fail
              refine HI.out.mono ?_
              rintro e w2 ⟨rfl, hI2⟩
              go_wp2
              go_ret
              exact ⟨false, s', rfl, hI2, HE.out⟩
            · have HSW : Hid (M.sweep most (len - (t + 1)) (t + 1) (n' + 1) (M.nxt s' t) = M.sweep most len 0 n s) := by
                refine Lib.hid ?_
                have h2 := hsw.out
                rw [hm1] at h2
                unfold Mach.sweep at h2 ⊢
                simpa [sweep, Mach.idl, hi, hm] using h2
              have HLS : Hid ((M.thr (M.nxt s' t)).length = len) := by
                show _ = _
                rw [M.keep]; exact hls'.out
              have hless := M.less s' wr t hI (by rw [hls'.out]; exact hlt) hi
              have HNN : Hid (n ≤ n' + 1 ∧ n' + 1 + M.left (M.nxt s' t) ≤ M.left s0) := by
                have := hnn.out
                constructor <;> omega
              have HP : Hid (∀ w2, M.I s' w2 → Calls Try.prog 25 #[.pointer (some ⟨rp, 0, none⟩), .int .i64 (t : Int)] w2 fun e w' => e = .returned (.bool true) ∧ M.I (M.nxt s' t) w') := fun w2 h2 => M.pick s' w2 t h2 (by rw [hls'.out]; exact hlt) hi
              have hnn2 := hnn.out.1
              clear hI hF hsw hpr c2 hm1 hi hless hls' hnn
              have hm := hm
              go_wp2_with fail
              refine HI.out.mono ?_
              rintro e w2 ⟨rfl, hI2⟩
              have HP2 := Lib.hid (HP.out w2 hI2)
              clear HP hI2 HI
              go_wp2_with fail
              refine HP2.out.mono ?_
              rintro e w3 ⟨rfl, hI3⟩
              have HI3 := Lib.hid hI3
              clear hI3 HP2
              go_wp2_with fail
              go_round
              case rel => exact ⟨t + 1, n' + 1, M.nxt s' t, by go_num, by go_num, by omega, HI3.out, HLS, HNN, HSW, Lib.hid fun e => by omega⟩
              case measure => simp [intOf]; omega
          · rw [hi] at HI
            have HSW : Hid (M.sweep most (len - (t + 1)) (t + 1) n' s' = M.sweep most len 0 n s) := by
              refine Lib.hid ?_
              have h2 := hsw.out
              rw [hm1] at h2
              unfold Mach.sweep at h2 ⊢
              simpa [sweep, Mach.idl, hi] using h2
            have HPR : Hid (n' = n → s' = s ∧ ∀ j, j < t + 1 → idle (M.thr s) ((j : Nat) : Int) = true) := by
              intro e
              obtain ⟨h1, h2⟩ := hpr.out e
              refine ⟨h1, fun j hj => ?_⟩
              by_cases e2 : j = t
              · subst e2; rw [← h1]; exact hi
              · exact h2 j (by omega)
            clear hI hF hsw hpr c2 hm1 hi
            go_wp2_with fail
            refine HI.out.mono ?_
            rintro e w2 ⟨rfl, hI2⟩
            have HI2 := Lib.hid hI2
            clear hI2 HI
            go_wp2_with fail
            go_round
            case rel => exact ⟨t + 1, n', s', rfl, by go_num, by omega, HI2.out, hls', hnn, HSW, HPR⟩
            case measure => simp [intOf]; omega
        · have htl : t = len := by omega
          have HSW : Hid (sweep M.idl M.nxt most len 0 n s = (true, n', s')) := by
            refine Lib.hid ?_
            have h2 := hsw.out
            rw [htl, Nat.sub_self] at h2
            unfold Mach.sweep at h2
            simpa [sweep] using h2.symm
          have hlt2 : n < n' := by
            rcases Nat.lt_or_ge n n' with h | h
            · exact h
            · have := hnn.out.1
              obtain ⟨h1, h2⟩ := hpr.out (by omega)
              have h3 : allDone (M.thr s) = true := not_done (fun j hj => h2 j (by rw [hls.out] at hj; omega))
              rw [HND.out] at h3
              cases h3
          have HF : Hid (∀ r, (∃ f, M.fin len most f n' s' = some r) → ∃ f, M.fin len most f 0 s0 = some r) := by
            rintro r ⟨f, hf⟩
            refine hF.out r ⟨f + 1, ?_⟩
            unfold Mach.fin at hf ⊢
            simp only [fin, HND.out, HSW.out]
            exact hf
          have hnn2 := hnn.out
          have HII := Lib.hid hI
          have HNN : Hid (n' + M.left s' ≤ M.left s0) := hnn.out.2
          clear hI hF hsw hpr c2 hnn
          go_wp2_with fail
          go_round
          case rel => exact ⟨n', s', rfl, HII.out, hls', HNN, HF⟩
          case measure => simp [intOf]; omega
    · rw [hd] at HD
      have HE : Hid (∃ f, M.fin len most f 0 s0 = some (true, s)) := hF.out _ ⟨1, by simp [Mach.fin, fin, hd]⟩
      clear hF hd
      go_wp2_with fail
      refine HD.out.mono ?_
      rintro e w1 ⟨rfl, hI1⟩
      go_wp2_with fail
      go_ret
      exact ⟨true, s, rfl, hI1, HE.out⟩
end
end Go.Proofs.Ytkaplifhaafpdaa

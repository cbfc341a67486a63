/-
  shutterlaw03.call: one call of a memory and of the document's answers alike. No condition.
-/
import Derived.Test.YthggpbbnhjaegaaArCallB
import Derived.Deep.RegionHeld3
namespace Go.Proofs.Ythggpbbnhjaegaa
open Go Go.RowKit
set_option linter.unusedSimpArgs false
set_option linter.unusedVariables false
section
variable {wb w w' w0 : World} {F1 F2 : Nat → Prop} {pv rv uv : Value} {e : En} {x : Opr}
def opC (x : Opr) (uv : Value) : Array Value := #[.int .i64 x.kind, .int .i64 x.which, .int .i64 x.thread, .int .u64 x.addr, .int .u64 x.a, .int .u64 x.b, uv]
theorem PView_start (h : Pre wb w0 F1 F2 pv rv e) (x : Opr) (uv : Value) : Calls Try.prog 14 #[pv, .int .i64 x.thread] (w0.alloc (.cells (opC x uv) 36)) fun a w' => ∃ vv, a = .returned vv ∧ CE wb w0 F1 F2 pv rv vv [(w0.heap.size, 36, opC x uv)] x.thread 0 e e w' := by
  have h1 : Below w0.heap.size w0 (w0.alloc (.cells (opC x uv) 36)) := (Below.refl _ w0).alloc (Nat.le_refl _) _
  refine (PView (h.far h1).p x.thread).mono ?_
  rintro a w' ⟨vv, rfl, hv, hb, hvb⟩
  exact ⟨vv, rfl, CE.start h h1 (Blk.made _ _ _) hb hv hvb⟩
set_option maxHeartbeats 4000000 in
set_option maxRecDepth 100000 in
theorem Call_any (h : Pre wb w0 F1 F2 pv rv e) (ok : e.Ok) (hx : x.fits) (hva : VA wb uv x.vals) (hnil : ∀ n c, uv = .slice none n c → c = 0) :
    Calls Try.prog 10 #[pv, rv, .agg #[.int .i64 x.kind, .int .i64 x.which, .int .i64 x.thread, .int .u64 x.addr, .int .u64 x.a, .int .u64 x.b, uv]] w0 fun a w' => a = .returned (.bool true) ∧ ∃ P1 P2, After wb w0 F1 F2 pv rv (e.did x) P1 P2 w' := by
  have HV := Lib.hid (PView_start h x uv)
  obtain ⟨up, uc, rfl⟩ := hva.cl
  have HA := Lib.hid hva
  have HN := Lib.hid hnil
  have OK := Lib.hid ok
  have HPRE := Lib.hid h
  have hx0 := hx.1
  clear hva hnil ok h
  simp only [opC] at HV
  go_enter Try.func10, Try.ntmps10
  go_wp2_with fail
  refine HV.out.mono ?_
  rintro a w1 ⟨vv, rfl, hC⟩
  clear HV
  generalize hob : w0.heap.size = ob at *
  obtain ⟨xs, hxs⟩ : ∃ xs : List (Nat × TypeId × Array Value), xs = [(ob, 36, #[.int .i64 x.kind, .int .i64 x.which, .int .i64 x.thread, .int .u64 x.addr, .int .u64 x.a, .int .u64 x.b, .slice up x.vals.length uc])] := ⟨_, rfl⟩
  rw [← hxs] at hC
  have HM : Hid ((ob, 36, #[.int .i64 x.kind, .int .i64 x.which, .int .i64 x.thread, .int .u64 x.addr, .int .u64 x.a, .int .u64 x.b, .slice up x.vals.length uc]) ∈ xs) := by
    show _ ∈ xs
    rw [hxs]; exact List.mem_singleton.2 rfl
  clear hxs
  have HSX0 : Hid (∀ (ys : List (Nat × TypeId × Array Value)) (hys : ∀ y ∈ xs, y ∈ ys) (ma : Int) (e1 e2 : En) (w' : World), CE wb w0 F1 F2 pv rv vv ys x.thread ma e1 e2 w' → w'.cell? ⟨ob, 2, none⟩ = some (.int .i64 x.thread) ∧ w'.cell? ⟨ob, 3, none⟩ = some (.int .u64 x.addr) ∧ w'.cell? ⟨ob, 4, none⟩ = some (.int .u64 x.a) ∧ w'.cell? ⟨ob, 5, none⟩ = some (.int .u64 x.b) ∧ w'.cell? ⟨ob, 6, none⟩ = some (.slice up x.vals.length uc)) :=
    fun ys hys ma e1 e2 w' h => ⟨h.cell (hys _ HM.out) 2, h.cell (hys _ HM.out) 3, h.cell (hys _ HM.out) 4, h.cell (hys _ HM.out) 5, h.cell (hys _ HM.out) 6⟩
  have HSX : Hid (∀ (n : Unit) (ma : Int) (e1 e2 : En) (w' : World), CE wb w0 F1 F2 pv rv vv xs x.thread ma e1 e2 w' → w'.cell? ⟨ob, 2, none⟩ = some (.int .i64 x.thread) ∧ w'.cell? ⟨ob, 3, none⟩ = some (.int .u64 x.addr) ∧ w'.cell? ⟨ob, 4, none⟩ = some (.int .u64 x.a) ∧ w'.cell? ⟨ob, 5, none⟩ = some (.int .u64 x.b) ∧ w'.cell? ⟨ob, 6, none⟩ = some (.slice up x.vals.length uc)) := fun _ ma e1 e2 w' h => HSX0.out xs (fun _ h => h) ma e1 e2 w' h
  have c0 : w1.cell? ⟨ob, 0, none⟩ = some (.int .i64 x.kind) := hC.cell HM.out 0
  have hvl0 : x.vals.length ≤ 1048576 := hx.2.1
  clear hx
  go_upto_block 0 with fail
  clear c0
  have HC : Hid (CE wb w0 F1 F2 pv rv vv xs x.thread 0 e e w1.drew) := hC.drawn 1
  go_cut [8] (fun s8 wx => s8 = .int .i64 1 ∧ CE wb w0 F1 F2 pv rv vv xs x.thread 1 (e.did x) (e.did x) wx)
  case first =>
    have hcase : x.kind = 0 ∨ x.kind = 1 ∨ x.kind = 2 ∨ x.kind = 3 ∨ x.kind = 4 ∨ (x.kind ≠ 0 ∧ x.kind ≠ 1 ∧ x.kind ≠ 2 ∧ x.kind ≠ 3 ∧ x.kind ≠ 4) := by omega
    generalize hkk : x.kind = kk at *
    rcases hcase with hk0 | hk0 | hk0 | hk0 | hk0 | hk0
    · subst hk0
      have HDO := Lib.hid (En.did_at hkk (by decide) (by decide) (·.load x.thread x.addr) (fun A => by simp [Opr.does, Opr.sort, hkk]) e)
      have HP1 := Lib.hid (C_PLoad HC.out OK.out x.addr hx0)
      have HL1 := Lib.hid (C_DLoad HC.out OK.out x.thread x.addr hx0)
      clear hC hkk
      go_wp2_with fail
      go_region_held3 (fun w' => w'.cell? ⟨ob, 2, none⟩ = some (.int .i64 x.thread) ∧ w'.cell? ⟨ob, 3, none⟩ = some (.int .u64 x.addr) ∧ w'.cell? ⟨ob, 4, none⟩ = some (.int .u64 x.a) ∧ w'.cell? ⟨ob, 5, none⟩ = some (.int .u64 x.b) ∧ w'.cell? ⟨ob, 6, none⟩ = some (.slice up x.vals.length uc))
        (first | exact HSX.out () _ _ _ _ HC.out | exact HSX.out () _ _ _ _ hD5 | exact HSX.out () _ _ _ _ hD6)
        (first | ((with_reducible refine HP1.out.mono ?_); rintro a w5 ⟨rfl, hD5⟩) | ((with_reducible refine HL1.out.mono ?_); rintro a w6 ⟨rfl, hD6⟩) | ((with_reducible refine (C_PLoad hD6 OK.out x.addr hx0).mono ?_); rintro a w5 ⟨rfl, hD5⟩) | ((with_reducible refine (C_DLoad hD5 OK.out x.thread x.addr hx0).mono ?_); rintro a w6 ⟨rfl, hD6⟩))
      all_goals
        go_wp2_with fail
        go_meet
        rw [HDO.out]
        first | exact ⟨rfl, hD6⟩ | exact ⟨rfl, hD5⟩
    · subst hk0
      have HDO := Lib.hid (En.did_at hkk (by decide) (by decide) (·.store x.thread x.addr x.a) (fun A => by simp [Opr.does, Opr.sort, hkk]) e)
      have HP1 := Lib.hid (C_PStore hC OK.out x.addr x.a hx0)
      obtain ⟨c2, c3, c4, c5, c6⟩ := HSX.out () _ _ _ _ hC
      clear hC hkk c2 c5 c6
      go_wp2_with fail
      refine HP1.out.mono ?_
      rintro a w5 ⟨rfl, hD5⟩
      clear c3 c4
      have HL1 := Lib.hid (C_DStore hD5 OK.out x.thread x.addr x.a hx0)
      obtain ⟨c2, c3, c4, c5, c6⟩ := HSX.out () _ _ _ _ hD5
      clear hD5 c5 c6
      go_wp2_with fail
      refine HL1.out.mono ?_
      rintro a w6 ⟨rfl, hD6⟩
      go_wp2_with fail
      go_meet
      rw [HDO.out]
      exact ⟨rfl, hD6⟩
    · subst hk0
      have HDO := Lib.hid (En.did_at hkk (by decide) (by decide) (·.cas x.thread x.addr x.a x.b) (fun A => by simp [Opr.does, Opr.sort, hkk]) e)
      have HP1 := Lib.hid (C_PCas HC.out OK.out x.addr x.a x.b hx0)
      have HL1 := Lib.hid (C_DCas HC.out OK.out x.thread x.addr x.a x.b hx0)
      clear hC hkk
      go_wp2_with fail
      go_region_held3 (fun w' => w'.cell? ⟨ob, 2, none⟩ = some (.int .i64 x.thread) ∧ w'.cell? ⟨ob, 3, none⟩ = some (.int .u64 x.addr) ∧ w'.cell? ⟨ob, 4, none⟩ = some (.int .u64 x.a) ∧ w'.cell? ⟨ob, 5, none⟩ = some (.int .u64 x.b) ∧ w'.cell? ⟨ob, 6, none⟩ = some (.slice up x.vals.length uc))
        (first | exact HSX.out () _ _ _ _ HC.out | exact HSX.out () _ _ _ _ hD5 | exact HSX.out () _ _ _ _ hD6)
        (first | ((with_reducible refine HP1.out.mono ?_); rintro a w5 ⟨rfl, hD5⟩) | ((with_reducible refine HL1.out.mono ?_); rintro a w6 ⟨rfl, hD6⟩) | ((with_reducible refine (C_PCas hD6 OK.out x.addr x.a x.b hx0).mono ?_); rintro a w5 ⟨rfl, hD5⟩) | ((with_reducible refine (C_DCas hD5 OK.out x.thread x.addr x.a x.b hx0).mono ?_); rintro a w6 ⟨rfl, hD6⟩))
      all_goals
        go_wp2_with fail
        go_meet
        rw [HDO.out]
        first | exact ⟨rfl, hD6⟩ | exact ⟨rfl, hD5⟩
    · subst hk0
      have HDO := Lib.hid (En.did_at hkk (by decide) (by decide) (·.add x.thread x.addr x.a) (fun A => by simp [Opr.does, Opr.sort, hkk]) e)
      have HP1 := Lib.hid (C_PAdd HC.out OK.out x.addr x.a hx0)
      have HL1 := Lib.hid (C_DAdd HC.out OK.out x.thread x.addr x.a hx0)
      clear hC hkk
      go_wp2_with fail
      go_region_held3 (fun w' => w'.cell? ⟨ob, 2, none⟩ = some (.int .i64 x.thread) ∧ w'.cell? ⟨ob, 3, none⟩ = some (.int .u64 x.addr) ∧ w'.cell? ⟨ob, 4, none⟩ = some (.int .u64 x.a) ∧ w'.cell? ⟨ob, 5, none⟩ = some (.int .u64 x.b) ∧ w'.cell? ⟨ob, 6, none⟩ = some (.slice up x.vals.length uc))
        (first | exact HSX.out () _ _ _ _ HC.out | exact HSX.out () _ _ _ _ hD5 | exact HSX.out () _ _ _ _ hD6)
        (first | ((with_reducible refine HP1.out.mono ?_); rintro a w5 ⟨rfl, hD5⟩) | ((with_reducible refine HL1.out.mono ?_); rintro a w6 ⟨rfl, hD6⟩) | ((with_reducible refine (C_PAdd hD6 OK.out x.addr x.a hx0).mono ?_); rintro a w5 ⟨rfl, hD5⟩) | ((with_reducible refine (C_DAdd hD5 OK.out x.thread x.addr x.a hx0).mono ?_); rintro a w6 ⟨rfl, hD6⟩))
      all_goals
        go_wp2_with fail
        go_meet
        rw [HDO.out]
        first | exact ⟨rfl, hD6⟩ | exact ⟨rfl, hD5⟩
    · subst hk0
      have HDO := Lib.hid (En.did_at hkk (by decide) (by decide) (·.alloc x.thread x.vals) (fun A => by simp [Opr.does, Opr.sort, hkk]) e)
      have hvl9 : x.vals.length ≤ 1000000000 := by omega
      have HH := Lib.hid (HandU_any up uc (HA.out.below hC.bel) (by omega))
      obtain ⟨c2, c3, c4, c5, c6⟩ := HSX.out () _ _ _ _ hC
      have HC1 := Lib.hid hC
      clear hC hkk c2 c3 c4 c5 HC
      go_wp2_with fail
      refine HH.out.mono ?_
      rintro a w2 ⟨rfl, hB2, hb2⟩
      obtain ⟨g, hg⟩ : ∃ g, g = w1.heap.size := ⟨_, rfl⟩
      have hC2 := HC1.out.push hb2 hB2
      rw [← hg] at hC2 hB2 ⊢
      obtain ⟨ys, hys⟩ : ∃ ys : List (Nat × TypeId × Array Value), ys = (g, 33, (us x.vals ++ marksU).toArray) :: xs := ⟨_, rfl⟩
      rw [← hys] at hC2
      have HG : Hid ((g, 33, (us x.vals ++ marksU).toArray) ∈ ys) := by
        show _ ∈ ys
        rw [hys]; exact List.mem_cons_self
      have HSUB : Hid (∀ y ∈ xs, y ∈ ys) := by
        show ∀ y ∈ xs, y ∈ ys
        intro y hy
        rw [hys]; exact List.mem_cons_of_mem _ hy
      have HS2 : Hid (∀ (n : Unit) (ma : Int) (e1 e2 : En) (w' : World), CE wb w0 F1 F2 pv rv vv ys x.thread ma e1 e2 w' → w'.cell? ⟨ob, 2, none⟩ = some (.int .i64 x.thread) ∧ w'.cell? ⟨ob, 3, none⟩ = some (.int .u64 x.addr) ∧ w'.cell? ⟨ob, 4, none⟩ = some (.int .u64 x.a) ∧ w'.cell? ⟨ob, 5, none⟩ = some (.int .u64 x.b) ∧ w'.cell? ⟨ob, 6, none⟩ = some (.slice up x.vals.length uc)) := fun _ ma e1 e2 w' h => HSX0.out ys HSUB.out ma e1 e2 w' h
      clear HSX HSX0 hys hg HC1 hB2 hb2 HH c6
      have HC2 : Hid (CE wb w0 F1 F2 pv rv vv ys x.thread 0 e e w2.drew) := hC2.drawn 1
      have HP1 := Lib.hid (C_PAlloc HC2.out OK.out HG.out hvl9)
      have HL1 := Lib.hid (C_DAlloc HC2.out OK.out x.thread HA.out HN.out hvl9)
      have HK : Hid (∀ (ma : Int) (e1 e2 : En) (w' : World), CE wb w0 F1 F2 pv rv vv ys x.thread ma e1 e2 w' → Calls Try.prog 30 #[.slice (some ⟨g, 0, none⟩) x.vals.length (x.vals.length + 9), .slice up x.vals.length uc] w' fun e w2 => e = .returned (.bool true) ∧ ∃ n, w2 = w'.drewN n) := fun ma e1 e2 w' h => KeptU_any (h.blk HG.out) (HA.out.below h.bel) (by have := hvl0; omega)
      clear hC2
      go_wp2_with fail
      go_region_held3 (fun w' => w'.cell? ⟨ob, 2, none⟩ = some (.int .i64 x.thread) ∧ w'.cell? ⟨ob, 3, none⟩ = some (.int .u64 x.addr) ∧ w'.cell? ⟨ob, 4, none⟩ = some (.int .u64 x.a) ∧ w'.cell? ⟨ob, 5, none⟩ = some (.int .u64 x.b) ∧ w'.cell? ⟨ob, 6, none⟩ = some (.slice up x.vals.length uc))
        (first | exact HS2.out () _ _ _ _ HC2.out | exact HS2.out () _ _ _ _ hD5 | exact HS2.out () _ _ _ _ hD6 | exact HS2.out () _ _ _ _ (hD6.drawn _) | exact HS2.out () _ _ _ _ (hD5.drawn _))
        (first | ((with_reducible refine HP1.out.mono ?_); rintro a w5 ⟨rfl, hD5⟩) | ((with_reducible refine HL1.out.mono ?_); rintro a w6 ⟨rfl, hD6⟩) | ((with_reducible refine (C_PAlloc hD6 OK.out HG.out hvl9).mono ?_); rintro a w5 ⟨rfl, hD5⟩) | ((with_reducible refine (C_DAlloc hD5 OK.out x.thread HA.out HN.out hvl9).mono ?_); rintro a w6 ⟨rfl, hD6⟩) | ((with_reducible refine (HK.out _ _ _ _ hD6).mono ?_); rintro a w7 ⟨rfl, n7, rfl⟩) | ((with_reducible refine (HK.out _ _ _ _ hD5).mono ?_); rintro a w7 ⟨rfl, n7, rfl⟩))
      all_goals
        go_wp2_with fail
        go_meet
        rw [HDO.out]
        first | exact ⟨rfl, (hD6.drawn n7).less HSUB.out⟩ | exact ⟨rfl, (hD5.drawn n7).less HSUB.out⟩
    · obtain ⟨n0, n1, n2, n3, n4⟩ := hk0
      have HDO : Hid (e.did x = e) := by
        show _ = _
        rw [En.did, if_neg (by omega)]
      obtain ⟨c2, c3, c4, c5, c6⟩ := HSX.out () _ _ _ _ hC
      have HAL := Lib.hid (let ⟨_, _, h⟩ := hC; Alike_any h.p h.d OK.out x.addr hx0)
      have HC1 := Lib.hid hC
      clear hC HC hkk
      go_wp2_with fail
      refine HAL.out.mono ?_
      rintro a w5 ⟨rfl, hb5⟩
      have HC2 := Lib.hid (HC1.out.far hb5)
      go_wp2_with fail
      go_ret
      rw [HDO.out]
      exact ⟨rfl, HC2.out.after⟩
  case rest =>
    obtain ⟨rfl, hC5⟩ := hcut
    have c2 : wc.drew.cell? ⟨ob, 2, none⟩ = some (.int .i64 x.thread) := (HSX.out () _ _ _ _ hC5).1
    have HAF := Lib.hid fun n => (hC5.drawn n).after
    have hform := let ⟨_, _, h⟩ := hC5; h.p.form
    have HACC := Lib.hid (fun n => let ⟨_, _, h⟩ := hC5.drawn n; PAcc h.p h.v)
    have HTHR := Lib.hid (fun n => let ⟨_, _, h⟩ := hC5.drawn n; PThr h.p h.v)
    clear HC hC HPRE HSX0 HSX hC5 HM hx0 hvl0 HN HA OK
    rcases hform with ⟨he5, rfl⟩ | ⟨bm, y, he5, rfl⟩
    · have HAF0 : Hid (∃ P1 P2, After wb w0 F1 F2 (.pointer none) rv (e.did x) P1 P2 wc) := HAF.out 0
      have HA0 : Hid (Calls Try.prog 21 #[vv] wc fun a w' => a = .returned (.int .i64 0) ∧ wc = w') := by have := HACC.out 0; rw [he5] at this; exact this
      have HT0 : Hid (Calls Try.prog 22 #[vv] wc fun a w' => a = .returned (.int .i64 0) ∧ wc = w') := by have := HTHR.out 0; rw [he5] at this; exact this
      clear HAF HACC HTHR c2 he5
      go_wp2_with fail
      refine HA0.out.mono ?_
      rintro a w6 ⟨rfl, rfl⟩
      go_wp2_with fail
      refine HT0.out.mono ?_
      rintro a w6 ⟨rfl, rfl⟩
      go_wp2
      go_ret
      exact ⟨rfl, HAF0.out⟩
    · have HAF0 : Hid (∃ P1 P2, After wb w0 F1 F2 (.pointer (some ⟨bm, 0, none⟩)) rv (e.did x) P1 P2 wc.drew) := HAF.out 1
      have HA0 : Hid (Calls Try.prog 21 #[vv] wc.drew fun a w' => a = .returned (.int .i64 1) ∧ wc.drew = w') := by have := HACC.out 1; rw [he5] at this; exact this
      have HT0 : Hid (Calls Try.prog 22 #[vv] wc.drew fun a w' => a = .returned (.int .i64 x.thread) ∧ wc.drew = w') := by have := HTHR.out 1; rw [he5] at this; exact this
      clear HAF HACC HTHR he5
      go_wp2_with fail
      go_region_held3 (fun w' => w'.cell? ⟨ob, 2, none⟩ = some (.int .i64 x.thread))
        (first | exact c2)
        (first | ((with_reducible refine HA0.out.mono ?_); rintro a w5 ⟨rfl, rfl⟩) | ((with_reducible refine HT0.out.mono ?_); rintro a w5 ⟨rfl, rfl⟩))
      all_goals
        go_wp2_with fail
        go_ret
        exact ⟨rfl, HAF0.out⟩
end
end Go.Proofs.Ythggpbbnhjaegaa

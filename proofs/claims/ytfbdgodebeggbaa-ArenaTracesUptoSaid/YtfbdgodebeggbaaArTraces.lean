/-
  ArenaTraces: the cells are what the trace says. No condition.
-/
import Derived.Test.YtfbdgodebeggbaaArDoes
import Derived.Deep.Cut
import Derived.Deep.DeepCutAuto
import Derived.Deep.QuietTactic
import Derived.BigQuiet
namespace Go.Proofs.Ytfbdgodebeggbaa
open Go Go.RowKit
set_option linter.unusedSimpArgs false
set_option linter.unusedVariables false
section
variable {w w' w1 w0 : World} {F G S : Nat → Prop} {bm q r v p B : Nat} {A : Mem} {th made : Int} {tv av : Value} {rows : List (Acc × Value)} {vs : List Int} {l : List Opr} {x : Opr}
set_option maxHeartbeats 4000000 in
set_option maxRecDepth 100000 in
theorem ArenaTraces_in (n : Nat) (sv : Value) (w : World) (hs : ScriptAt w sv l) (hf : ∀ x ∈ l, x.fits) (hl : l.length ≤ 1048576) (h0 : 128 ≤ n) (h1 : n ≤ 4194304) :
    Calls Try.prog 9 #[.int .i64 (n : Int), sv] w fun e w' => e = .returned (.bool true) ∧ Below w.heap.size w w' := by
  have HS := Lib.hid hs
  obtain ⟨sp, sc, rfl, -⟩ := hs
  have HNEW := Lib.hid (New_plain w n h0 h1)
  go_enter Try.func9, Try.ntmps9
  go_wp2_with fail
  refine HNEW.out.mono ?_
  rintro e w1 ⟨bm, rfl, hm, hb⟩
  obtain ⟨F, O, -⟩ := Own.new w (Below.refl _ _) hm hb
  clear hm hb
  go_wp2_with fail
  go_loopw [38] (fun i wr => ∃ (k : Nat) (F : Nat → Prop), i = .int .i64 k ∧ k ≤ l.length ∧ Own w wr F bm (doAll (Mem.made n) (l.take k))) (fun i _ => l.length - (intOf i).toNat)
  case atStart => exact ⟨0, F, rfl, Nat.zero_le _, O⟩
  case round =>
    obtain ⟨k, F', rfl, hk, hO⟩ := hrel
    by_cases hlt : k < l.length
    · obtain ⟨x, hx⟩ : ∃ x, l[k]? = some x := ⟨_, List.getElem?_eq_getElem hlt⟩
      obtain ⟨sp', sc', hv, hcells⟩ := HS.out.below hO.below
      injection hv with e1 e2 e3
      subst e1 e3
      obtain ⟨sb, so, u, rfl, hbl, c0, c1, c2, c3, c4, c5, c6, hva⟩ := hcells k x hx
      obtain ⟨up, uc, rfl⟩ := hva.cl
      have hva0 : VA w (.slice up x.vals.length uc) x.vals := by
        obtain ⟨sp2, sc2, hv2, hcells0⟩ := HS.out
        injection hv2 with e1 _ e3
        obtain ⟨sb', so', u', e4, hbl0, d0, d1, d2, d3, d4, d5, d6, hva0⟩ := hcells0 k x hx
        rw [← e1] at e4
        injection e4 with e4
        injection e4 with e5 e6 _
        subst e5 e6
        have := (hO.below.cell (p := ⟨sb, so + k * 7 + 6, none⟩) hbl0).trans d6
        rw [c6] at this
        injection this with this
        rw [this]; exact hva0
      have hfx := hf x (List.mem_of_getElem? hx)
      have hll := doAll_len (Mem.made n) (l.take k)
      have hmn : (Mem.made n).trace.length = 0 ∧ (Mem.made n).cells.length = n ∧ (Mem.made n).next = 1 := ⟨rfl, by simp [Mem.made], rfl⟩
      have hfit : (doAll (Mem.made n) (l.take k)).Fit := by
        have h3 : (l.take k).length ≤ k := by rw [List.length_take]; omega
        exact ⟨by omega, by omega, hll.2.2 (by omega)⟩
      have hsnoc : Hid (doAll (Mem.made n) (l.take (k + 1)) = x.does (doAll (Mem.made n) (l.take k))) := by
        show _ = _
        rw [List.take_add_one, hx]; exact doAll_snoc _ _ _
      generalize doAll (Mem.made n) (l.take k) = A at *
      go_upto_region 7 with fail
      have hob := Blk.made wr 92 #[.int .i64 x.kind, .int .i64 x.which, .int .i64 x.thread, .int .u64 x.addr, .int .u64 x.a, .int .u64 x.b, .slice up x.vals.length uc]
      have hba := (Below.refl wr.heap.size wr).alloc (Nat.le_refl _) (.cells #[.int .i64 x.kind, .int .i64 x.which, .int .i64 x.thread, .int .u64 x.addr, .int .u64 x.a, .int .u64 x.b, .slice up x.vals.length uc] 92)
      have Oa := hO.bel hba
      have hva2 := hva.below hba
      have hwo := hO.size
      have hobl := hob.lt
      have hoff : x.vals ≠ [] → Off (.slice up x.vals.length uc) F' := hva0.off (fun b hb => (hO.mine.2 b hb).1)
      clear c0 c1 c2 c3 c4 c5 c6 hcells hO hba hva hll hmn
      generalize wr.alloc _ = wa at *
      generalize wr.heap.size = ob at *
      have e2 : wa.cell? ⟨ob, 2, none⟩ = some (.int .i64 x.thread) := hob.cell 2
      go_wp2_with fail
      refine (View_any wa bm x.thread).mono ?_
      rintro e w3 ⟨rfl, hw3⟩
      obtain ⟨O3, v3, n3, b3⟩ := Oa.view x.thread hw3
      have hob3 := hob.below b3
      have hva3 := hva2.below b3
      have hwv := Oa.size
      clear hw3 b3 e2 hob hva2 Oa
      generalize wa.heap.size = v at *
      have c0 : w3.cell? ⟨ob, 0, none⟩ = some (.int .i64 x.kind) := hob3.cell 0
      have c3 : w3.cell? ⟨ob, 3, none⟩ = some (.int .u64 x.addr) := hob3.cell 3
      have c4 : w3.cell? ⟨ob, 4, none⟩ = some (.int .u64 x.a) := hob3.cell 4
      have c5 : w3.cell? ⟨ob, 5, none⟩ = some (.int .u64 x.b) := hob3.cell 5
      have c6 : w3.cell? ⟨ob, 6, none⟩ = some (.slice up x.vals.length uc) := hob3.cell 6
      go_wp2_with fail
      refine (which_any w3 x.kind 5 (by decide) (by decide) hfx.2.2.1 hfx.2.2.2).mono ?_
      rintro e w4 ⟨rfl, rfl⟩
      have hsort : x.sort = x.kind % 5 := rfl
      have hz5 : x.kind % 5 = 0 ∨ x.kind % 5 = 1 ∨ x.kind % 5 = 2 ∨ x.kind % 5 = 3 ∨ x.kind % 5 = 4 := by omega
      generalize x.kind % 5 = z at *
      rcases hz5 with hz | hz | hz | hz | hz
      · have HD : Hid (x.does A = A.load x.thread x.addr) := by show _ = _; simp [Opr.does, hsort, hz]
        have HC := Lib.hid (Load_o O3 v3 n3 hwv x.addr hfx.1 hfit (by decide) (by decide))
        subst hz
        go_wp2_with fail
        refine HC.out.mono ?_
        rintro e w5 ⟨rfl, F5, O5, -, -, -, -⟩
        go_wp2_with fail
        go_roundw
        case rel => exact ⟨k + 1, F5, by go_num, by omega, by rw [hsnoc.out, HD.out]; exact O5⟩
        case measure => simp [intOf]; omega
      · have HD : Hid (x.does A = A.store x.thread x.addr x.a) := by show _ = _; simp [Opr.does, hsort, hz]
        have HC := Lib.hid (Store_o O3 v3 n3 hwv x.addr x.a hfx.1 hfit (by decide) (by decide))
        subst hz
        go_wp2_with fail
        refine HC.out.mono ?_
        rintro e w5 ⟨rfl, F5, O5, -, -, -, -⟩
        go_wp2_with fail
        go_roundw
        case rel => exact ⟨k + 1, F5, by go_num, by omega, by rw [hsnoc.out, HD.out]; exact O5⟩
        case measure => simp [intOf]; omega
      · have HD : Hid (x.does A = A.cas x.thread x.addr x.a x.b) := by show _ = _; simp [Opr.does, hsort, hz]
        have HC := Lib.hid (Cas_o O3 v3 n3 hwv x.addr x.a x.b hfx.1 hfit (by decide) (by decide))
        subst hz
        go_wp2_with fail
        refine HC.out.mono ?_
        rintro e w5 ⟨rfl, F5, O5, -, -, -, -⟩
        go_wp2_with fail
        go_roundw
        case rel => exact ⟨k + 1, F5, by go_num, by omega, by rw [hsnoc.out, HD.out]; exact O5⟩
        case measure => simp [intOf]; omega
      · have HD : Hid (x.does A = A.add x.thread x.addr x.a) := by show _ = _; simp [Opr.does, hsort, hz]
        have HC := Lib.hid (Add_o O3 v3 n3 hwv x.addr x.a hfx.1 hfit (by decide) (by decide))
        subst hz
        go_wp2_with fail
        refine HC.out.mono ?_
        rintro e w5 ⟨rfl, F5, O5, -, -, -, -⟩
        go_wp2_with fail
        go_roundw
        case rel => exact ⟨k + 1, F5, by go_num, by omega, by rw [hsnoc.out, HD.out]; exact O5⟩
        case measure => simp [intOf]; omega
      · have HD : Hid (x.does A = A.alloc x.thread x.vals) := by show _ = _; simp [Opr.does, hsort, hz]
        have HC := Lib.hid (Alloc_o O3 v3 n3 hwv hva3 hoff (by have := hfx.2.1; omega) hfit (by decide) (by decide))
        subst hz
        go_wp2_with fail
        refine HC.out.mono ?_
        rintro e w5 ⟨rfl, F5, O5, -, -, -, -⟩
        go_wp2_with fail
        go_roundw
        case rel => exact ⟨k + 1, F5, by go_num, by omega, by rw [hsnoc.out, HD.out]; exact O5⟩
        case measure => simp [intOf]; omega
    · obtain rfl : k = l.length := by omega
      rw [List.take_length] at hO
      have hll := doAll_len (Mem.made n) l
      have hmn : (Mem.made n).trace.length = 0 ∧ (Mem.made n).cells.length = n ∧ (Mem.made n).next = 1 := ⟨rfl, by simp [Mem.made], rfl⟩
      have hlk : ∀ k, (doAll (Mem.made n) (l.take k)).cells.length = n ∧ 1 ≤ (doAll (Mem.made n) (l.take k)).next ∧ (doAll (Mem.made n) (l.take k)).next ≤ n := fun k => by
        have h3 := doAll_len (Mem.made n) (l.take k)
        have h4 := doAll_one (Mem.made n) (l.take k) (by omega)
        exact ⟨by omega, h4, by have := h3.2.2 (by omega); omega⟩
      have hfit : (doAll (Mem.made n) l).Fit := ⟨by omega, by omega, hll.2.2 (by omega)⟩
      have htl : (doAll (Mem.made n) l).trace.length = l.length := by omega
      have htr : ∀ (k : Nat) (x : Opr), l[k]? = some x → (doAll (Mem.made n) l).trace[k]? = some (x.acc (doAll (Mem.made n) (l.take k))) := fun k x hx => by
        have h3 := doAll_trace (Mem.made n) l k x hx
        rw [hmn.1, Nat.zero_add] at h3; exact h3
      have hvl : ∀ y ∈ (doAll (Mem.made n) l).trace, y.vals.length ≤ 1000000000 := by
        intro y hy
        obtain ⟨k, hk3, rfl⟩ := List.getElem_of_mem hy
        obtain ⟨x, hx⟩ : ∃ x, l[k]? = some x := ⟨_, List.getElem?_eq_getElem (by omega)⟩
        have h3 := htr k x hx
        rw [List.getElem?_eq_getElem hk3] at h3
        injection h3 with h3
        rw [h3]
        have hfx := hf x (List.mem_of_getElem? hx)
        have h5 := hfx.2.1
        unfold Opr.acc
        split; · simp
        split; · simp
        split; · simp
        split; · simp
        · show x.vals.length ≤ _; omega
      have hfull : doAll (Mem.made n) (l.take l.length) = doAll (Mem.made n) l := by rw [List.take_length]
      obtain ⟨q, r, tv, rows, hx⟩ := hO.mine.1
      have HT' := Trace_x hx hfit.t hvl
      rw [htl] at HT'
      have HT := Lib.hid HT'
      have hmk := run_zeros n h1
      clear HT' hx hvl hll hmn
      go_wp2_with fail
      refine HT.out.mono ?_
      rintro e w2 ⟨tp, tcap, rfl, hTd, b2⟩
      have O2 := hO.bel b2
      have HG0 : Hid (∀ o, (w2.alloc o).heap.size = w2.heap.size + 1) := fun o => by simp
      have hgb : Blk (w2.alloc (.cells (us (List.replicate n 0)).toArray 22)) w2.heap.size 22 (us (doAll (Mem.made n) (l.take 0)).cells).toArray := Blk.made w2 _ _
      have hb20 : Below w2.heap.size w2 (w2.alloc (.cells (us (List.replicate n 0)).toArray 22)) := (Below.refl _ w2).alloc (Nat.le_refl _) _
      have HROW : Hid (∀ wx, Below w2.heap.size w2 wx → ∀ (k : Nat) (x : Opr), l[k]? = some x → ∃ u tg, tp = some ⟨tg, 0, none⟩ ∧ (∀ j v, (accC (x.acc (doAll (Mem.made n) (l.take k)), u))[j]? = some v → wx.cell? ⟨tg, k * 8 + j, none⟩ = some v) ∧
          VR wx u (x.acc (doAll (Mem.made n) (l.take k))).vals ∧ ((x.acc (doAll (Mem.made n) (l.take k))).vals ≠ [] → ∀ b, u.ownBlock = some b → b ≠ w2.heap.size)) := by
        intro wx hbw k x hx
        obtain ⟨rows2, hf2, ho2, hv2⟩ := hTd.out
        have h3 := htr k x hx
        rw [← hf2, List.getElem?_map] at h3
        cases hr : rows2[k]? with
        | none => rw [hr] at h3; cases h3
        | some y =>
          rw [hr] at h3
          have h3 : y.1 = x.acc (doAll (Mem.made n) (l.take k)) := by simpa using h3
          have hkl := (List.getElem?_eq_some_iff.1 hr).1
          have hrl : rows2.length = l.length := by have := congrArg List.length hf2; rw [List.length_map] at this; omega
          rw [hrl] at ho2
          obtain ⟨tg, cap', hv, _, hlt3⟩ := ho2.form (by omega)
          injection hv with e1 _ e3
          subst e1 e3
          have hyv := hv2 y (List.mem_of_getElem? hr)
          refine ⟨y.2, tg, rfl, fun j v hj => ?_, ?_, ?_⟩
          · rw [← h3] at hj
            have hj8 : j < 8 := by have := (List.getElem?_eq_some_iff.1 hj).1; simpa [accC] using this
            exact (hbw.cell (p := ⟨tg, k * 8 + j, none⟩) hlt3).trans (own_cell ho2 ((flat_at rows2 k j y hr hj8).trans hj))
          · rw [← h3]; exact hyv.below hbw
          · intro hne b hb hbe
            rcases hyv with ⟨p, c, e, e0⟩ | ⟨gb, c, e, hlt4, _⟩
            · rw [← h3] at hne
              exact hne e0
            · rw [e] at hb
              have : gb = b := by simpa [Value.ownBlock] using hb
              omega
      clear HT hTd htr hO b2
      go_wp2_with fail
      have hF2 := O2.mine.not (Nat.le_refl w2.heap.size)
      have hw2 := O2.size
      generalize w2.alloc _ = w3 at *
      clear HG0
      generalize hg2 : w2.heap.size = g at *
      have HG2 := Lib.hid hg2
      have HO2 := Lib.hid O2
      clear hg2 O2
      go_loopw [12, 13] (fun nx i wx => ∃ k : Nat, i = .int .i64 k ∧ k ≤ l.length ∧ nx = .int .i64 ((doAll (Mem.made n) (l.take k)).next : Int) ∧ Blk wx g 22 (us (doAll (Mem.made n) (l.take k)).cells).toArray ∧ Below g w2 wx) (fun _ i _ => l.length - (intOf i).toNat)
      case atStart => exact ⟨0, rfl, Nat.zero_le _, rfl, hgb, hb20⟩
      case round =>
        obtain ⟨k, rfl, hk, rfl, hB, hbw⟩ := hrel
        by_cases hlt : k < l.length
        · obtain ⟨x, hx⟩ : ∃ x, l[k]? = some x := ⟨_, List.getElem?_eq_getElem hlt⟩
          obtain ⟨u, tg, rfl, hcells2, hvr, hug⟩ := HROW.out _ hbw k x hx
          obtain ⟨e1, e2, e3⟩ := hlk k
          have hsn := doAll_take (Mem.made n) hx
          have HDN' := done_does x hB (hf x (List.mem_of_getElem? hx)) (by omega) (by omega) e2 (by omega) hvr hug
          rw [e1, ← hsn] at HDN'
          obtain ⟨up, un, uc, rfl⟩ := hvr.form
          have a0 := hcells2 0 _ rfl
          have a1 := hcells2 1 _ rfl
          have a2 := hcells2 2 _ rfl
          have a3 := hcells2 3 _ rfl
          have a4 := hcells2 4 _ rfl
          have a5 := hcells2 5 _ rfl
          have a6 := hcells2 6 _ rfl
          have a7 := hcells2 7 _ rfl
          simp only [accC] at HDN'
          have HDN := Lib.hid HDN'
          clear HDN' hcells2 hvr hug hsn hB
          generalize x.acc (doAll (Mem.made n) (l.take k)) = y at *
          generalize (doAll (Mem.made n) (l.take k)).next = nx at *
          have a0' : wr.cell? ⟨tg, k * 8, none⟩ = some (.int .i64 y.thread) := a0
          go_wp2_with fail
          refine HDN.out.mono ?_
          rintro e w5 ⟨rfl, hB5, hf5⟩
          have hb5 : Below g w2 w5 := hbw.trans (hf5.to_below (by have := hbw.size; have := HG2.out; omega) (fun q hq e => by omega))
          go_wp2_with fail
          go_roundw
          case rel => exact ⟨k + 1, by go_num, by omega, rfl, hB5, hb5⟩
          case measure => simp [intOf]; omega
        · obtain rfl : k = l.length := by omega
          rw [hfull] at hB
          have O3 := HO2.out.bel (show Below w2.heap.size w2 _ by rw [HG2.out]; exact hbw)
          obtain ⟨e1, e2, e3⟩ := hlk l.length
          rw [hfull] at e1 e2 e3
          rw [hfull]
          clear HROW hfull hlk hgb hb20
          generalize doAll (Mem.made n) l = AF at *
          go_wp2_with fail
          have HPK : Hid (∀ m nq k : Nat, Calls Try.prog 27 #[.pointer (some ⟨bm, 0, none⟩), .int .u64 (k : Int)] ((wr.drewN m).drewN nq) fun e w' => e = .returned (.int .u64 (AF.cells.getD k 0)) ∧ (wr.drewN m).drewN nq = w') := by
            intro m nq k
            have h := peek_o ((O3.drawn m).drawn nq) (k : Int) (by omega) hfit
            have hp : AF.peek (k : Int) = AF.cells.getD k 0 := by simp [Mem.peek]
            rw [hp] at h
            exact h
          have HCELL : Hid (∀ m k : Nat, k < n → (wr.drewN m).cell? ⟨g, k, none⟩ = some (.int .u64 (AF.cells.getD k 0))) := fun m k hk5 => (hB.drawn m).rowAt (A := AF) (by omega)
          go_loopw [15] (fun i wx => ∃ k m : Nat, i = .int .i64 k ∧ k ≤ n ∧ wx = wr.drewN m) (fun i _ => n - (intOf i).toNat)
          case atStart => exact ⟨0, 0, rfl, Nat.zero_le _, rfl⟩
          case round =>
            obtain ⟨k, m, rfl, hkn, rfl⟩ := hrel
            by_cases hlt2 : k < n
            · have d1 := HCELL.out m k hlt2
              have HP1 := Lib.hid (fun nq => HPK.out m nq k)
              generalize AF.cells.getD k 0 = pk at *
              have HWX : Hid (∀ nq, (wr.drewN m).drewN nq = wr.drewN (m + nq)) := fun nq => by simp [World.drewN, Nat.add_assoc]
              generalize wr.drewN m = wx at *
              have ow5 : IntKind.u64.wrap (k : Int) = (k : Int) := IntWalk.u64_in _ ⟨by omega, by omega⟩
              go_wp2_with fail
              go_quiet ((go_at_call 27; exact Calls.quiet_of_same ((HP1.out _).mono fun _ _ hh => ⟨hh.1, hh.2.symm⟩)))
              all_goals
                go_wp2_with fail
                go_roundw
                case rel => exact ⟨k + 1, m + nq, by go_num, by omega, HWX.out nq⟩
                case measure => simp [intOf]; omega
            · obtain rfl : k = n := by omega
              have ow : wrap64 ((k : Int) - (AF.next : Int)) = (k : Int) - (AF.next : Int) := by unfold wrap64; omega
              go_wp2_with fail
              refine (live3_any _).mono ?_
              rintro e w6 ⟨rfl, b6⟩
              have O6 := (O3.drawn m).bel b6
              obtain ⟨q6, r6, tv6, rows6, hx6⟩ := O6.mine.1
              have HL' := Left_any hx6 (by omega) (by omega)
              rw [e1] at HL'
              have HL := Lib.hid HL'
              have HB6 := Lib.hid (fun n => (O6.drawn n).below)
              clear HL' hx6 O6
              go_wp2_with fail
              refine HL.out.mono ?_
              rintro e w7 ⟨rfl, n7, rfl⟩
              go_wp2
              go_ret
              exact ⟨rfl, HB6.out _⟩
set_option maxRecDepth 100000 in
theorem ArenaTraces_any (c : Int) (sv : Value) (w : World) (hs : ScriptAt w sv l) (hf : ∀ x ∈ l, x.fits) (hl : l.length ≤ 1048576) :
    Calls Try.prog 9 #[.int .i64 c, sv] w fun e w' => e = .returned (.bool true) ∧ Below w.heap.size w w' := by
  by_cases hc : 128 ≤ c ∧ c ≤ 4194304
  · obtain ⟨n, rfl⟩ : ∃ n : Nat, c = n := ⟨c.toNat, by omega⟩
    exact ArenaTraces_in n sv w hs hf hl (by omega) (by omega)
  · obtain ⟨sp, sc, rfl, -⟩ := hs
    have HN := Lib.hid (New_out w c false (by omega))
    by_cases h1 : c < 128
    · have t1 : decide (c < 128) = true := by simpa using h1
      clear hc h1
      go_enter Try.func9, Try.ntmps9
      go_wp2_with fail
      refine HN.out.mono ?_
      rintro e w1 ⟨rfl, rfl⟩
      go_wp2_with fail
      refine (live3_any _).mono ?_
      rintro e w2 ⟨rfl, b2⟩
      go_wp2
      go_ret
      exact ⟨rfl, b2⟩
    · have t1 : decide (c < 128) = false := by simpa using h1
      have t2 : decide (4194304 < c) = true := by simp; omega
      clear hc h1
      go_enter Try.func9, Try.ntmps9
      go_wp2_with fail
      refine HN.out.mono ?_
      rintro e w1 ⟨rfl, rfl⟩
      go_wp2_with fail
      refine (live3_any _).mono ?_
      rintro e w2 ⟨rfl, b2⟩
      go_wp2
      go_ret
      exact ⟨rfl, b2⟩
end
end Go.Proofs.Ytfbdgodebeggbaa

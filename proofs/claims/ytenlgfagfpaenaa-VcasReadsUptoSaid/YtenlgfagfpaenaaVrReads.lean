/-
  VcasReads: a Read tells a value that the object had. No condition.
-/
import Derived.Test.YtenlgfagfpaenaaVrFin
import Derived.Test.YtenlgfagfpaenaaVcE
import Derived.BigQuiet
namespace Go.Proofs.Ytenlgfagfpaenaa
open Go Go.RowKit
set_option linter.unusedSimpArgs false
set_option linter.unusedVariables false
section
variable {W w w' : World} {v pv : Value} {ll : List (List Cl)} {vs : List Int}
/-- numbers that fit -/
def CallsOK (ll : List (List Cl)) : Prop := ∀ l ∈ ll, ∀ c ∈ l, 0 ≤ c.obj ∧ 0 ≤ c.a ∧ 0 ≤ c.b
theorem placed_ok (h0 : CallsOK ll) (hk : ∀ l ∈ ll, ∀ c ∈ l, 0 ≤ c.kind ∧ c.kind ≤ 3) : (∀ l ∈ ll, ∀ c ∈ l, ClOK c) ∧ ∀ l ∈ ll.map (·.map place), ∀ c ∈ l, ClOK c ∧ Ob c.obj := by
  refine ⟨fun l hl c hc => ⟨(hk l hl c hc).1, (hk l hl c hc).2, (h0 l hl c hc).1, (h0 l hl c hc).2.1, (h0 l hl c hc).2.2⟩, fun l hl c hc => ?_⟩
  obtain ⟨l0, hl0, rfl⟩ := List.mem_map.1 hl
  obtain ⟨c0, hc0, rfl⟩ := List.mem_map.1 hc
  obtain ⟨a1, a2⟩ := hk l0 hl0 c0 hc0
  obtain ⟨b1, b2, b3⟩ := h0 l0 hl0 c0 hc0
  have h1 : 0 ≤ c0.obj % 3 := Int.emod_nonneg _ (by decide)
  have h2 : c0.obj % 3 < 3 := Int.emod_lt_of_pos _ (by decide)
  refine ⟨⟨a1, a2, by show 0 ≤ 2 + c0.obj % 3; omega, b2, b3⟩, ?_⟩
  show 2 + c0.obj % 3 = 2 ∨ 2 + c0.obj % 3 = 3 ∨ 2 + c0.obj % 3 = 4
  omega
/-- all that a law reads when a run is over -/
structure Fin1 (W w0 w : World) (bm : Nat) (v pv : Value) (ll : List (List Cl)) (p8 : Option Addr) (A : Mem) (L : Int → List Int) : Prop where
  own : ∃ F, Own W w F bm A
  fit : A.Fit
  inv : Inv A L
  rd : FinR w p8 ll A L
  arg : RdT w v ll
  box : Blk w w0.heap.size 56 #[v, pv]
  bel : Below w0.heap.size w0 w
theorem Fin1.below {w0 : World} {bm : Nat} {p8 : Option Addr} {A : Mem} {L : Int → List Int} (h : Fin1 W w0 w bm v pv ll p8 A L) (hb : Below w.heap.size w w') : Fin1 W w0 w' bm v pv ll p8 A L :=
  ⟨let ⟨F, h1⟩ := h.own; ⟨F, h1.bel hb⟩, h.fit, h.inv, h.rd.below hb, h.arg.below hb, h.box.below hb, h.bel.trans (hb.mono h.bel.size)⟩
theorem bdr {B : Nat} (h : Below B w w') (hB : B ≤ w'.heap.size) (n : Nat) : Below B w (w'.drewN n) := h.trans (((Fr.refl (fun _ => False) w').drawn n).to_below hB (fun _ _ e => e))
/-- has one of them been seen? -/
def seen (A : Mem) (val : Int) (l : List Int) : Bool := (val == 0) || l.any fun m => A.peek m == val
theorem seen_snoc {A : Mem} {val : Int} {l : List Int} {n : Nat} {m : Int} (hm : l[n]? = some m) : seen A val (l.take (n + 1)) = (seen A val (l.take n) || (A.peek m == val)) := by
  unfold seen
  rw [List.take_add_one, hm]
  simp [Bool.or_assoc]
theorem seen_all {A : Mem} {val : Int} {l : List Int} (h : val = 0 ∨ ∃ n ∈ l, A.peek n = val) : seen A val l = true := by
  unfold seen
  rcases h with h | ⟨n, h1, h2⟩
  · simp [h]
  · have : l.any (fun m => A.peek m == val) = true := List.any_eq_true.2 ⟨n, h1, by simpa using h2⟩
    rw [this]; simp
set_option maxHeartbeats 4000000 in
set_option maxRecDepth 100000 in
theorem VcasReads_any (h : RdT W v ll) (hpv : RdI W pv vs) (hn : ll.length ≤ 1048576) (hl : ∀ l ∈ ll, l.length ≤ 1048576) (hvs : vs.length ≤ 1048576) (h0 : CallsOK ll) :
    Calls Try.prog 7 #[.agg #[v, pv]] W fun e w' => e = .returned (.bool true) ∧ Below W.heap.size W w' := by
  obtain ⟨w1, hw1⟩ : ∃ w1, w1 = W.alloc (.cells #[v, pv] 56) := ⟨_, rfl⟩
  have hb1 : Below W.heap.size W w1 := hw1 ▸ (Below.refl _ _).alloc (Nat.le_refl _) _
  have hz1 : w1.heap.size = W.heap.size + 1 := by rw [hw1]; simp
  have hB0 : Blk w1 W.heap.size 56 #[v, pv] := hw1 ▸ Blk.made W _ _
  have HM := Lib.hid (memory_big hb1)
  go_enter Try.func7, Try.ntmps7
  go_upto_region 1 with fail
  rw [← hw1]
  clear hw1
  go_wp2_with fail
  refine HM.out.mono ?_
  rintro e w2 ⟨bm, rfl, ⟨F, hO, hF⟩, hb2⟩
  go_wp2_with fail
  refine (live9_any _).mono ?_
  rintro e w3 ⟨rfl, hb3⟩
  have hb23 := hb2.trans (hb3.mono hb2.size)
  have hO3 := hO.bel hb3
  have hB3 := hB0.below hb23
  have hb03 := hb1.trans (hb23.mono hb1.size)
  have c0 : w3.cell? ⟨W.heap.size, 0, none⟩ = some v := hB3.cell 0
  have c1 : w3.cell? ⟨W.heap.size, 1, none⟩ = some pv := hB3.cell 1
  have HH := Lib.hid (And.intro hO3 (And.intro hB3 (And.intro hb03 hF)))
  have HON := Lib.hid (honest_any (v := v) (pv := pv) (h.below hb03) hn hl)
  clear hO hF hb2 hb3 hb23 hO3 hB3 hb03 hB0 hb1 HM
  go_wp2_with fail
  refine HON.out.mono ?_
  rintro e w4 ⟨⟨b, rfl, hb⟩, hb4⟩
  obtain ⟨hO3, hB3, hb03, hF⟩ := HH.out
  have hb04 := hb03.trans (hb4.mono hb03.size)
  have hO4 := hO3.bel hb4
  have hB4 := hB3.below hb4
  have HB4 := Lib.hid hb04
  have d0 : w4.cell? ⟨W.heap.size, 0, none⟩ = some v := hB4.cell 0
  have d1 : w4.cell? ⟨W.heap.size, 1, none⟩ = some pv := hB4.cell 1
  cases b
  · clear hb hO3 hB3 hb03 hF hb04 hO4 hB4 HON HH hb4
    go_wp2
    go_ret
    exact ⟨rfl, HB4.out⟩
  · obtain ⟨⟨hn64, hl4⟩, hk⟩ := hb rfl
    obtain ⟨hck, hcp⟩ := placed_ok h0 hk
    have hRUN := run_any (Z0 := fun b => b = W.heap.size) (n := 1) (v := v) (pv := pv) (ll := ll) (vs := vs) hO4 A0_sane (by rw [A0_trace]; exact Nat.le_refl _) (by
      intro b hb
      subst hb
      have hlt := hB4.lt
      exact ⟨Nat.le_refl _, hlt, fun hf => by have := hF _ hf; omega⟩) (h.below hb04) hn64 hl4 hck hpv (by omega)
    have HRUN := Lib.hid hRUN
    have HB0 := Lib.hid hB4
    have HARG := Lib.hid (h.below hb04)
    clear hb hO3 hB3 hb03 hF hb04 hO4 hB4 HON HH hb4 hRUN hck
    go_wp2_with fail
    refine HRUN.out.mono ?_
    rintro e w5 ⟨p8, c8, rp, vws, pl, wr, wb, rfl, hcl, hsz, hpa, hvi, hvl, hbr⟩
    have ok : ((Sv.zero A0 pl).many 1 (clsOf pl) vs).Ok (clsOf pl) (1 + vs.length) := many_ok (fun l hl c hc => (hcp l (hcl ▸ hl) c hc).1) vs (zero_ok A0_sane 1 (by rw [A0_trace]; exact Nat.le_refl _))
    obtain ⟨L, hg⟩ := Gv.many (cls := clsOf pl) (fun l hl c hc => hcp l (hcl ▸ hl) c hc) vs (Gv.zero pl (clsOf pl)) (zero_ok A0_sane 1 (by rw [A0_trace]; exact Nat.le_refl _))
    have hfin := FinR.of hcl ok hg hpa hvi
    have HF : Hid (Fin1 W W w5 bm v pv ll p8 ((Sv.zero A0 pl).many 1 (clsOf pl) vs).A L) := by
      obtain ⟨R, E, T, evs, ats, hj, _, _, _, _, hz⟩ := hvi
      obtain ⟨F5, lab, hx⟩ := hj.env
      have hbel := hx.own.below
      refine ⟨⟨F5, hx.own⟩, ok.sane.fit (by have := ok.tr; omega), hg.inv, hfin, h.below hbel, ?_, hbel⟩
      have hz0 := (hz W.heap.size (.inl rfl)).2.2.2
      exact hz0.trans (HB0.out.below hbr)
    generalize ((Sv.zero A0 pl).many 1 (clsOf pl) vs).A = A at *
    clear hfin hg ok hcl hsz hpa hvi hvl hbr HRUN HB0 HARG HB4 hcp c0 c1 d0 d1
    obtain ⟨vp, vc, rfl, -⟩ := h
    go_wp2_with fail
    go_loopw [7] (fun i wr => ∃ k : Nat, i = .int .i64 k ∧ k ≤ ll.length ∧ Hid (Fin1 W W wr bm (.slice vp ll.length vc) pv ll p8 A L)) (fun i _ => ll.length - (intOf i).toNat)
    case atStart => exact ⟨0, rfl, Nat.zero_le _, HF⟩
    case round =>
      clear HF
      obtain ⟨k, rfl, hkl, HF⟩ := hrel
      by_cases hlt : k < ll.length
      · obtain ⟨l, hll⟩ : ∃ l, ll[k]? = some l := ⟨_, List.getElem?_eq_getElem hlt⟩
        have hlen := hl4 l (List.mem_of_getElem? hll)
        have hobj : ∀ c ∈ l, 0 ≤ c.obj := fun c hc => (h0 l (List.mem_of_getElem? hll) c hc).1
        obtain ⟨wo, rfl⟩ : ∃ wo : World, wo = wr := ⟨_, rfl⟩
        go_wp2_with fail
        go_loopw [8] (fun i wr => ∃ j : Nat, i = .int .i64 j ∧ j ≤ l.length ∧ Hid (Fin1 W W wr bm (.slice vp ll.length vc) pv ll p8 A L)) (fun i _ => l.length - (intOf i).toNat)
        case atStart => exact ⟨0, rfl, Nat.zero_le _, HF⟩
        case round =>
          clear HF
          obtain ⟨j, rfl, hj, HF⟩ := hrel
          obtain ⟨g8, q, d, e8, cg, hrd⟩ := HF.out.rd k l hll
          subst e8
          by_cases hjt : j < l.length
          · obtain ⟨x, hx⟩ : ∃ x, l[j]? = some x := ⟨_, List.getElem?_eq_getElem hjt⟩
            have hx0 := hobj x (List.mem_of_getElem? hx)
            have b0 : wr.cell? ⟨W.heap.size, 0, none⟩ = some (.slice vp ll.length vc) := HF.out.box.cell 0
            obtain ⟨vp', vc', e, hc⟩ := HF.out.arg
            injection e with e1 _ e3
            subst e1 e3
            obtain ⟨b1, o1, u, rfl, hb1, c1, p3, c3, rfl, hcc⟩ := hc k l hll
            obtain ⟨b2, o2, rfl, hb2, k0, k1, k2, k3⟩ := hcc j x hx
            obtain ⟨wa, hwa⟩ : ∃ wa, wa = wr.alloc (.cells #[.int .i64 x.kind, .int .u64 x.obj, .int .u64 x.a, .int .u64 x.b] 76) := ⟨_, rfl⟩
            have hba : Below wr.heap.size wr wa := hwa ▸ (Below.refl _ _).alloc (Nat.le_refl _) _
            have hBx : Blk wa wr.heap.size 76 #[.int .i64 x.kind, .int .u64 x.obj, .int .u64 x.a, .int .u64 x.b] := hwa ▸ Blk.made _ _ _
            have HF2 := Lib.hid (HF.out.below hba)
            have a0 : wa.cell? ⟨wr.heap.size, 0, none⟩ = some (.int .i64 x.kind) := hBx.cell 0
            have a1 : wa.cell? ⟨wr.heap.size, 1, none⟩ = some (.int .u64 x.obj) := hBx.cell 1
            clear hcc hc hrd
            go_upto_region 16 with fail
            rw [← hwa]
            clear hwa cg
            generalize wr.heap.size = bx at *
            by_cases hk0 : x.kind = 0
            · clear HF
              obtain ⟨g9, q, d, e9, f8, hrd⟩ := HF2.out.rd k l hll
              injection e9 with e9
              injection e9 with e9
              subst e9
              obtain ⟨gr, pb, val, bg, nn, y, iv, at_, e9, fr, hR, hval⟩ := hrd j x hx hk0
              subst e9
              have HR := Lib.hid hR
              have hob : Ob (2 + x.obj % 3) := by
                have h1 : 0 ≤ x.obj % 3 := Int.emod_nonneg _ (by decide)
                have h2 : x.obj % 3 < 3 := Int.emod_lt_of_pos _ (by decide)
                show 2 + x.obj % 3 = 2 ∨ 2 + x.obj % 3 = 3 ∨ 2 + x.obj % 3 = 4
                omega
              have hwr : (1 + 1 + x.obj % 3) = 2 + x.obj % 3 := by omega
              have hz : (x.kind != 0) = false := by rw [hk0]; rfl
              clear hrd hR
              go_wp2_with fail
              refine (Read_Value HR.out).mono ?_
              rintro e w' ⟨rfl, rfl⟩
              go_wp2_with fail
              obtain ⟨F6, hO6⟩ := HF2.out.own
              have HVL := Lib.hid (Versions_L hO6 HF2.out.fit HF2.out.inv hob)
              clear hO6
              refine HVL.out.mono ?_
              rintro e wv ⟨p, pc, rfl, hvc, hbv⟩
              have HF3 := Lib.hid (HF2.out.below hbv)
              have HR3 : Hid (RdAt wv pb 1 (2 + x.obj % 3) bg nn y iv at_ val) := Blk.below HR.out hbv
              have f3 := tcell f8 hbv
              have f4 := tcell fr hbv
              have hlv : (L (2 + x.obj % 3)).length ≤ 16384 := (Vend_L HF2.out.inv hob).1
              clear HF2 HR fr f8 b0 c1 k0 k1 k2 k3 hba hBx a0 a1 hbv HVL hb1 hb2
              go_wp2_with fail
              generalize hL : L (2 + x.obj % 3) = lv at *
              go_loopw [10, 12] (fun s10 s12 wx => ∃ n d : Nat, s12 = .int .i64 n ∧ n ≤ lv.length ∧ s10 = .bool (seen A val (lv.take n)) ∧ wx = wv.drewN d) (fun _ s12 _ => lv.length - (intOf s12).toNat)
              case atStart => exact ⟨0, 0, rfl, Nat.zero_le _, by simp [seen], rfl⟩
              case round =>
                obtain ⟨n, dr, rfl, hnl, rfl, rfl⟩ := hrel
                by_cases hnt : n < lv.length
                · obtain ⟨m, hm⟩ : ∃ m, lv[n]? = some m := ⟨_, List.getElem?_eq_getElem hnt⟩
                  obtain ⟨gv, rfl, cv, -⟩ := hvc n m hm
                  have cv : wv.cell? ⟨gv, n * 2, none⟩ = some (.int .u64 (A.peek m)) := cv
                  have HS : Hid (∀ d', (wv.drewN d').drew.cell? ⟨gv, n * 2, none⟩ = some (.int .u64 (A.peek m)) ∧ (wv.drewN d').drew.cell? ⟨g8, k, none⟩ = some (.slice (some ⟨gr, 0, none⟩) l.length d) ∧ (wv.drewN d').drew.cell? ⟨gr, j * 6 + 1, none⟩ = some (.pointer (some ⟨pb, 0, none⟩))) := fun d' => ⟨cv, f3, f4⟩
                  have HRV : Hid (∀ d', Calls Try.prog 23 #[.pointer (some ⟨pb, 0, none⟩)] (wv.drewN d') fun e w' => e = .returned (.int .u64 val) ∧ (wv.drewN d') = w') := fun d' => Read_Value (show RdAt (wv.drewN d') pb 1 (2 + x.obj % 3) bg nn y iv at_ val from HR3.out)
                  have hsn := seen_snoc (A := A) (val := val) hm
                  generalize seen A val (lv.take n) = b0 at *
                  cases b0
                  · have e1 : (false || (A.peek m == val)) = (A.peek m == val) := rfl
                    rw [e1] at hsn
                    go_upto_region 22 with fail
                    go_region_held3 (fun wx => wx.cell? ⟨gv, n * 2, none⟩ = some (.int .u64 (A.peek m)) ∧ wx.cell? ⟨g8, k, none⟩ = some (.slice (some ⟨gr, 0, none⟩) l.length d) ∧ wx.cell? ⟨gr, j * 6 + 1, none⟩ = some (.pointer (some ⟨pb, 0, none⟩)))
                      (exact HS.out _)
                      (first | ((with_reducible refine (HRV.out _).mono ?_); rintro e w' ⟨rfl, rfl⟩))
                    go_wp2_with fail
                    exact ⟨⟨n + 1, _, by go_num, by omega, by rw [hsn], rfl⟩, by simp [intOf]; omega⟩
                  · have e1 : (true || (A.peek m == val)) = true := rfl
                    rw [e1] at hsn
                    go_upto_region 22 with fail
                    go_quiet (fail)
                    go_wp2_with fail
                    exact ⟨⟨n + 1, _, by go_num, by omega, by rw [hsn], rfl⟩, by simp [intOf]; omega⟩
                · obtain rfl : n = lv.length := by omega
                  have hs : seen A val (lv.take lv.length) = true := by rw [List.take_length]; exact seen_all hval
                  rw [hs]
                  go_wp2_with fail
                  exact ⟨⟨j + 1, by go_num, by omega, HF3.out.below (bdr (Below.refl _ _) (Nat.le_refl _) dr)⟩, by simp [intOf]; omega⟩
            · have hz : (x.kind != 0) = true := by simpa using hk0
              go_wp2_with fail
              go_roundw
              case rel => exact ⟨j + 1, by go_num, by omega, HF2⟩
              case measure => simp [intOf]; omega
          · obtain rfl : j = l.length := by omega
            go_wp2_with fail
            go_roundw
            case rel => exact ⟨k + 1, by go_num, by omega, HF⟩
            case measure => simp [intOf]; omega
      · obtain rfl : k = ll.length := by omega
        have HB := Lib.hid HF.out.bel
        clear HF
        go_wp2
        go_ret
        exact ⟨rfl, HB.out⟩
end
end Go.Proofs.Ytenlgfagfpaenaa

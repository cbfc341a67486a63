/-
  shutterlaw09.run: the calls are placed, begun, and let go. No condition.
-/
import Derived.Test.YtenlgfagfpaenaaVrS
namespace Go.Proofs.Ytenlgfagfpaenaa
open Go Go.RowKit
set_option linter.unusedSimpArgs false
set_option linter.unusedVariables false
def RdI (w : World) (v : Value) (l : List Int) : Prop := ∃ p c, v = .slice p l.length c ∧ ∀ (i : Nat) x, l[i]? = some x → ∃ b o, p = some ⟨b, o, none⟩ ∧ b < w.heap.size ∧ w.cell? ⟨b, o + i, none⟩ = some (.int .i64 x)
section
variable {W w w' : World} {v pv : Value} {ll : List (List Cl)} {bm rp : Nat} {vs : List Int} {A : Mem} {F Z0 : Nat → Prop}
theorem Run_v {v : Value} (I : Nat → World → Prop) (rp : Nat) (hv : RdI W v vs) (hI : I 0 w) (hlen : vs.length ≤ 1000000000) (hcell : ∀ wx k, I k wx → Below W.heap.size W wx)
    (hpick : ∀ wx (k : Nat) x, vs[k]? = some x → I k wx → Calls Try.prog 63 #[.pointer (some ⟨rp, 0, none⟩), .int .i64 x] wx fun e w' => (∃ b, e = .returned (.bool b)) ∧ I (k + 1) w') :
    Calls Try.prog 35 #[.pointer (some ⟨rp, 0, none⟩), v] w fun e w' => e = .returned (.tuple #[]) ∧ I vs.length w' := by
  obtain ⟨p, c, rfl, hc⟩ := hv
  have HC : Hid (∀ wx (j k : Nat) x, I j wx → vs[k]? = some x → ∃ b o, p = some ⟨b, o, none⟩ ∧ wx.cell? ⟨b, o + k, none⟩ = some (.int .i64 x)) := by
    intro wx j k x hi hx
    obtain ⟨b, o, e, hl, hc1⟩ := hc k x hx
    exact ⟨b, o, e, ((hcell wx j hi).cell (p := ⟨b, o + k, none⟩) hl).trans hc1⟩
  have HP := Lib.hid hpick
  have HI : Hid (I 0 w) := hI
  clear hI hpick hc hcell
  go_enter Try.func35, Try.ntmps35
  go_wp2_with fail
  go_loopw [8] (fun i wr => ∃ k : Nat, i = .int .i64 k ∧ k ≤ vs.length ∧ Hid (I k wr)) (fun i _ => vs.length - (intOf i).toNat)
  case atStart => exact ⟨0, rfl, Nat.zero_le _, HI⟩
  case round =>
    clear HI
    obtain ⟨k, rfl, hk, HI⟩ := hrel
    by_cases hlt : k < vs.length
    · obtain ⟨x, hx⟩ : ∃ x, vs[k]? = some x := ⟨_, List.getElem?_eq_getElem hlt⟩
      obtain ⟨b, o, rfl, c1⟩ := HC.out _ _ k x HI.out hx
      have HP1 := Lib.hid (HP.out wr k x hx HI.out)
      clear hx HI
      go_wp2_with fail
      refine HP1.out.mono ?_
      rintro e w2 ⟨⟨b1, rfl⟩, h2⟩
      have HI2 := Lib.hid h2
      clear h2 HP1
      go_wp2_with fail
      go_roundw
      case rel => exact ⟨k + 1, by go_num, by omega, HI2⟩
      case measure => simp [intOf]; omega
    · obtain rfl : k = vs.length := by omega
      go_wp2
      go_end0
      exact ⟨rfl, HI.out⟩
theorem VI.bel {vws : List Nat} {cam : Int} {pl : List (List PC)} {Z : Nat → Prop} {wz : World} {steps : Nat} {s : Sv} (h : VI W bm vws cam pl rp Z wz steps s w) : Below W.heap.size W w := by
  obtain ⟨R, E, T, evs, ats, hj, _⟩ := h
  obtain ⟨F, lab, hx⟩ := hj.env
  exact hx.own.below
theorem zero_ok {pl : List (List PC)} (h : A.Sane) (n : Nat) (hn : A.trace.length ≤ n) : (Sv.zero A pl).Ok (clsOf pl) n := by
  refine ⟨h, hn, by simp [Sv.zero, clsOf], fun t x l h1 h2 => ?_⟩
  have h1 : (pl.map fun row => (⟨0, row.map fun _ => .new⟩ : TV))[t]? = some x := h1
  rw [List.getElem?_map] at h1
  unfold clsOf at h2
  rw [List.getElem?_map] at h2
  cases hr : pl[t]? with
  | none => rw [hr] at h1; cases h1
  | some row =>
    rw [hr] at h1 h2
    injection h1 with h1
    injection h2 with h2
    subst h1 h2
    refine ⟨by simp, Nat.zero_le _, fun j c st q1 q2 => ?_⟩
    have q2 : (row.map fun _ => Vs.new)[j]? = some st := q2
    rw [List.getElem?_map] at q2
    cases hz : row[j]? with
    | none => rw [hz] at q2; cases q2
    | some z =>
      rw [hz] at q2
      injection q2 with q2
      subst q2
      exact ⟨trivial, rfl⟩
theorem many_snoc {cam : Int} {cls : List (List Cl)} {s : Sv} {k : Nat} {x : Int} (hx : vs[k]? = some x) : s.many cam cls (vs.take (k + 1)) = (s.many cam cls (vs.take k)).one cam cls x := by
  rw [List.take_add_one, hx]
  simp [Sv.many]
theorem many_ok {cam : Int} {cls : List (List Cl)} (hc : ∀ l ∈ cls, ∀ c ∈ l, ClOK c) : ∀ (l : List Int) {s : Sv} {n : Nat}, s.Ok cls n → (s.many cam cls l).Ok cls (n + l.length)
  | [], s, n, h => h
  | x :: l, s, n, h => by
    have := many_ok (cam := cam) hc l (h.one (cam := cam) hc x)
    have e : n + 1 + l.length = n + (x :: l).length := by simp; omega
    rw [e] at this
    exact this
/-- Run over any picks -/
theorem Run_picks {vws : List Nat} {cam : Int} {pl : List (List PC)} {Z : Nat → Prop} {wz : World} {steps n : Nat} {s : Sv} (h : VI W bm vws cam pl rp Z wz steps s w) (ok : s.Ok (clsOf pl) n) (hc : ∀ l ∈ clsOf pl, ∀ c ∈ l, ClOK c) (hvl : pl.length ≤ vws.length) (hl1 : pl.length ≤ 64) (hl2 : ∀ row ∈ pl, row.length ≤ 4096) (hs : steps + vs.length ≤ 10000000) (hn : n + vs.length ≤ 10000000) (hcam : 0 ≤ cam) (hv : RdI W v vs) :
    Calls Try.prog 35 #[.pointer (some ⟨rp, 0, none⟩), v] w fun e w' => e = .returned (.tuple #[]) ∧ VI W bm vws cam pl rp Z wz (steps + vs.length) (s.many cam (clsOf pl) vs) w' := by
  refine (Run_v (W := W) (w := w) (vs := vs) (fun k wx => k ≤ vs.length ∧ VI W bm vws cam pl rp Z wz (steps + k) (s.many cam (clsOf pl) (vs.take k)) wx) rp hv ⟨Nat.zero_le _, h⟩ (by omega) (fun wx k hI => hI.2.bel) ?_).mono ?_
  · intro wx k x hx hI
    have hk := (List.getElem?_eq_some_iff.1 hx).1
    have hok := many_ok (cam := cam) hc (vs.take k) ok
    have hlen : (vs.take k).length = k := by rw [List.length_take]; omega
    rw [hlen] at hok
    refine (VI.pick hI.2 hok hc hvl hl1 hl2 (by omega) (by omega) hcam x).mono ?_
    rintro e w' ⟨h1, h2⟩
    refine ⟨h1, hk, ?_⟩
    rw [many_snoc hx]
    exact h2
  · rintro e w' ⟨rfl, hI⟩
    have := hI.2
    rw [List.take_length] at this
    exact ⟨rfl, this⟩
theorem SAll.reads2 {base : Nat} {pl : List (List PC)} (h : SAll w base v pl) : Reads2 w v (pl.map (·.map fun z => procV z.1 z.2)) := by
  obtain ⟨us, h1, h2, h3⟩ := h
  have rd : ∀ {t : TypeId} {v : Value} {n : Nat} {xs : List Value}, w.ownsRow base t 1 v n xs → Reads w v xs := by
    intro t v n xs ho
    obtain ⟨p, c, rfl, hp, hc⟩ := own_at ho
    have hl : xs.length = n := by have := ho.1; omega
    exact ⟨p, c, by rw [hl], hp, fun j x hx => let ⟨g, e, hlt, hcx⟩ := hc j x hx; ⟨g, 0, e, hlt, by simpa using hcx⟩⟩
  refine ⟨us, rd h2, by rw [h1, List.length_map], fun j u l q1 q2 => ?_⟩
  rw [List.getElem?_map] at q2
  cases hr : pl[j]? with
  | none => rw [hr] at q2; cases q2
  | some row =>
    rw [hr] at q2
    injection q2 with q2
    subst q2
    exact rd (h3 j u row q1 hr)
theorem ite_ptr (P : Prop) [Decidable P] (a : Addr) : (if P then Value.pointer (some a) else Value.pointer none) = Value.pointer (if P then some a else none) := by split <;> rfl
theorem pr_form (pb : Nat) (c : Cl) : ∃ q1 q2 q3 q4 : Option Addr, prA pb c = #[.int .i64 c.kind, .pointer q1, .pointer q2, .pointer q3, .pointer q4, .pointer none] :=
  ⟨if c.kind = 0 then some ⟨pb, 0, none⟩ else none, if c.kind = 1 then some ⟨pb, 0, none⟩ else none, if c.kind = 2 then some ⟨pb, 0, none⟩ else none, if c.kind = 3 then some ⟨pb, 0, none⟩ else none, by unfold prA pp pn; simp only [ite_ptr]⟩
set_option maxHeartbeats 4000000 in
set_option maxRecDepth 100000 in
/-- what a run leaves -/
theorem run_any {n : Nat} (hO : Own W w F bm A) (hs : A.Sane) (htr : A.trace.length ≤ n) (hZ0 : ∀ b, Z0 b → W.heap.size ≤ b ∧ b < w.heap.size ∧ ¬ F b) (h : RdT w v ll) (hn : ll.length ≤ 64) (hl : ∀ l ∈ ll, l.length ≤ 4096) (hk : ∀ l ∈ ll, ∀ c ∈ l, ClOK c) (hpv : RdI W pv vs) (hvs : n + vs.length ≤ 10000000) :
    Calls Try.prog 33 #[.pointer (some ⟨bm, 0, none⟩), .int .u64 1, .agg #[v, pv]] w fun e w' => ∃ p8 c8 rp vws pl wr wb, e = .returned (.tuple #[.slice p8 ll.length c8, .pointer (some ⟨rp, 0, none⟩)]) ∧ clsOf pl = ll.map (·.map place) ∧ w.heap.size ≤ wb.heap.size ∧ PAll w' wb.heap.size (.slice p8 ll.length c8) pl ∧
      VI W bm vws 1 pl rp (Zr wb wr Z0) wr vs.length ((Sv.zero A pl).many 1 (clsOf pl) vs) w' ∧ pl.length ≤ vws.length ∧ Below w.heap.size w wr := by
  have h' := h
  obtain ⟨vp, vc, rfl, -⟩ := h'
  obtain ⟨w1, hw1⟩ : ∃ w1, w1 = w.alloc (.cells #[.slice vp ll.length vc, pv] 56) := ⟨_, rfl⟩
  have hb1 : Below w.heap.size w w1 := hw1 ▸ (Below.refl _ _).alloc (Nat.le_refl _) _
  have hz1 : w1.heap.size = w.heap.size + 1 := by rw [hw1]; simp
  have hB0 : Blk w1 w.heap.size 56 #[.slice vp ll.length vc, pv] := hw1 ▸ Blk.made w _ _
  have HPL := Lib.hid (placed_any (h.below hb1) (by omega) (fun l hx => by have := hl l hx; omega) (fun l hx c hc => (hk l hx c hc).2.2.1))
  have HH := Lib.hid (And.intro hO (And.intro hs (And.intro htr (And.intro hZ0 (And.intro hk hpv)))))
  have hb0 : w1.cell? ⟨w.heap.size, 0, none⟩ = some (.slice vp ll.length vc) := hB0.cell 0
  clear h hO hs htr hZ0 hk hpv
  go_enter Try.func33, Try.ntmps33
  go_upto_region 3 with fail
  rw [← hw1]
  clear hw1
  go_wp2_with fail
  refine HPL.out.mono ?_
  rintro e w2 ⟨v2, rfl, hca, hb2⟩
  have hrd := hca.rd
  obtain ⟨q, d, rfl, -⟩ := hrd
  rw [List.length_map] at *
  have hB02 := hB0.below hb2
  have HB := Lib.hid (hb1.trans (hb2.mono (by omega)))
  have HCE : Hid (∀ wx, Below w2.heap.size w2 wx → wx.cell? ⟨w.heap.size, 1, none⟩ = some pv) := fun wx hb => (hB02.below hb).cell 1
  have HRW : Hid (∀ wx, Below w2.heap.size w2 wx → ∀ (k : Nat) l, ll[k]? = some l → ∃ b o u, q = some ⟨b, o, none⟩ ∧ wx.cell? ⟨b, o + k, none⟩ = some u ∧ RdC wx u (l.map place)) := by
    intro wx hb k l hk
    have hr := hca.rd.below hb
    obtain ⟨p', c', e, hc⟩ := hr
    injection e with e1 _ e3
    subst e1
    obtain ⟨b, o, u, h1, _, h3, h4⟩ := hc k (l.map place) (by rw [List.getElem?_map, hk]; rfl)
    exact ⟨b, o, u, h1, h3, h4⟩
  have HST := Lib.hid (ROut.start w2 1)
  clear hca HPL hb0 hB0 hB02 hb1 hb2 hz1
  go_wp2_with fail
  go_loopw [8, 9, 11] (fun i8 i9 i11 wr => ∃ (k : Nat) (p8 : Option Addr) (c8 : Nat) (p9 : Option Addr) (c9 : Nat) (pl : List (List PC)), i8 = .slice p8 k c8 ∧ i9 = .slice p9 k c9 ∧ i11 = .int .i64 k ∧ k ≤ ll.length ∧ Hid (pl.length = k ∧ ROut w2 wr 1 ((ll.take k).map (·.map place)) (.slice p8 k c8) (.slice p9 k c9) pl)) (fun _ _ i11 _ => ll.length - (intOf i11).toNat)
  case atStart => exact ⟨0, none, 0, none, 0, [], rfl, rfl, rfl, Nat.zero_le _, Lib.hid ⟨rfl, HST.out⟩⟩
  case round =>
    clear HST
    obtain ⟨k, p8, c8, p9, c9, pl, rfl, rfl, rfl, hkl, HO⟩ := hrel
    by_cases hlt : k < ll.length
    · obtain ⟨l, hll⟩ : ∃ l, ll[k]? = some l := ⟨_, List.getElem?_eq_getElem hlt⟩
      have hlen := hl l (List.mem_of_getElem? hll)
      have hkind : ∀ c ∈ l, 0 ≤ c.kind ∧ c.kind ≤ 3 := fun c hc => ⟨(HH.out.2.2.2.2.1 l (List.mem_of_getElem? hll) c hc).1, (HH.out.2.2.2.2.1 l (List.mem_of_getElem? hll) c hc).2.1⟩
      obtain ⟨wo, rfl⟩ : ∃ wo : World, wo = wr := ⟨_, rfl⟩
      have HS0 := Lib.hid (RIn.start wo 1)
      go_wp2_with fail
      go_loopw [12, 13, 14] (fun i12 i13 i14 wr => ∃ (j : Nat) (p12 : Option Addr) (c12 : Nat) (p13 : Option Addr) (c13 : Nat) (row : List PC), i12 = .slice p12 j c12 ∧ i13 = .slice p13 j c13 ∧ i14 = .int .i64 j ∧ j ≤ l.length ∧ Hid (row.length = j ∧ RIn wo wr 1 ((l.take j).map place) (.slice p12 j c12) (.slice p13 j c13) row)) (fun _ _ i14 _ => l.length - (intOf i14).toNat)
      case atStart => exact ⟨0, none, 0, none, 0, [], rfl, rfl, rfl, Nat.zero_le _, Lib.hid ⟨rfl, HS0.out⟩⟩
      case round =>
        clear HS0
        obtain ⟨j, p12, c12, p13, c13, row, rfl, rfl, rfl, hj, HI⟩ := hrel
        have hbw : Below w2.heap.size w2 wr := HO.out.2.bel.trans (HI.out.2.bel.mono HO.out.2.bel.size)
        obtain ⟨b1, o1, u, rfl, e1, p3, c3, rfl, hcc⟩ := HRW.out wr hbw k l hll
        rw [List.length_map] at *
        by_cases hjt : j < l.length
        · obtain ⟨x, hx⟩ : ∃ x, l[j]? = some x := ⟨_, List.getElem?_eq_getElem hjt⟩
          obtain ⟨b2, o2, rfl, hb2, k0, k1, k2, k3⟩ := hcc j (place x) (by rw [List.getElem?_map, hx]; rfl)
          have hxk := hkind x (List.mem_of_getElem? hx)
          have HBG := Lib.hid (begin_any wr 1 (place x) hxk.1 hxk.2)
          clear hcc
          go_wp2_with fail
          refine HBG.out.mono ?_
          rintro e wb ⟨pb, rfl, hpb, hnew, hbb⟩
          obtain ⟨q1, q2, q3, q4, hpr⟩ := pr_form pb (place x)
          obtain ⟨ty, hpv⟩ : ∃ ty, procV pb (place x) = .iface ty (.pointer (some ⟨pb, 0, none⟩)) := ⟨_, rfl⟩
          rw [hpr, hpv]
          have hrl := HI.out.1
          have HIO := HI.out.2
          have hsz := HIO.bel.size
          have p0 := HIO.p.bl hbb
          have s0 := HIO.s.bl hbb
          obtain ⟨w12, hw12⟩ : ∃ w12, w12 = wb.alloc (.cells #[.int .i64 (place x).kind, .pointer q1, .pointer q2, .pointer q3, .pointer q4, .pointer none] 80) := ⟨_, rfl⟩
          have hz12 : w12.heap.size = wb.heap.size + 1 := by rw [hw12]; simp
          have hsz2 : wo.heap.size ≤ w12.heap.size := by have := hbb.size; omega
          have HO12 : Hid ((w12.alloc (.cells [.int .i64 (place x).kind, .pointer q1, .pointer q2, .pointer q3, .pointer q4, .pointer none].toArray 80)).ownsRow wo.heap.size 80 6 (.slice p12 j c12) j (row.flatMap fun z => (prA z.1 z.2).toList)) := by
            have := own_fr p0 (((Fr.refl (fun _ => False) wb).alloc (.cells #[.int .i64 (place x).kind, .pointer q1, .pointer q2, .pointer q3, .pointer q4, .pointer none] 80)).alloc (.cells [.int .i64 (place x).kind, .pointer q1, .pointer q2, .pointer q3, .pointer q4, .pointer none].toArray 80)) (fun _ _ e => e)
            rw [hrl, ← hw12] at this
            exact this
          have htk : (l.take (j + 1)).map place = (l.take j).map place ++ [place x] := by rw [List.take_add_one, hx]; simp
          have HNX : Hid (∀ v' wp, wp.ownsRow wo.heap.size 80 6 v' (j + 1) ((row.flatMap fun z => (prA z.1 z.2).toList) ++ [.int .i64 (place x).kind, .pointer q1, .pointer q2, .pointer q3, .pointer q4, .pointer none]) → (w12.alloc (.cells [.int .i64 (place x).kind, .pointer q1, .pointer q2, .pointer q3, .pointer q4, .pointer none].toArray 80)).grownBy wp (Value.slice p12 j c12).ownBlock →
              ∃ q5 d5, v' = .slice q5 (j + 1) d5 ∧ Hid ((wp.alloc (.cells [.iface ty (.pointer (some ⟨pb, 0, none⟩))].toArray 141)).ownsRow wo.heap.size 141 1 (.slice p13 j c13) j (row.map fun z => procV z.1 z.2)) ∧ wo.heap.size ≤ wp.heap.size ∧
              Hid (∀ v'' w'', w''.ownsRow wo.heap.size 141 1 v'' (j + 1) ((row.map fun z => procV z.1 z.2) ++ [.iface ty (.pointer (some ⟨pb, 0, none⟩))]) → (wp.alloc (.cells [.iface ty (.pointer (some ⟨pb, 0, none⟩))].toArray 141)).grownBy w'' (Value.slice p13 j c13).ownBlock → ∃ q6 d6, v'' = .slice q6 (j + 1) d6 ∧ Hid ((row ++ [(pb, place x)]).length = j + 1 ∧ RIn wo w'' 1 ((l.take (j + 1)).map place) (.slice q5 (j + 1) d5) (.slice q6 (j + 1) d6) (row ++ [(pb, place x)])))) := by
            intro v' wp ho hg
            rw [hw12] at hg
            obtain ⟨q5, d5, rfl⟩ := bk_form ho
            have f1 : Fr (fun b => (Value.slice p12 j c12).ownBlock = some b) wb wp := (((Fr.refl (fun b => (Value.slice p12 j c12).ownBlock = some b) wb).alloc _).alloc _).grown hg (fun k e => .inl e)
            have s1 := s0.fr f1 fun k cs hb e => own_ne p0 hb (by decide) e
            refine ⟨q5, d5, rfl, ?_, Nat.le_trans (Nat.le_trans hsz hbb.size) f1.size, ?_⟩
            · have := own_fr s1 ((Fr.refl (fun _ => False) wp).alloc (.cells [.iface ty (.pointer (some ⟨pb, 0, none⟩))].toArray 141)) (fun _ _ e => e)
              rw [hrl] at this
              exact this
            · intro v'' w'' ho2 hg2
              obtain ⟨q6, d6, rfl⟩ := bk_form ho2
              refine ⟨q6, d6, rfl, by simp [hrl], ?_⟩
              rw [htk]
              exact HIO.next (k := pb) (c := place x) hbb hpb hnew (by rw [hrl, hpr]; exact ho) hg (by rw [hrl, hpv]; exact ho2) hg2
          clear p0 s0 hpr hpv htk hnew HBG
          go_wp2_with (at_builtin; first
            | (rw [← hw12]; refine app_n infoPr Try.underlying73 rfl (by decide) (by decide) rfl _ _ rfl rfl HO12.out rfl hz12.symm rfl (by intro u hu; simp at hu; rcases hu with rfl | rfl | rfl | rfl | rfl | rfl <;> rfl) (by omega) hsz2 ?_; intro v5 w5 ho5 hg5; obtain ⟨q5, d5, rfl, HO13, hsz5, HNX2⟩ := HNX.out v5 w5 ho5 hg5; clear ho5 hg5)
            | (refine app_n infoP Try.underlying139 rfl (by decide) (by decide) rfl _ _ rfl rfl HO13.out rfl rfl rfl (by simp [Value.oneCell']) (by omega) hsz5 ?_; intro v6 w6 ho6 hg6; obtain ⟨q6, d6, rfl, HRI⟩ := HNX2.out v6 w6 ho6 hg6; clear ho6 hg6))
          go_roundw
          case rel => exact ⟨j + 1, q5, d5, q6, d6, _, rfl, rfl, by go_num, by omega, HRI⟩
          case measure => simp [intOf]; omega
        · obtain rfl : j = l.length := by omega
          rw [List.take_length] at HI
          have hO := HO.out.2
          have hpk := HO.out.1
          have hI := HI.out.2
          have hsz := hO.bel.size
          obtain ⟨us, hus⟩ := RowsOf.bl (R := PRow) (fun h hb => PRow.bl h hb) hO.p hI.bel
          obtain ⟨ss, hss⟩ := RowsOf.bl (R := SRow) (fun h hb => SRow.bl h hb) hO.s hI.bel
          have hsz2 : w2.heap.size ≤ wr.heap.size := Nat.le_trans hsz hI.bel.size
          have hu2 := hus.2.1
          rw [hpk] at hu2
          have hs2 := hss.2.1
          rw [hpk] at hs2
          have HO8 : Hid ((wr.alloc (.cells [.slice p12 l.length c12].toArray 73)).ownsRow w2.heap.size 73 1 (.slice p8 k c8) k us) := own_fr hu2 ((Fr.refl (fun _ => False) wr).alloc _) (fun _ _ e => e)
          have htk : (ll.take (k + 1)).map (·.map place) = (ll.take k).map (·.map place) ++ [l.map place] := by rw [List.take_add_one, hll]; simp
          have HNX : Hid (∀ v' wp, wp.ownsRow w2.heap.size 73 1 v' (k + 1) (us ++ [.slice p12 l.length c12]) → (wr.alloc (.cells [.slice p12 l.length c12].toArray 73)).grownBy wp (Value.slice p8 k c8).ownBlock →
              ∃ q5 d5, v' = .slice q5 (k + 1) d5 ∧ Hid ((wp.alloc (.cells [.slice p13 l.length c13].toArray 139)).ownsRow w2.heap.size 139 1 (.slice p9 k c9) k ss) ∧ w2.heap.size ≤ wp.heap.size ∧
              Hid (∀ v'' w'', w''.ownsRow w2.heap.size 139 1 v'' (k + 1) (ss ++ [.slice p13 l.length c13]) → (wp.alloc (.cells [.slice p13 l.length c13].toArray 139)).grownBy w'' (Value.slice p9 k c9).ownBlock → ∃ q6 d6, v'' = .slice q6 (k + 1) d6 ∧ Hid ((pl ++ [row]).length = k + 1 ∧ ROut w2 w'' 1 ((ll.take (k + 1)).map (·.map place)) (.slice q5 (k + 1) d5) (.slice q6 (k + 1) d6) (pl ++ [row])))) := by
            intro v' wp ho hg
            obtain ⟨q5, d5, rfl⟩ := bk_form ho
            have f1 : Fr (fun b => (Value.slice p8 k c8).ownBlock = some b) wr wp := ((Fr.refl (fun b => (Value.slice p8 k c8).ownBlock = some b) wr).alloc _).grown hg (fun k e => .inl e)
            have s1 : wp.ownsRow w2.heap.size 139 1 (.slice p9 k c9) k ss := own_fr hs2 f1 fun g eg e => by
              obtain ⟨cs, hb⟩ := bk_blk hs2 eg
              exact own_ne hu2 hb (by decide) e
            refine ⟨q5, d5, rfl, own_fr s1 ((Fr.refl (fun _ => False) wp).alloc _) (fun _ _ e => e), Nat.le_trans hsz2 f1.size, ?_⟩
            intro v'' w'' ho2 hg2
            obtain ⟨q6, d6, rfl⟩ := bk_form ho2
            refine ⟨q6, d6, rfl, by simp [hpk], ?_⟩
            rw [htk]
            exact hO.next hI hus hss (by rw [hpk]; exact ho) hg (by rw [hpk]; exact ho2) hg2
          clear hus hss hO hI hcc htk hu2 hs2
          go_wp2_with (at_builtin; first
            | (refine app_n infoPrs Try.underlying61 rfl (by decide) (by decide) rfl _ _ rfl rfl HO8.out rfl rfl rfl (by simp [Value.oneCell']) (by omega) hsz2 ?_; intro v5 w5 ho5 hg5; obtain ⟨q5, d5, rfl, HO9, hsz5, HNX2⟩ := HNX.out v5 w5 ho5 hg5; clear ho5 hg5)
            | (refine app_n infoSs Try.underlying138 rfl (by decide) (by decide) rfl _ _ rfl rfl HO9.out rfl rfl rfl (by simp [Value.oneCell']) (by omega) hsz5 ?_; intro v6 w6 ho6 hg6; obtain ⟨q6, d6, rfl, HRO⟩ := HNX2.out v6 w6 ho6 hg6; clear ho6 hg6))
          go_roundw
          case rel => exact ⟨k + 1, q5, d5, q6, d6, _, rfl, rfl, by go_num, by omega, HRO⟩
          case measure => simp [intOf]; omega
    · obtain rfl : k = ll.length := by omega
      rw [List.take_length] at HO
      have hO := HO.out.2
      have hpk := HO.out.1
      obtain ⟨hOw, hsane, htr, hZ0, hck, hpv⟩ := HH.out
      have hplr : ∀ row ∈ pl, row.length ≤ 4096 := by
        intro row hr
        obtain ⟨k, hk, rfl⟩ := List.getElem_of_mem hr
        have hc := hO.cl
        have h1 : (clsOf pl)[k]? = some (pl[k].map (·.2)) := by unfold clsOf; rw [List.getElem?_map, List.getElem?_eq_getElem hk]; rfl
        rw [hc, List.getElem?_map] at h1
        cases hl2 : ll[k]? with
        | none => rw [hl2] at h1; cases h1
        | some l =>
          rw [hl2] at h1
          injection h1 with h1
          have h2 := congrArg List.length h1
          simp at h2
          have := hl l (List.mem_of_getElem? hl2)
          omega
      have hcls : ∀ l ∈ clsOf pl, ∀ c ∈ l, ClOK c := by
        rw [hO.cl]
        intro l hl2 c hc
        obtain ⟨l0, hl0, rfl⟩ := List.mem_map.1 hl2
        obtain ⟨c0, hc0, rfl⟩ := List.mem_map.1 hc
        obtain ⟨a1, a2, a3, a4, a5⟩ := hck l0 hl0 c0 hc0
        exact ⟨a1, a2, by show 0 ≤ 2 + c0.obj % 3; have := Int.emod_nonneg c0.obj (show (3 : Int) ≠ 0 by decide); omega, a4, a5⟩
      have hbw : Below w2.heap.size w2 wr := hO.bel
      have HOw2 : Own W w2 F bm A := hOw.bel HB.out
      have HZ2 : ∀ b, Z0 b → W.heap.size ≤ b ∧ b < w2.heap.size ∧ ¬ F b := fun b hb => ⟨(hZ0 b hb).1, Nat.lt_of_lt_of_le (hZ0 b hb).2.1 HB.out.size, (hZ0 b hb).2.2⟩
      have hNew := New_ok (w := wr) (bm := bm) (ps := pl.map (·.map fun z => procV z.1 z.2)) (p := p9) (c := c9) (by have := SAll.reads2 hO.s; rw [List.length_map, hpk]; exact this) (by rw [List.length_map]; omega) (by unfold tooLong; rw [List.any_eq_false]; intro l hl2; obtain ⟨row, hr, rfl⟩ := List.mem_map.1 hl2; have := hplr row hr; simp; omega) (by intro l hl2 x hx; obtain ⟨row, hr, rfl⟩ := List.mem_map.1 hl2; obtain ⟨z, hz, rfl⟩ := List.mem_map.1 hx; rfl)
      rw [List.length_map, hpk] at hNew
      have HNW := Lib.hid hNew
      clear hNew
      go_wp2_with fail
      refine HNW.out.mono ?_
      rintro e wn ⟨rp, rfl, T, vws, rcs, tv, hN⟩
      have hN' : NewAt wr wn rp bm (pl.map (·.map fun z => procV z.1 z.2)) pl.length T vws rcs tv := by rw [hpk]; exact hN
      obtain ⟨hVI, hvl⟩ := VI.start HOw2 HZ2 hO hN'
      have c1 := HCE.out wn (hbw.trans (hN.bel.mono hbw.size))
      have hRN := Run_picks hVI (zero_ok hsane n htr) hcls (by omega) (by omega) hplr (by omega) hvs (by decide) hpv
      have HRN := Lib.hid hRN
      have HFIN : Hid (∀ wf, VI W bm vws 1 pl rp (Zr w2 wr Z0) wr (0 + vs.length) ((Sv.zero A pl).many 1 (clsOf pl) vs) wf → PAll wf w2.heap.size (.slice p8 ll.length c8) pl ∧ VI W bm vws 1 pl rp (Zr w2 wr Z0) wr vs.length ((Sv.zero A pl).many 1 (clsOf pl) vs) wf) := by
        intro wf hv
        rw [Nat.zero_add] at hv
        refine ⟨PAll.keep hO.p fun g cs hb hx => ?_, hv⟩
        obtain ⟨R, E, T, evs, ats, _, _, _, _, _, hz⟩ := hv
        exact (hz g (.inr ⟨hb, cs, hx⟩)).2.2.2
      have HCL := Lib.hid hO.cl
      have HBW := Lib.hid (HB.out.trans (hbw.mono HB.out.size))
      have HBS := Lib.hid HB.out.size
      have HVL := Lib.hid hvl
      clear hN hN' hVI hRN hO hOw hZ0 HOw2 HZ2 hck hpv hcls hplr HNW HO HH HRW HCE
      go_wp2_with fail
      refine HRN.out.mono ?_
      rintro e wf ⟨rfl, hv⟩
      obtain ⟨hpa, hv2⟩ := HFIN.out wf hv
      have HE := Lib.hid (And.intro hpa hv2)
      clear hpa hv2 hv
      go_wp2_with fail
      go_ret2
      exact ⟨p8, c8, rp, vws, pl, wr, w2, rfl, HCL.out, HBS.out, HE.out.1, HE.out.2, by rw [HVL.out]; exact Nat.le_refl _, HBW.out⟩
end
end Go.Proofs.Ytenlgfagfpaenaa

/-
  The calls of a run as they come in; those that are built anew; honest, runs, placed. No condition.
-/
import Derived.Test.YtenlgfagfpaenaaVrI
import Derived.Test.YtenlgfagfpaenaaStNew
import Derived.Maps.AppendAt
namespace Go.Proofs.Ytenlgfagfpaenaa
open Go Go.RowKit
set_option linter.unusedSimpArgs false
set_option linter.unusedVariables false
theorem app_n {e t : TypeId} {z : Value} {size bytes : Nat} (hinfo : (Try.prog.info? e).map (fun i => (i.zero, i.size, i.bytes)) = some (some z, size, bytes)) (ht : Try.prog.underlying t = some (.slice e)) (hz : z.cells.size = size) (hsz : 0 < size) (hby : bytes ≤ 64)
    {ops : Array Oper} {rest : List Oper} {o : Oper} {a : Act} {Q : Exit → Act → World → Prop} {w12 : World} {v : Value} {cs : List Value} {base n : Nat} {xs : List Value} (hgd : o.guard = none) (s x : Operand)
    (ho : o.op = .call { callee := .builtin .append, args := #[s, x], argTypes := #[t, t] }) (hs : a.eval s = v)
    (hown : (w12.alloc (.cells cs.toArray e)).ownsRow base e size v n xs) {bn : Nat} (hx : a.eval x = .slice (some ⟨bn, 0, none⟩) 1 1) (hbn : bn = w12.heap.size) (hcl : cs.length = size) (h1 : ∀ u ∈ cs, u.oneCell' = true) (hn : n ≤ 1000000000) (hbase : base ≤ w12.heap.size)
    (h : ∀ v' w', w'.ownsRow base e size v' (n + 1) (xs ++ cs) → (w12.alloc (.cells cs.toArray e)).grownBy w' v.ownBlock → wpList Try.prog ops Q rest (a.put o.dst v') w') :
    wpList Try.prog ops Q (o :: rest) a (w12.alloc (.cells cs.toArray e)) := by
  subst hbn
  obtain ⟨i0, hi, hz0, hz1, hz2⟩ := info_parts hinfo
  have hbb : (n + 1) * bytes ≤ 140737488355328 := by
    have : (n + 1) * bytes ≤ 1000000001 * 64 := Nat.mul_le_mul (by omega) hby
    omega
  refine wpList_append_own_at _ hgd s x t ho base e i0 z size bytes ht hi hz0 hz1 hz2 hz hsz v n xs hs hown ⟨w12.heap.size, 0, none⟩ 1 1 cs hx (by rw [hcl]; omega) (fun j u hu => World.news_of_block (heap_alloc_new _ _) j u (by simpa using hu)) h1 (by unfold maxLen; omega) hbb (by simp; omega) ?_
  intro v' w' k1 k2 _ _
  exact h v' w' k1 k2

theorem ownRow_lo {w : World} {B B' n k : Nat} {t : TypeId} {v : Value} {xs : List Value} (h : w.ownsRow B t k v n xs) (hB : B' ≤ B) : w.ownsRow B' t k v n xs := by
  refine ⟨h.1, ?_⟩
  rcases h.2 with h | ⟨g, cap, cur, h1, h2, h3⟩
  · exact .inl h
  · exact .inr ⟨g, cap, cur, h1, Nat.le_trans hB h2, h3⟩
/-- a row of calls, wherever it lies -/
def RdC (w : World) (v : Value) (l : List Cl) : Prop := ∃ p c, v = .slice p l.length c ∧ ∀ (k : Nat) x, l[k]? = some x → ∃ b o, p = some ⟨b, o, none⟩ ∧ b < w.heap.size ∧ w.cell? ⟨b, o + k * 4, none⟩ = some (.int .i64 x.kind) ∧ w.cell? ⟨b, o + k * 4 + 1, none⟩ = some (.int .u64 x.obj) ∧ w.cell? ⟨b, o + k * 4 + 2, none⟩ = some (.int .u64 x.a) ∧ w.cell? ⟨b, o + k * 4 + 3, none⟩ = some (.int .u64 x.b)
def RdT (w : World) (v : Value) (ll : List (List Cl)) : Prop := ∃ p c, v = .slice p ll.length c ∧ ∀ (k : Nat) l, ll[k]? = some l → ∃ b o u, p = some ⟨b, o, none⟩ ∧ b < w.heap.size ∧ w.cell? ⟨b, o + k, none⟩ = some u ∧ RdC w u l
def clC (c : Cl) : List Value := [.int .i64 c.kind, .int .u64 c.obj, .int .u64 c.a, .int .u64 c.b]
/-- one of one's own -/
def CRow (w : World) (base : Nat) (v : Value) (l : List Cl) : Prop := w.ownsRow base 76 4 v l.length (l.flatMap clC)
def CAll (w : World) (base : Nat) (v : Value) (ll : List (List Cl)) : Prop := ∃ us : List Value, us.length = ll.length ∧ w.ownsRow base 77 1 v ll.length us ∧ ∀ (i : Nat) u l, us[i]? = some u → ll[i]? = some l → CRow w base u l
/-- an object is one of the three behind the camera -/
def place (c : Cl) : Cl := { c with obj := 2 + c.obj % 3 }
section
variable {W w w' w1 : World} {base base' : Nat} {v v' u : Value} {S : Nat → Prop} {i k : Nat} {l : List Cl} {ll : List (List Cl)}
theorem RdC.below (h : RdC w v l) (hb : Below w.heap.size w w') : RdC w' v l := by
  obtain ⟨p, c, rfl, h⟩ := h
  refine ⟨p, c, rfl, fun k x hk => ?_⟩
  obtain ⟨b, o, h1, h2, c0, c1, c2, c3⟩ := h k x hk
  exact ⟨b, o, h1, Nat.lt_of_lt_of_le h2 hb.size, (hb.cell (p := ⟨b, _, none⟩) h2).trans c0, (hb.cell (p := ⟨b, _, none⟩) h2).trans c1, (hb.cell (p := ⟨b, _, none⟩) h2).trans c2, (hb.cell (p := ⟨b, _, none⟩) h2).trans c3⟩
theorem RdT.below (h : RdT w v ll) (hb : Below w.heap.size w w') : RdT w' v ll := by
  obtain ⟨p, c, rfl, h⟩ := h
  refine ⟨p, c, rfl, fun k x hk => ?_⟩
  obtain ⟨b, o, u, h1, h2, c0, hr⟩ := h k x hk
  exact ⟨b, o, u, h1, Nat.lt_of_lt_of_le h2 hb.size, (hb.cell (p := ⟨b, _, none⟩) h2).trans c0, hr.below hb⟩
theorem fm_get {α β : Type} (f : α → List β) (c : Nat) (hc : ∀ x, (f x).length = c) : ∀ (rows : List α) (k j : Nat) (x : α), rows[k]? = some x → j < c → (rows.flatMap f)[k * c + j]? = (f x)[j]?
  | [], k, j, x, h, _ => by simp at h
  | y :: rows, 0, j, x, h, hj => by
    have h : y = x := by simpa using h
    subst h
    rw [List.flatMap_cons, Nat.zero_mul, Nat.zero_add, List.getElem?_append_left (by rw [hc]; exact hj)]
  | y :: rows, k + 1, j, x, h, hj => by
    have h : rows[k]? = some x := by simpa using h
    rw [List.flatMap_cons, List.getElem?_append_right (by rw [hc, Nat.add_mul]; omega), hc]
    rw [show (k + 1) * c + j - c = k * c + j by rw [Nat.add_mul]; omega]
    exact fm_get f c hc rows k j x h hj
theorem grow_bel {w0 : World} {B : Nat} {o : Obj} (h : Below B w0 w) (hB : B ≤ w.heap.size) (hb : ∀ g, v.ownBlock = some g → B ≤ g) (hg : (w.alloc o).grownBy w' v.ownBlock) : Below B w0 w' := by
  have f : Fr (fun b => v.ownBlock = some b) w w' := ((Fr.refl (fun b => v.ownBlock = some b) w).alloc o).grown hg (fun k e => .inl e)
  exact h.trans (f.to_below hB fun k hk e => by have := hb k e; omega)
theorem own_at {e : TypeId} {size n : Nat} {xs : List Value} (h : w.ownsRow base e size v n xs) : ∃ p c, v = .slice p n c ∧ (p = none → c = 0) ∧ ∀ (j : Nat) y, xs[j]? = some y → ∃ g, p = some ⟨g, 0, none⟩ ∧ g < w.heap.size ∧ w.cell? ⟨g, j, none⟩ = some y := by
  rcases id h.2 with ⟨rfl, h2⟩ | ⟨g, cap, cur, rfl, -, hb, -⟩
  · subst h2
    refine ⟨none, 0, rfl, fun _ => rfl, fun j y hj => ?_⟩
    have := (List.getElem?_eq_some_iff.1 hj).1
    have := h.1
    omega
  · exact ⟨some ⟨g, 0, none⟩, cap, rfl, (by intro e; cases e), fun j y hj => ⟨g, rfl, own_lt h rfl, own_cell h hj⟩⟩
theorem CRow.rd (h : CRow w base v l) : RdC w v l := by
  obtain ⟨p, c, rfl, _, hc⟩ := own_at h
  refine ⟨p, c, rfl, fun k x hk => ?_⟩
  have g : ∀ j, j < 4 → (l.flatMap clC)[k * 4 + j]? = (clC x)[j]? := fun j hj => fm_get clC 4 (fun _ => rfl) l k j x hk hj
  obtain ⟨b, e, hl, c0⟩ := hc _ _ ((g 0 (by decide)).trans rfl)
  subst e
  have at_ : ∀ j y, j < 4 → (clC x)[j]? = some y → w.cell? ⟨b, k * 4 + j, none⟩ = some y := fun j y hj hy => by
    obtain ⟨b', e, _, c1⟩ := hc _ _ ((g j hj).trans hy)
    injection e with e; injection e with e; subst e; exact c1
  exact ⟨b, 0, rfl, hl, by simpa using at_ 0 _ (by decide) rfl, by simpa [Nat.add_assoc] using at_ 1 _ (by decide) rfl, by simpa [Nat.add_assoc] using at_ 2 _ (by decide) rfl, by simpa [Nat.add_assoc] using at_ 3 _ (by decide) rfl⟩
theorem CAll.rd (h : CAll w base v ll) : RdT w v ll := by
  obtain ⟨us, hl, ho, hr⟩ := h
  obtain ⟨p, c, rfl, _, hc⟩ := own_at ho
  refine ⟨p, c, rfl, fun k l hk => ?_⟩
  obtain ⟨u, hu⟩ : ∃ u, us[k]? = some u := ⟨_, List.getElem?_eq_getElem (by rw [hl]; exact (List.getElem?_eq_some_iff.1 hk).1)⟩
  obtain ⟨b, e, hlt, c0⟩ := hc k u hu
  exact ⟨b, 0, u, e, hlt, by simpa using c0, (hr k u l hu hk).rd⟩
theorem CRow.fr (h : CRow w base v l) (hf : Fr S w w') (hS : ∀ k cs, Blk w k 76 cs → ¬ S k) : CRow w' base v l := own_fr h hf fun g eg => by obtain ⟨cs, hb⟩ := bk_blk h eg; exact hS g cs hb
theorem CAll.bl (h : CAll w base v ll) (hb : Below w.heap.size w w') : CAll w' base v ll := by
  have hf : Fr (fun _ => False) w w' := Fr.of_below hb
  obtain ⟨us, hl, ho, hr⟩ := h
  exact ⟨us, hl, own_fr ho hf (fun _ _ e => e), fun i u l h1 h2 => (hr i u l h1 h2).fr hf (fun _ _ _ e => e)⟩
theorem CAll.push {o : Obj} (h : CAll w base v ll) {us : List Value} (hown : w'.ownsRow base 77 1 v' (ll.length + 1) (us ++ [u])) (hus : us.length = ll.length ∧ w.ownsRow base 77 1 v ll.length us ∧ ∀ (i : Nat) u l, us[i]? = some u → ll[i]? = some l → CRow w base u l) (hg : (w.alloc o).grownBy w' v.ownBlock) (hr : CRow w base u l) : CAll w' base v' (ll ++ [l]) := by
  obtain ⟨h1, h2, h3⟩ := hus
  have f : Fr (fun b => v.ownBlock = some b) w w' := ((Fr.refl (fun b => v.ownBlock = some b) w).alloc o).grown hg (fun k e => .inl e)
  have hS : ∀ k cs, Blk w k 76 cs → ¬ v.ownBlock = some k := fun k cs hb e => own_ne h2 hb (by decide) e
  refine ⟨us ++ [u], by simp [h1], by rw [List.length_append]; exact hown, fun i u2 l2 q1 q2 => ?_⟩
  rcases Nat.lt_or_ge i us.length with hi | hi
  · rw [List.getElem?_append_left hi] at q1
    rw [List.getElem?_append_left (by omega)] at q2
    exact (h3 i u2 l2 q1 q2).fr f hS
  · rw [List.getElem?_append_right hi] at q1
    rw [List.getElem?_append_right (by omega)] at q2
    obtain rfl : i = us.length := by
      have := (List.getElem?_eq_some_iff.1 q1).1
      simp at this; omega
    rw [Nat.sub_self] at q1
    rw [← h1, Nat.sub_self] at q2
    injection q1 with q1
    injection q2 with q2
    subst q1 q2
    exact hr.fr f hS
theorem infoCall : (Try.prog.info? 76).map (fun i => (i.zero, i.size, i.bytes)) = some (some (.agg #[.int .i64 0, .int .u64 0, .int .u64 0, .int .u64 0]), 4, 32) := by kernel_rfl
theorem infoCalls : (Try.prog.info? 77).map (fun i => (i.zero, i.size, i.bytes)) = some (some (.slice none 0 0), 1, 24) := by kernel_rfl
set_option maxHeartbeats 2000000 in
set_option maxRecDepth 100000 in
theorem placed_any (h : RdT w v ll) (hn : ll.length ≤ 1048576) (hl : ∀ l ∈ ll, l.length ≤ 1048576) (h0 : ∀ l ∈ ll, ∀ c ∈ l, 0 ≤ c.obj) :
    Calls Try.prog 42 #[.int .u64 1, v] w fun e w' => ∃ v', e = .returned v' ∧ CAll w' w.heap.size v' (ll.map (·.map place)) ∧ Below w.heap.size w w' := by
  have HR := Lib.hid h
  obtain ⟨p, c, rfl, -⟩ := h
  go_enter Try.func42, Try.ntmps42
  go_wp2_with fail
  go_loopw [5, 6] (fun i5 i6 wr => ∃ (k : Nat) (q : Option Addr) (d : Nat), i5 = .slice q k d ∧ i6 = .int .i64 k ∧ k ≤ ll.length ∧ Hid (CAll wr w.heap.size (.slice q k d) ((ll.take k).map (·.map place))) ∧ Hid (Below w.heap.size w wr)) (fun _ i6 _ => ll.length - (intOf i6).toNat)
  case atStart => exact ⟨0, none, 0, rfl, rfl, Nat.zero_le _, Lib.hid ⟨[], rfl, World.ownsRow_nil _ _ _ _, fun i u l h => by simp at h⟩, Below.refl _ _⟩
  case round =>
    obtain ⟨k, q, d, rfl, rfl, hk, HA, HB⟩ := hrel
    by_cases hlt : k < ll.length
    · obtain ⟨l, hll⟩ : ∃ l, ll[k]? = some l := ⟨_, List.getElem?_eq_getElem hlt⟩
      have hlen := hl l (List.mem_of_getElem? hll)
      have hob := h0 l (List.mem_of_getElem? hll)
      have HRW : Hid (∀ wx, Below w.heap.size w wx → ∃ b o u, p = some ⟨b, o, none⟩ ∧ wx.cell? ⟨b, o + k, none⟩ = some u ∧ RdC wx u l) := by
        intro wx hb
        obtain ⟨p', c', e, hc⟩ := HR.out.below hb
        injection e with e1 _ e3
        subst e1
        obtain ⟨b, o, u, h1, _, h3, h4⟩ := hc k l hll
        exact ⟨b, o, u, h1, h3, h4⟩
      have hsz := HB.out.size
      obtain ⟨wo, rfl⟩ : ∃ wo : World, wo = wr := ⟨_, rfl⟩
      go_wp2_with fail
      go_loopw [7, 8] (fun i7 i8 wx => ∃ (j : Nat) (q2 : Option Addr) (d2 : Nat), i7 = .slice q2 j d2 ∧ i8 = .int .i64 j ∧ j ≤ l.length ∧ Hid (CRow wx wo.heap.size (.slice q2 j d2) ((l.take j).map place)) ∧ Hid (Below wo.heap.size wo wx)) (fun _ i8 _ => l.length - (intOf i8).toNat)
      case atStart => exact ⟨0, none, 0, rfl, rfl, Nat.zero_le _, Lib.hid (World.ownsRow_nil _ _ _ _), Below.refl _ _⟩
      case round =>
        obtain ⟨j, q2, d2, rfl, rfl, hj, HI, HBI⟩ := hrel
        obtain ⟨b1, o1, u, e1, c1, hru⟩ := HRW.out wr (HB.out.trans (HBI.out.mono hsz))
        obtain ⟨p3, c3, rfl, hcc⟩ := hru
        subst e1
        by_cases hjt : j < l.length
        · obtain ⟨x, hx⟩ : ∃ x, l[j]? = some x := ⟨_, List.getElem?_eq_getElem hjt⟩
          obtain ⟨b2, o2, e2, hb2, k0, k1, k2, k3⟩ := hcc j x hx
          subst e2
          have hx0 := hob x (List.mem_of_getElem? hx)
          have hm0 : 0 ≤ x.obj % 3 := Int.emod_nonneg _ (by decide)
          have hm1 : x.obj % 3 < 3 := Int.emod_lt_of_pos _ (by decide)
          have hlen0 : (l.take j).length = j := by rw [List.length_take]; omega
          clear hcc
          obtain ⟨w12, hw12⟩ : ∃ w12, w12 = wr.alloc (.cells #[.int .i64 x.kind, .int .u64 (2 + x.obj % 3), .int .u64 x.a, .int .u64 x.b] 76) := ⟨_, rfl⟩
          have hf12 : Fr (fun _ => False) wr w12 := by
            rw [hw12]
            exact (Fr.refl (fun _ => False) wr).alloc _
          have hI12 : CRow w12 wo.heap.size (.slice q2 j d2) ((l.take j).map place) := own_fr HI.out hf12 (fun _ _ e => e)
          have hll2 : ((l.take j).map place).length = j := by rw [List.length_map]; exact hlen0
          have HOA : Hid ((w12.alloc (.cells (clC (place x)).toArray 76)).ownsRow wo.heap.size 76 4 (.slice q2 j d2) j (((l.take j).map place).flatMap clC)) := by
            have := own_fr hI12 ((Fr.refl (fun _ => False) w12).alloc (.cells (clC (place x)).toArray 76)) (fun _ _ e => e)
            rw [hll2] at this
            exact this
          have hsz2 : wo.heap.size ≤ w12.heap.size := Nat.le_trans HBI.out.size hf12.size
          have HNX : Hid (∀ v' w', w'.ownsRow wo.heap.size 76 4 v' (j + 1) (((l.take j).map place).flatMap clC ++ clC (place x)) → (w12.alloc (.cells (clC (place x)).toArray 76)).grownBy w' (Value.slice q2 j d2).ownBlock → ∃ q3 d3, v' = .slice q3 (j + 1) d3 ∧ CRow w' wo.heap.size (.slice q3 (j + 1) d3) ((l.take (j + 1)).map place) ∧ Below wo.heap.size wo w') := by
            intro v' w' ho hg
            obtain ⟨q3, d3, rfl⟩ := bk_form ho
            have he : (l.take (j + 1)).map place = (l.take j).map place ++ [place x] := by rw [List.take_add_one, hx]; simp
            refine ⟨q3, d3, rfl, ?_, ?_⟩
            · show w'.ownsRow _ _ 4 _ _ _
              rw [he, List.flatMap_append, List.length_append, hll2]
              simpa using ho
            · exact grow_bel (HBI.out.trans (hf12.to_below HBI.out.size (fun _ _ e => e))) hsz2 (fun g eg => (World.ownsRow.lt hI12 g eg).1) hg
          clear hI12 hf12
          have hz12 : w12.heap.size = wr.heap.size + 1 := by rw [hw12]; simp
          go_wp2_with (at_builtin; go_loud (rw [← hw12]; refine app_n infoCall Try.underlying77 rfl (by decide) (by decide) rfl _ _ rfl rfl HOA.out rfl hz12.symm rfl (by intro u hu; simp [clC] at hu; rcases hu with rfl | rfl | rfl | rfl <;> rfl) (by omega) hsz2 ?_; intro v5 w5 ho5 hg5; obtain ⟨q3, d3, rfl, hc5, hb5⟩ := HNX.out v5 w5 ho5 hg5))
          have HC5 := Lib.hid hc5
          have HB5 := Lib.hid hb5
          clear ho5 hg5 hc5 hb5 HOA HNX
          go_wp2_with fail
          go_roundw
          case rel => exact ⟨j + 1, q3, d3, rfl, by go_num, by omega, HC5, HB5⟩
          case measure => simp [intOf]; omega
        · obtain rfl : j = l.length := by omega
          rw [List.take_length] at HI
          have hllk : ((ll.take k).map (·.map place)).length = k := by rw [List.length_map, List.length_take]; omega
          obtain ⟨us, hus⟩ := HA.out.bl HBI.out
          have hus' := hus
          rw [hllk] at hus'
          have HOA : Hid ((wr.alloc (.cells #[.slice q2 l.length d2] 77)).ownsRow w.heap.size 77 1 (.slice q k d) k us) := own_fr hus'.2.1 ((Fr.refl (fun _ => False) wr).alloc _) (fun _ _ e => e)
          have hsz2 : w.heap.size ≤ wr.heap.size := Nat.le_trans hsz HBI.out.size
          have HNX : Hid (∀ v' w', w'.ownsRow w.heap.size 77 1 v' (k + 1) (us ++ [.slice q2 l.length d2]) → (wr.alloc (.cells #[.slice q2 l.length d2] 77)).grownBy w' (Value.slice q k d).ownBlock → ∃ q3 d3, v' = .slice q3 (k + 1) d3 ∧ CAll w' w.heap.size (.slice q3 (k + 1) d3) ((ll.take (k + 1)).map (·.map place)) ∧ Below w.heap.size w w') := by
            intro v' w' ho hg
            obtain ⟨q3, d3, rfl⟩ := bk_form ho
            have he : (ll.take (k + 1)).map (·.map place) = (ll.take k).map (·.map place) ++ [l.map place] := by rw [List.take_add_one, hll]; simp
            refine ⟨q3, d3, rfl, ?_, grow_bel (HB.out.trans (HBI.out.mono hsz)) hsz2 (fun g eg => (World.ownsRow.lt hus.2.1 g eg).1) hg⟩
            rw [he]
            refine CAll.push (u := .slice q2 l.length d2) ⟨us, hus⟩ (by rw [hllk]; exact ho) hus hg ?_
            have h3 : CRow wr wo.heap.size (.slice q2 l.length d2) (l.map place) := HI.out
            exact ownRow_lo h3 hsz
          clear hus hus'
          go_wp2_with (at_builtin; refine app_n (cs := [.slice q2 l.length d2]) infoCalls Try.underlying53 rfl (by decide) (by decide) rfl _ _ rfl rfl HOA.out rfl rfl rfl (by simp [Value.oneCell']) (by omega) hsz2 ?_; intro v5 w5 ho5 hg5; obtain ⟨q3, d3, rfl, hc5, hb5⟩ := HNX.out v5 w5 ho5 hg5)
          have HC5 := Lib.hid hc5
          have HB5 := Lib.hid hb5
          clear ho5 hg5 hc5 hb5 HOA HNX
          go_wp2_with fail
          go_roundw
          case rel => exact ⟨k + 1, q3, d3, rfl, by go_num, by omega, HC5, HB5⟩
          case measure => simp [intOf]; omega
    · obtain rfl : k = ll.length := by omega
      rw [List.take_length] at HA
      go_wp2
      go_ret
      exact ⟨_, rfl, HA.out, HB.out⟩
end
end Go.Proofs.Ytenlgfagfpaenaa

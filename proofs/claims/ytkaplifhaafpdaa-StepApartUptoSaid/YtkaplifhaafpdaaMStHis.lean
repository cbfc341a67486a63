/-
  The events of any picks are a history's. No condition.
-/
import Derived.Test.YtkaplifhaafpdaaM37
namespace Go.Proofs.Ytkaplifhaafpdaa
open Go Go.RowKit
set_option linter.unusedSimpArgs false
set_option linter.unusedVariables false
/-- has the thread's last call not returned? -/
def opn (l : List Ev) (t : Int) : Bool := l.foldl (fun o y => if y.thread = t then !y.ret else o) false
/-- how many calls has the thread begun? -/
def cls (l : List Ev) (t : Int) : Nat := l.foldl (fun c y => if y.thread = t then (if y.ret then c else c + 1) else c) 0
theorem opn_snoc (l : List Ev) (y : Ev) (t : Int) : opn (l ++ [y]) t = if y.thread = t then !y.ret else opn l t := by simp [opn]
theorem cls_snoc (l : List Ev) (y : Ev) (t : Int) : cls (l ++ [y]) t = if y.thread = t then (if y.ret then cls l t else cls l t + 1) else cls l t := by simp [cls]
/-- an event behind these -/
structure Chk (l : List Ev) (e : Ev) : Prop where
  st : 0 ≤ e.step
  ret : e.ret = opn l e.thread
  idx : e.index = if opn l e.thread then (cls l e.thread : Int) - 1 else cls l e.thread
  prev : ∀ p, l.getLast? = some p → p.step < e.step ∨ (p.step = e.step ∧ e.ret = true ∧ p.ret = false ∧ p.thread = e.thread)
def Hist (l : List Ev) : Prop := ∀ (i : Nat) e, l[i]? = some e → Chk (l.take i) e
theorem Hist.snoc {l : List Ev} {y : Ev} (h : Hist l) (hc : Chk l y) : Hist (l ++ [y]) := by
  intro i e he
  rcases Nat.lt_trichotomy i l.length with hi | hi | hi
  · rw [List.getElem?_append_left hi] at he
    rw [List.take_append_of_le_length (by omega)]
    exact h i e he
  · subst hi
    simp at he
    subst he
    simpa using hc
  · rw [List.getElem?_eq_none (by simp; omega)] at he
    cases he
section
variable {ll : List (List Plan)} {s : St} {t : Nat} {x : TS} {p : Plan} {l : List Plan}
/-- the threads' states tell what the events say -/
structure HI (s : St) : Prop where
  hist : Hist s.evs
  lt : ∀ e ∈ s.evs, e.step < s.steps
  th : ∀ (t : Nat) x, s.th[t]? = some x → cls s.evs t = x.call + (if x.at_ = 0 then 0 else 1) ∧ opn s.evs t = decide (x.at_ ≠ 0)
theorem HI.start (ll : List (List Plan)) (A : Mem) : HI (St.start ll A) := by
  refine ⟨fun i e h => ?_, fun e h => ?_, fun t x hx => ?_⟩
  · have h : ([] : List Ev)[i]? = some e := h
    simp at h
  · have h : e ∈ ([] : List Ev) := h
    simp at h
  · simp only [St.start, List.getElem?_map] at hx
    cases hl : ll[t]? with
    | none => rw [hl] at hx; cases hx
    | some l => rw [hl] at hx; injection hx with hx; subst hx; exact ⟨rfl, rfl⟩
theorem HI.one (h : HI s) (t : Int) : HI (s.one ll t) := by
  cases hi : s.idle ll t
  · obtain ⟨k, x, p, rfl, h1, h2⟩ := idle_false hi
    rw [h2]
    obtain ⟨hx, l, hl, hp⟩ := at_some h1
    obtain ⟨c1, o1⟩ := h.th k x hx
    -- the call's event
    have hb : Hist (s.began k x) ∧ (∀ e ∈ s.began k x, e.step ≤ s.steps) ∧ (∀ e, (s.began k x).getLast? = some e → e.step < s.steps ∨ (e.step = s.steps ∧ e.ret = false ∧ e.thread = k)) ∧ cls (s.began k x) k = x.call + 1 ∧ opn (s.began k x) k = true ∧ (∀ u : Nat, u ≠ k → cls (s.began k x) u = cls s.evs u ∧ opn (s.began k x) u = opn s.evs u) := by
      unfold St.began
      by_cases h0 : x.at_ = 0
      · rw [if_pos h0]
        rw [if_pos h0] at c1
        have o2 : opn s.evs k = false := by rw [o1, h0]; rfl
        refine ⟨h.hist.snoc ⟨by simp, by simp [o2], by simp [o2, c1], fun e he => .inl ?_⟩, fun e he => ?_, fun e he => ?_, ?_, ?_, fun u hu => ⟨?_, ?_⟩⟩
        · exact h.lt e (List.mem_of_getLast? he)
        · rcases List.mem_append.1 he with he | he
          · have := h.lt e he; omega
          · rw [List.mem_singleton] at he; subst he; exact Int.le_refl _
        · simp at he
          subst he
          exact .inr ⟨rfl, rfl, rfl⟩
        · rw [cls_snoc]; simp [c1]
        · rw [opn_snoc]; simp
        · rw [cls_snoc, if_neg (by simp; omega)]
        · rw [opn_snoc, if_neg (by simp; omega)]
      · rw [if_neg h0]
        rw [if_neg h0] at c1
        refine ⟨h.hist, fun e he => by have := h.lt e he; omega, fun e he => .inl (h.lt e (List.mem_of_getLast? he)), c1, by rw [o1]; simp [h0], fun u hu => ⟨rfl, rfl⟩⟩
    obtain ⟨b1, b2, b3, b4, b5, b6⟩ := hb
    have hth : ∀ (u : Nat) y, (s.th.set k (x.next (s.says (p.act x.at_)) (p.dn x.at_)))[u]? = some y → (u = k ∧ y = x.next (s.says (p.act x.at_)) (p.dn x.at_)) ∨ (u ≠ k ∧ s.th[u]? = some y) := by
      intro u y hy
      by_cases e : k = u
      · subst e
        rw [List.getElem?_set_self (List.getElem?_eq_some_iff.1 hx).1] at hy
        injection hy with hy
        exact .inl ⟨rfl, hy.symm⟩
      · rw [List.getElem?_set_ne e] at hy
        exact .inr ⟨fun e2 => e e2.symm, hy⟩
    cases hd : p.dn x.at_
    · refine ⟨?_, ?_, fun u y hy => ?_⟩
      · show Hist (if p.dn x.at_ then _ else _)
        rw [hd]; exact b1
      · intro e he
        have he : e ∈ (if p.dn x.at_ then s.began k x ++ [⟨s.steps, k, x.call, true⟩] else s.began k x) := he
        rw [hd] at he
        have := b2 e he
        show e.step < ((s.steps + 1 : Nat) : Int)
        omega
      · show cls (if p.dn x.at_ then _ else _) _ = _ ∧ opn (if p.dn x.at_ then _ else _) _ = _
        rw [hd]
        rcases hth u y hy with ⟨rfl, rfl⟩ | ⟨hu, hy⟩
        · rw [hd]
          refine ⟨by simp only [Bool.false_eq_true, if_false]; rw [b4]; simp [TS.next], by simp only [Bool.false_eq_true, if_false]; rw [b5]; simp [TS.next]⟩
        · obtain ⟨c, o⟩ := h.th u y hy
          obtain ⟨d1, d2⟩ := b6 u hu
          simp only [Bool.false_eq_true, if_false]
          rw [d1, d2]; exact ⟨c, o⟩
    · refine ⟨?_, ?_, fun u y hy => ?_⟩
      · show Hist (if p.dn x.at_ then _ else _)
        rw [hd]
        refine b1.snoc ⟨by simp, b5.symm, by simp [b5, b4], fun e he => ?_⟩
        rcases b3 e he with h3 | ⟨h3, h4, h5⟩
        · exact .inl h3
        · exact .inr ⟨h3, rfl, h4, h5⟩
      · intro e he
        have he : e ∈ (if p.dn x.at_ then s.began k x ++ [⟨s.steps, k, x.call, true⟩] else s.began k x) := he
        rw [hd] at he
        show e.step < ((s.steps + 1 : Nat) : Int)
        rcases List.mem_append.1 he with he | he
        · have := b2 e he; omega
        · rw [List.mem_singleton] at he; subst he; simp; omega
      · show cls (if p.dn x.at_ then _ else _) _ = _ ∧ opn (if p.dn x.at_ then _ else _) _ = _
        rw [hd]
        rcases hth u y hy with ⟨rfl, rfl⟩ | ⟨hu, hy⟩
        · rw [hd]
          refine ⟨by simp only [if_true]; rw [cls_snoc]; simp [b4, TS.next], by simp only [if_true]; rw [opn_snoc]; simp [TS.next]⟩
        · obtain ⟨c, o⟩ := h.th u y hy
          obtain ⟨d1, d2⟩ := b6 u hu
          simp only [if_true]
          have hne : ¬ ((k : Nat) : Int) = ((u : Nat) : Int) := by omega
          rw [cls_snoc, opn_snoc]
          simp only [if_neg hne]
          rw [d1, d2]; exact ⟨c, o⟩
  · rw [idle_true hi]
    exact ⟨h.hist, fun e he => by have := h.lt e he; show e.step < ((s.steps + 1 : Nat) : Int); omega, h.th⟩
theorem HI.many : ∀ (vs : List Int) {s : St}, HI s → HI (s.many ll vs)
  | [], s, h => h
  | t :: vs, s, h => HI.many vs (h.one t)
theorem take_snoc {l : List Ev} {k : Nat} {y : Ev} (h : l[k]? = some y) : l.take (k + 1) = l.take k ++ [y] := by rw [List.take_add_one, h]; rfl
section
variable {w w' : World} {v : Value} {evs : List Ev}
set_option maxHeartbeats 4000000 in
set_option maxRecDepth 100000 in
theorem history_yes (hr : ReadsE w v evs) (hc : Hist evs) (hn : evs.length ≤ 1000000000) : Calls Try.prog 44 #[v] w fun e w' => e = .returned (.bool true) ∧ Below w.heap.size w w' := by
  have HR := Lib.hid hr
  have HC := Lib.hid hc
  obtain ⟨p, c, rfl, _⟩ := hr
  clear hc
  have hcl : ∀ k t, cls (evs.take k) t ≤ k := by
    intro k t
    induction k with
    | zero => exact Nat.le_refl _
    | succ k ih =>
      by_cases hk : k < evs.length
      · obtain ⟨y, hy⟩ : ∃ y, evs[k]? = some y := ⟨_, List.getElem?_eq_getElem hk⟩
        rw [take_snoc hy, cls_snoc]
        split
        · split <;> omega
        · omega
      · rw [List.take_of_length_le (by omega)]
        rw [List.take_of_length_le (by omega)] at ih
        omega
  go_enter Try.func44, Try.ntmps44
  go_wp2_with fail
  go_loopw [3] (fun i3 wr => ∃ i : Nat, i3 = .int .i64 i ∧ i ≤ evs.length ∧ Hid (Below w.heap.size w wr)) (fun i3 _ => evs.length - (intOf i3).toNat)
  case atStart => exact ⟨0, rfl, Nat.zero_le _, Below.refl _ _⟩
  case round =>
    obtain ⟨i, rfl, hi, hB⟩ := hrel
    by_cases hlt : i < evs.length
    · obtain ⟨e, he⟩ : ∃ e, evs[i]? = some e := ⟨_, List.getElem?_eq_getElem hlt⟩
      obtain ⟨p', c', eq, hcell⟩ := HR.out.below hB.out
      injection eq with eq1 _ eq3
      subst eq1 eq3
      obtain ⟨g, rfl, hg, a0, a1, a2, a3⟩ := hcell i e he
      have hck := HC.out i e he
      have HCK := Lib.hid hck
      have HCELL := Lib.hid (HR.out.below hB.out)
      have HE := Lib.hid he
      clear hcell hck he
      have hblk := Blk.made wr 137 (evC e).toArray
      have hba : Below wr.heap.size wr (wr.alloc (.cells (evC e).toArray 137)) := (Below.refl _ wr).alloc (Nat.le_refl _) _
      have HBA : Hid (Below w.heap.size w (wr.alloc (.cells (evC e).toArray 137))) := hB.out.trans (hba.mono hB.out.size)
      have HRA : Hid (ReadsE (wr.alloc (.cells (evC e).toArray 137)) (.slice (some ⟨g, 0, none⟩) evs.length c) evs) := HCELL.out.below hba
      have HBLK := Lib.hid hblk
      clear hblk hba HCELL
      unfold evC at HBLK HBA HRA
      go_wp2_with fail
      generalize hwa : wr.alloc (.cells #[.int .i64 e.step, .int .i64 e.thread, .int .i64 e.index, .bool e.ret] 137) = wa at *
      generalize hbn : wr.heap.size = bn at *
      clear hwa hB
      go_loopw [5, 6, 7] (fun i5 i6 i7 wx => ∃ k : Nat, i7 = .int .i64 k ∧ k ≤ i ∧ i5 = .int .i64 (cls (evs.take k) e.thread) ∧ i6 = .bool (opn (evs.take k) e.thread) ∧ ∃ d, wx = wa.drewN d) (fun _ _ i7 _ => i - (intOf i7).toNat)
      case atStart => exact ⟨0, rfl, Nat.zero_le _, rfl, rfl, 0, rfl⟩
      case round =>
        obtain ⟨k, rfl, hk, rfl, rfl, d, rfl⟩ := hrel
        have hcl1 := hcl k e.thread
        by_cases hlk : k < i
        · obtain ⟨y, hy⟩ : ∃ y, evs[k]? = some y := ⟨_, List.getElem?_eq_getElem (by omega)⟩
          obtain ⟨p', c', eq, hcell⟩ := HRA.out
          injection eq with eq1 _ eq3
          subst eq1 eq3
          obtain ⟨g1, eg, -, -, b1, -, b3⟩ := hcell k y hy
          injection eg with eg; injection eg with eg _ _; subst eg
          have b1 : (wa.drewN d).cell? ⟨g, k * 4 + 1, none⟩ = some (.int .i64 y.thread) := b1
          have b3 : (wa.drewN d).cell? ⟨g, k * 4 + 3, none⟩ = some (.bool y.ret) := b3
          have f1 : (wa.drewN d).cell? ⟨bn, 1, none⟩ = some (.int .i64 e.thread) := HBLK.out.cell 1
          have HT := Lib.hid (And.intro (cls_snoc (evs.take k) y e.thread) (opn_snoc (evs.take k) y e.thread))
          rw [← take_snoc hy] at HT
          clear hcell hy a0 a1 a2 a3
          generalize hwd : wa.drewN d = wd at *
          have HW := Lib.hid hwd
          clear hwd
          by_cases hth : y.thread = e.thread
          · have hth2 : (y.thread != e.thread) = false := by simp [hth]
            have HT2 : Hid (cls (evs.take (k + 1)) e.thread = (if y.ret then cls (evs.take k) e.thread else cls (evs.take k) e.thread + 1) ∧ opn (evs.take (k + 1)) e.thread = !y.ret) := ⟨by rw [HT.out.1, if_pos hth], by rw [HT.out.2, if_pos hth]⟩
            clear HT
            generalize cls (evs.take k) e.thread = cc at *
            generalize opn (evs.take k) e.thread = oo at *
            cases hret : y.ret
            all_goals
              rw [hret] at b3 HT2
              go_wp2_with fail
              go_quiet (fail)
              go_wp2_with fail
              go_roundw
              case rel => exact ⟨k + 1, by go_num, by omega, by rw [HT2.out.1]; rfl, by rw [HT2.out.2]; rfl, _, by rw [← HW.out, World.drewN_drewN]⟩
              case measure => simp [intOf]; omega
          · have hth2 : (y.thread != e.thread) = true := by simp [hth]
            have HT2 : Hid (cls (evs.take (k + 1)) e.thread = cls (evs.take k) e.thread ∧ opn (evs.take (k + 1)) e.thread = opn (evs.take k) e.thread) := ⟨by rw [HT.out.1, if_neg hth], by rw [HT.out.2, if_neg hth]⟩
            clear HT
            generalize cls (evs.take k) e.thread = cc at *
            generalize opn (evs.take k) e.thread = oo at *
            go_wp2_with fail
            go_quiet (fail)
            go_wp2_with fail
            go_roundw
            case rel => exact ⟨k + 1, by go_num, by omega, by rw [HT2.out.1], by rw [HT2.out.2], _, by rw [← HW.out, World.drewN_drewN]⟩
            case measure => simp [intOf]; omega
        · obtain rfl : k = i := by omega
          have f0 : (wa.drewN d).cell? ⟨bn, 0, none⟩ = some (.int .i64 e.step) := HBLK.out.cell 0
          have f1 : (wa.drewN d).cell? ⟨bn, 1, none⟩ = some (.int .i64 e.thread) := HBLK.out.cell 1
          have f2 : (wa.drewN d).cell? ⟨bn, 2, none⟩ = some (.int .i64 e.index) := HBLK.out.cell 2
          have f3 : (wa.drewN d).cell? ⟨bn, 3, none⟩ = some (.bool e.ret) := HBLK.out.cell 3
          have HBD : Hid (∀ n, Below w.heap.size w ((wa.drewN d).drewN n)) := fun n => by rw [World.drewN_drewN]; exact bdr HBA.out HBA.out.size _
          obtain ⟨s0, s1, s2, s3⟩ := HCK.out
          have q0 : decide (e.step < 0) = false := by simp; omega
          have hcc := hcl k e.thread
          obtain ⟨p', c', eq, hcell⟩ := HRA.out
          injection eq with eq1 _ eq3
          subst eq1 eq3
          have HPV : Hid (∀ m y, k = m + 1 → evs[m]? = some y → (evs.take k).getLast? = some y) := by
            rintro m y rfl hy
            rw [take_snoc hy]
            simp
          have HCL : Hid (∀ m, k = m + 1 → ∃ y, evs[m]? = some y) := fun m e => ⟨_, List.getElem?_eq_getElem (by omega)⟩
          have HCK2 := Lib.hid s3
          have HCEL := Lib.hid hcell
          rw [s1] at f3
          clear s3 hcell a0 a1 a2 a3 HCK HE HC HR HRA
          have HS1 := Lib.hid s1
          clear s1
          generalize opn (evs.take k) e.thread = oo at *
          generalize cls (evs.take k) e.thread = cc at *
          generalize hwd : wa.drewN d = wd at *
          have HW := Lib.hid hwd
          clear hwd
          by_cases h0 : k = 0
          · subst h0
            cases oo
            all_goals
              first
              | have q1 : (e.index != (cc : Int)) = false := by simpa using s2
              | have q1 : (e.index != (cc : Int) - 1) = false := by simpa using s2
              go_wp2_with fail
              go_quiet (fail)
              go_wp2_with fail
              go_roundw
              case rel => exact ⟨1, by go_num, by omega, HBD.out _⟩
              case measure => simp [intOf]; try omega
          · obtain ⟨m, rfl⟩ : ∃ m, k = m + 1 := ⟨k - 1, by omega⟩
            obtain ⟨y, hy⟩ := HCL.out m rfl
            obtain ⟨g1, eg, -, b0, b1, -, b3⟩ := HCEL.out m y hy
            injection eg with eg; injection eg with eg _ _; subst eg
            have e0 : wd.cell? ⟨g, m * 4, none⟩ = some (.int .i64 y.step) := by rw [← HW.out]; exact b0
            have e1 : wd.cell? ⟨g, m * 4 + 1, none⟩ = some (.int .i64 y.thread) := by rw [← HW.out]; exact b1
            have e3 : wd.cell? ⟨g, m * 4 + 3, none⟩ = some (.bool y.ret) := by rw [← HW.out]; exact b3
            have hm : decide ((0 : Int) < ((m + 1 : Nat) : Int)) = true := by simp
            have hp := HCK2.out y (HPV.out m y rfl hy)
            clear hy b0 b1 b3 h0
            rcases hp with h1 | ⟨h1, h2, h3, h4⟩
            · have q2 : decide (e.step < y.step) = false := by simp; omega
              have q3 : (y.step == e.step) = false := by simp; omega
              cases oo
              all_goals
                first
                | have q1 : (e.index != (cc : Int)) = false := by simpa using s2
                | have q1 : (e.index != (cc : Int) - 1) = false := by simpa using s2
                go_wp2_with fail
                go_quiet (fail)
                go_wp2_with fail
                go_roundw
                case rel => exact ⟨m + 1 + 1, by go_num, by omega, HBD.out _⟩
                case measure => simp [intOf]; try omega
            · have q2 : decide (e.step < y.step) = false := by simp; omega
              have q3 : (y.step == e.step) = true := by simp [h1]
              have q4 : (y.thread != e.thread) = false := by simp [h4]
              rw [h3] at e3
              have : oo = true := by rw [← HS1.out]; exact h2
              subst this
              have q1 : (e.index != (cc : Int) - 1) = false := by simpa using s2
              go_wp2_with fail
              go_quiet (fail)
              go_wp2_with fail
              go_roundw
              case rel => exact ⟨m + 1 + 1, by go_num, by omega, HBD.out _⟩
              case measure => simp [intOf]; try omega
    · go_wp2
      go_ret
      exact ⟨rfl, hB.out⟩
end
end
end Go.Proofs.Ytkaplifhaafpdaa

/-
  What a law may read of a run that is over: its procs, its memory. No condition.
-/
import Derived.Test.YtenlgfagfpaenaaVrZ
namespace Go.Proofs.Ytenlgfagfpaenaa
open Go Go.RowKit
set_option linter.unusedSimpArgs false
set_option linter.unusedVariables false
def Vs.val : Vs → Int
  | .done v _ => v
  | _ => 0
section
variable {W w w' wr wb : World} {Z : Nat → Prop} {F : Nat → Prop} {bm rp steps n k i s : Nat} {vws : List Nat} {ll : List (List Cl)} {pl : List (List PC)} {p8 : Option Addr} {c8 base : Nat} {S : Sv} {L : Int → List Int} {cam : Int} {c : Cl} {st : Vs}
theorem tcell {a : Addr} {v : Value} (h : w.cell? a = some v) (hb : Below w.heap.size w w') : w'.cell? a = some v := (hb.cell (World.block_lt_of_cell? w a h)).trans h
theorem VpAt.read (h : VpAt w cam c k i s st) (hk : c.kind = 0) : ∃ bg nn x iv at_, RdAt w k cam c.obj bg nn x iv at_ st.val := by
  cases st with
  | new =>
    rcases h with ⟨_, h⟩ | ⟨h1, _⟩ | ⟨h1, _⟩ | ⟨h1, _⟩
    · exact ⟨_, _, _, _, _, h⟩
    · omega
    · omega
    · omega
  | find x a y =>
    obtain ⟨_, _, h⟩ := h
    rcases h with ⟨_, h⟩ | ⟨h1, _⟩ | ⟨h1, _⟩
    · exact ⟨_, _, _, _, _, h⟩
    · omega
    · omega
  | load x =>
    obtain ⟨iv, h⟩ := h
    rcases h with ⟨_, h⟩ | ⟨h1, _⟩ | ⟨h1, _⟩
    · exact ⟨_, _, _, _, _, h⟩
    · omega
    · omega
  | make x => obtain ⟨h1, _⟩ := h; omega
  | swap x n => obtain ⟨h1, _⟩ := h; omega
  | look x n => obtain ⟨h1, _⟩ := h; omega
  | settle x n sw ver a y => obtain ⟨h1, _⟩ := h; omega
  | alook x => obtain ⟨h1, _⟩ := h; omega
  | awalk x => obtain ⟨h1, _⟩ := h; omega
  | loaded t => obtain ⟨h1, _⟩ := h; omega
  | done v sw =>
    rcases h with ⟨_, bg, nn, x, iv, h⟩ | ⟨h1, _⟩ | ⟨h1, _⟩ | ⟨h1, _⟩
    · exact ⟨_, _, _, _, _, h⟩
    · omega
    · omega
    · omega
/-- where a call is, and how far -/
theorem run_at (hcl : clsOf pl = ll.map (·.map place)) (ok : S.Ok (clsOf pl) n) {j : Nat} {t : Nat} {l : List Cl} (hl : ll[t]? = some l) (hc : l[j]? = some c) :
    ∃ row pb st, pl[t]? = some row ∧ row.length = l.length ∧ row[j]? = some (pb, place c) ∧ at2 pl t j = some (pb, place c) ∧ at2 (clsOf pl) t j = some (place c) ∧ at2 (S.th.map (·.ss)) t j = some st := by
  have h1 : (clsOf pl)[t]? = some (l.map place) := by rw [hcl, List.getElem?_map, hl]; rfl
  have h2 : ∃ row, pl[t]? = some row ∧ row.map (·.2) = l.map place := by
    unfold clsOf at h1
    rw [List.getElem?_map] at h1
    cases hp : pl[t]? with
    | none => rw [hp] at h1; cases h1
    | some row => rw [hp] at h1; injection h1 with h1; exact ⟨row, rfl, h1⟩
  obtain ⟨row, hr, hm⟩ := h2
  have hlen : row.length = l.length := by have := congrArg List.length hm; simpa using this
  have hjl := (List.getElem?_eq_some_iff.1 hc).1
  have h3 : (row.map (·.2))[j]? = some (place c) := by rw [hm, List.getElem?_map, hc]; rfl
  rw [List.getElem?_map] at h3
  cases hrj : row[j]? with
  | none => rw [hrj] at h3; cases h3
  | some z =>
    rw [hrj] at h3
    injection h3 with h3
    obtain ⟨pb, c'⟩ := z
    have h3 : c' = place c := h3
    subst h3
    have htl : t < S.th.length := by rw [ok.lt]; exact (List.getElem?_eq_some_iff.1 h1).1
    obtain ⟨x, hx⟩ : ∃ x, S.th[t]? = some x := ⟨_, List.getElem?_eq_getElem htl⟩
    obtain ⟨r1, _⟩ := ok.row t x _ hx h1
    obtain ⟨st, hst⟩ : ∃ st, x.ss[j]? = some st := ⟨_, List.getElem?_eq_getElem (by rw [r1, List.length_map]; exact hjl)⟩
    refine ⟨row, pb, st, hr, hlen, hrj, ?_, ?_, map_at hx hst⟩
    · unfold at2; rw [hr]; exact hrj
    · unfold at2; rw [h1]; show (l.map place)[j]? = _; rw [List.getElem?_map, hc]; rfl
/-- a Read that a law reads -/
def FinR (w : World) (p8 : Option Addr) (ll : List (List Cl)) (A : Mem) (L : Int → List Int) : Prop :=
  ∀ (t : Nat) l, ll[t]? = some l → ∃ g8 q d, p8 = some ⟨g8, 0, none⟩ ∧ w.cell? ⟨g8, t, none⟩ = some (.slice q l.length d) ∧ ∀ (j : Nat) c, l[j]? = some c → c.kind = 0 → ∃ gr pb val bg nn x iv at_, q = some ⟨gr, 0, none⟩ ∧ w.cell? ⟨gr, j * 6 + 1, none⟩ = some (.pointer (some ⟨pb, 0, none⟩)) ∧ RdAt w pb 1 (2 + c.obj % 3) bg nn x iv at_ val ∧ (val = 0 ∨ ∃ n ∈ L (2 + c.obj % 3), A.peek n = val)
theorem FinR.below {A : Mem} (h : FinR w p8 ll A L) (hb : Below w.heap.size w w') : FinR w' p8 ll A L := by
  intro t l hl
  obtain ⟨g8, q, d, h1, h2, h3⟩ := h t l hl
  refine ⟨g8, q, d, h1, tcell h2 hb, fun j c hc hk => ?_⟩
  obtain ⟨gr, pb, val, bg, nn, x, iv, at_, k1, k2, k3, k4⟩ := h3 j c hc hk
  exact ⟨gr, pb, val, bg, nn, x, iv, at_, k1, tcell k2 hb, Blk.below k3 hb, k4⟩
theorem FinR.of (hcl : clsOf pl = ll.map (·.map place)) (ok : S.Ok (clsOf pl) n) (hg : Gv (clsOf pl) S L) (hp : PAll w base (.slice p8 ll.length c8) pl) (hv : VI W bm vws 1 pl rp Z wr steps S w) : FinR w p8 ll S.A L := by
  obtain ⟨us, hul, ho, hrow⟩ := hp
  obtain ⟨R, E, T, evs, ats, hj, _⟩ := hv
  obtain ⟨F, lab, hx⟩ := hj.env
  intro t l hl
  have hplt : pl.length = ll.length := by have := congrArg List.length hcl; simpa [clsOf] using this
  have htl := (List.getElem?_eq_some_iff.1 hl).1
  have hrw : ∃ row, pl[t]? = some row := ⟨_, List.getElem?_eq_getElem (by omega)⟩
  obtain ⟨row, hr⟩ := hrw
  obtain ⟨u, hu⟩ : ∃ u, us[t]? = some u := ⟨_, List.getElem?_eq_getElem (by omega)⟩
  have hrowlen : row.length = l.length := by
    have h1 : (clsOf pl)[t]? = some (l.map place) := by rw [hcl, List.getElem?_map, hl]; rfl
    unfold clsOf at h1
    rw [List.getElem?_map, hr] at h1
    injection h1 with h1
    have := congrArg List.length h1
    simpa using this
  have hpr := hrow t u row hu hr
  obtain ⟨p, c, e, _, hc⟩ := own_at ho
  injection e with e1 _ _
  subst e1
  obtain ⟨g8, e8, _, cg⟩ := hc t u hu
  obtain ⟨q, d, rfl, _, hq⟩ := own_at hpr
  refine ⟨g8, q, d, e8, by rw [← hrowlen]; exact cg, fun j c hcj hk => ?_⟩
  obtain ⟨row', pb, st, r1, r2, r3, r4, r5, r6⟩ := run_at hcl ok hl hcj
  rw [hr] at r1
  injection r1 with r1
  subst r1
  have g : (row.flatMap fun z => (prA z.1 z.2).toList)[j * 6 + 1]? = some (.pointer (some ⟨pb, 0, none⟩)) := by
    rw [fm_get (fun z : PC => (prA z.1 z.2).toList) 6 (fun _ => rfl) row j 1 (pb, place c) r3 (by decide)]
    have hk2 : (place c).kind = 0 := hk
    show (prA pb (place c)).toList[1]? = _
    unfold prA
    rw [hk2]
    rfl
  obtain ⟨gr, e9, _, cgr⟩ := hq _ _ g
  obtain ⟨i, s, hat, _⟩ := hx.pr t j pb (place c) st r4 r6
  obtain ⟨bg, nn, x, iv, at_, hrd⟩ := hat.read hk
  refine ⟨gr, pb, st.val, bg, nn, x, iv, at_, e9, cgr, hrd, ?_⟩
  have hpst := hg.st t j (place c) st r5 r6
  cases st with
  | done v sw =>
    rcases hpst hk with h | ⟨n, h1, _, h2⟩
    · exact .inl h
    · exact .inr ⟨n, h1, h2⟩
  | _ => exact .inl rfl
end
end Go.Proofs.Ytenlgfagfpaenaa

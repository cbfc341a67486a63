/-
  A memory and the document's, of any kind, or nil: the five calls. No condition.
-/
import Derived.Test.YthggpbbnhjaegaaArTell
namespace Go.Proofs.Ythggpbbnhjaegaa
open Go Go.RowKit
set_option linter.unusedSimpArgs false
set_option linter.unusedVariables false
/-- what a call makes of a memory of any kind -/
def En.upd (f : Mem → Mem) : En → En
  | none => none
  | some (false, A) => some (false, f A)
  | some (true, A) => some (true, (f A).mute A)
/-- a view of it, or nil -/
def VV (w : World) (vv pv : Value) (th made : Int) : Prop := (pv = .pointer none ∧ vv = .pointer none) ∨ ∃ v bm, pv = .pointer (some ⟨bm, 0, none⟩) ∧ vv = .pointer (some ⟨v, 0, none⟩) ∧ VW w v bm th made
/-- the block of a pointer -/
def vb : Value → Option Nat
  | .pointer (some a) => some a.block
  | _ => none
def PDid (w w' : World) (F : Nat → Prop) (pv vv : Value) (th made : Int) (e : En) : Prop := PV w' (Ext F w) pv e ∧ VV w' vv pv th (made + 1) ∧ Fr (fun b => F b ∨ vb vv = some b) w w'
def DDid (w w' : World) (F : Nat → Prop) (rv : Value) (e : En) : Prop := DV w' (Ext F w) rv e ∧ Fr F w w'
section
variable {w w' w0 : World} {F S : Nat → Prop} {pv rv vv av : Value} {e : En} {bm q r v : Nat} {A : Mem} {th made : Int} {vs : List Int}
theorem PDid.plain (h : Did w w' F bm v th made A) : PDid w w' F (.pointer (some ⟨bm, 0, none⟩)) (.pointer (some ⟨v, 0, none⟩)) th made (some (false, A)) :=
  ⟨⟨bm, rfl, h.1⟩, .inr ⟨v, bm, rfl, rfl, h.2.1⟩, h.2.2.mono fun k _ e => e.imp id fun e => by subst e; rfl⟩
theorem PDid.live {A' : Mem} (h : LDid w w' F bm q r v th made A') : PDid w w' F (.pointer (some ⟨bm, 0, none⟩)) (.pointer (some ⟨v, 0, none⟩)) th made (some (true, A'.mute A)) :=
  ⟨⟨bm, q, r, rfl, h.1.bM, h.1.bQ, h.1.bR, .inl h.1.fM, .inl h.1.fQ, .inl h.1.fR⟩, .inr ⟨v, bm, rfl, rfl, h.2.1⟩, h.2.2.mono fun k _ e => e.imp id fun e => by subst e; rfl⟩
theorem PDid.nil (w : World) (F : Nat → Prop) (th made : Int) : PDid w w F (.pointer none) (.pointer none) th made none := ⟨rfl, .inl ⟨rfl, rfl⟩, Fr.refl _ _⟩
theorem DDid.of {lv : Bool} {rm : Nat} (h : RDid w w' F rm lv A) : DDid w w' F (.pointer (some ⟨rm, 0, none⟩)) (some (lv, A)) := ⟨⟨rm, rfl, h.1⟩, h.2⟩
theorem DDid.nil (w : World) (F : Nat → Prop) : DDid w w F (.pointer none) none := ⟨rfl, Fr.refl _ _⟩
theorem VV.nil (h : VV w vv (.pointer none) th made) : vv = .pointer none := by
  rcases h with ⟨_, h⟩ | ⟨v, bm, h, _⟩
  · exact h
  · cases h
theorem VV.some (h : VV w vv (.pointer (some ⟨bm, 0, none⟩)) th made) : ∃ v, vv = .pointer (some ⟨v, 0, none⟩) ∧ VW w v bm th made := by
  rcases h with ⟨h, _⟩ | ⟨v, bm', h, e, hh⟩
  · cases h
  · injection h with h; injection h with h; injection h with h _ _; subst h; exact ⟨v, e, hh⟩
theorem VV.fr (h : VV w vv pv th made) (hf : Fr S w w') (hS : ∀ b, vb vv = Option.some b → ¬ S b) : VV w' vv pv th made := by
  rcases h with h | ⟨v, bm, h, rfl, hh⟩
  · exact .inl h
  · exact .inr ⟨v, bm, h, rfl, VW.fr hh hf (hS v rfl)⟩
def En.hit : En → Int → Int → Bool
  | none, _, _ => false
  | some (_, A), x, o => A.hit x o
def En.spot : En → List Int → Int
  | none, _ => 0
  | some (_, A), vs => A.spot vs
theorem PLoad (h : PV w F pv e) (ok : e.Ok) (hv : VV w vv pv th made) (hF : ∀ b, vb vv = some b → ¬ F b) (x : Int) (h0 : 0 ≤ x) (hm0 : 0 ≤ made) (hm1 : made ≤ 1000000000) :
    Calls Try.prog 16 #[vv, .int .u64 x] w fun a w' => a = .returned (.int .u64 (e.peek x)) ∧ PDid w w' F pv vv th made (e.upd (·.load th x)) := by
  match e, h, ok with
  | none, h, _ =>
    obtain rfl : pv = .pointer none := h
    obtain rfl := hv.nil
    refine (Load_nil w _).mono ?_
    rintro a w' ⟨rfl, rfl⟩
    exact ⟨rfl, PDid.nil _ _ _ _⟩
  | some (false, A), ⟨bm, he, q, r, tv, rows, hh⟩, ok =>
    subst he
    obtain ⟨v, rfl, hw⟩ := hv.some
    refine (Load_x hh hw x h0 ok.1.n ok.1.t hm0 hm1).mono ?_
    rintro a w' ⟨rfl, hD⟩
    exact ⟨rfl, PDid.plain hD⟩
  | some (true, A), ⟨bm, q, r, he, hh⟩, ok =>
    subst he
    obtain ⟨v, rfl, hw⟩ := hv.some
    refine (L_Load hh hw (hF v rfl) x h0 ok.1.n hm0 hm1).mono ?_
    rintro a w' ⟨rfl, hD⟩
    exact ⟨rfl, PDid.live hD⟩
theorem DLoad (h : DV w F rv e) (ok : e.Ok) (th : Int) (x : Int) (h0 : 0 ≤ x) :
    Calls Try.prog 23 #[rv, .int .i64 th, .int .u64 x] w fun a w' => a = .returned (.int .u64 (e.peek x)) ∧ DDid w w' F rv (e.upd (·.load th x)) := by
  match e, h, ok with
  | none, h, _ =>
    obtain rfl : rv = .pointer none := h
    refine (RLoad_nil w th x).mono ?_
    rintro a w' ⟨rfl, rfl⟩
    exact ⟨rfl, DDid.nil _ _⟩
  | some (false, A), ⟨rm, he, r, tv, rows, hh⟩, ok =>
    subst he
    refine (RLoad_x hh th x h0 ok.1.n ok.1.t).mono ?_
    rintro a w' ⟨rfl, hD⟩
    exact ⟨rfl, DDid.of hD⟩
  | some (true, A), ⟨rm, he, r, tv, rows, hh⟩, ok =>
    subst he
    refine (RLoadL_x hh th x h0 ok.1.n ok.1.t).mono ?_
    rintro a w' ⟨rfl, hD⟩
    exact ⟨rfl, DDid.of hD⟩
theorem PStore (h : PV w F pv e) (ok : e.Ok) (hv : VV w vv pv th made) (hF : ∀ b, vb vv = some b → ¬ F b) (x u : Int) (h0 : 0 ≤ x) (hm0 : 0 ≤ made) (hm1 : made ≤ 1000000000) :
    Calls Try.prog 24 #[vv, .int .u64 x, .int .u64 u] w fun a w' => a = .returned (.tuple #[]) ∧ PDid w w' F pv vv th made (e.upd (·.store th x u)) := by
  match e, h, ok with
  | none, h, _ =>
    obtain rfl : pv = .pointer none := h
    obtain rfl := hv.nil
    refine (Store_nil w _ _).mono ?_
    rintro a w' ⟨rfl, rfl⟩
    exact ⟨rfl, PDid.nil _ _ _ _⟩
  | some (false, A), ⟨bm, he, q, r, tv, rows, hh⟩, ok =>
    subst he
    obtain ⟨v, rfl, hw⟩ := hv.some
    refine (Store_x hh hw x u h0 ok.1.n ok.1.t hm0 hm1).mono ?_
    rintro a w' ⟨rfl, hD⟩
    exact ⟨rfl, PDid.plain hD⟩
  | some (true, A), ⟨bm, q, r, he, hh⟩, ok =>
    subst he
    obtain ⟨v, rfl, hw⟩ := hv.some
    refine (L_Store hh hw (hF v rfl) x u h0 ok.1.n hm0 hm1).mono ?_
    rintro a w' ⟨rfl, hD⟩
    exact ⟨rfl, PDid.live hD⟩
theorem DStore (h : DV w F rv e) (ok : e.Ok) (th : Int) (x u : Int) (h0 : 0 ≤ x) :
    Calls Try.prog 25 #[rv, .int .i64 th, .int .u64 x, .int .u64 u] w fun a w' => a = .returned (.tuple #[]) ∧ DDid w w' F rv (e.upd (·.store th x u)) := by
  match e, h, ok with
  | none, h, _ =>
    obtain rfl : rv = .pointer none := h
    refine (RStore_nil w th x u).mono ?_
    rintro a w' ⟨rfl, rfl⟩
    exact ⟨rfl, DDid.nil _ _⟩
  | some (false, A), ⟨rm, he, r, tv, rows, hh⟩, ok =>
    subst he
    refine (RStore_x hh th x u h0 ok.1.n ok.1.t).mono ?_
    rintro a w' ⟨rfl, hD⟩
    exact ⟨rfl, DDid.of hD⟩
  | some (true, A), ⟨rm, he, r, tv, rows, hh⟩, ok =>
    subst he
    refine (RStoreL_x hh th x u h0 ok.1.n ok.1.t).mono ?_
    rintro a w' ⟨rfl, hD⟩
    exact ⟨rfl, DDid.of hD⟩
theorem PCas (h : PV w F pv e) (ok : e.Ok) (hv : VV w vv pv th made) (hF : ∀ b, vb vv = some b → ¬ F b) (x o u : Int) (h0 : 0 ≤ x) (hm0 : 0 ≤ made) (hm1 : made ≤ 1000000000) :
    Calls Try.prog 17 #[vv, .int .u64 x, .int .u64 o, .int .u64 u] w fun a w' => a = .returned (.bool (e.hit x o)) ∧ PDid w w' F pv vv th made (e.upd (·.cas th x o u)) := by
  match e, h, ok with
  | none, h, _ =>
    obtain rfl : pv = .pointer none := h
    obtain rfl := hv.nil
    refine (Cas_nil w _ _ _).mono ?_
    rintro a w' ⟨rfl, rfl⟩
    exact ⟨rfl, PDid.nil _ _ _ _⟩
  | some (false, A), ⟨bm, he, q, r, tv, rows, hh⟩, ok =>
    subst he
    obtain ⟨v, rfl, hw⟩ := hv.some
    refine (Cas_x hh hw x o u h0 ok.1.n ok.1.t hm0 hm1).mono ?_
    rintro a w' ⟨rfl, hD⟩
    exact ⟨rfl, PDid.plain hD⟩
  | some (true, A), ⟨bm, q, r, he, hh⟩, ok =>
    subst he
    obtain ⟨v, rfl, hw⟩ := hv.some
    refine (L_Cas hh hw (hF v rfl) x o u h0 ok.1.n hm0 hm1).mono ?_
    rintro a w' ⟨rfl, hD⟩
    exact ⟨rfl, PDid.live hD⟩
theorem DCas (h : DV w F rv e) (ok : e.Ok) (th : Int) (x o u : Int) (h0 : 0 ≤ x) :
    Calls Try.prog 26 #[rv, .int .i64 th, .int .u64 x, .int .u64 o, .int .u64 u] w fun a w' => a = .returned (.bool (e.hit x o)) ∧ DDid w w' F rv (e.upd (·.cas th x o u)) := by
  match e, h, ok with
  | none, h, _ =>
    obtain rfl : rv = .pointer none := h
    refine (RCas_nil w th x o u).mono ?_
    rintro a w' ⟨rfl, rfl⟩
    exact ⟨rfl, DDid.nil _ _⟩
  | some (false, A), ⟨rm, he, r, tv, rows, hh⟩, ok =>
    subst he
    refine (RCas_x hh th x o u h0 ok.1.n ok.1.t).mono ?_
    rintro a w' ⟨rfl, hD⟩
    exact ⟨rfl, DDid.of hD⟩
  | some (true, A), ⟨rm, he, r, tv, rows, hh⟩, ok =>
    subst he
    refine (RCasL_x hh th x o u h0 ok.1.n ok.1.t).mono ?_
    rintro a w' ⟨rfl, hD⟩
    exact ⟨rfl, DDid.of hD⟩
theorem PAdd (h : PV w F pv e) (ok : e.Ok) (hv : VV w vv pv th made) (hF : ∀ b, vb vv = some b → ¬ F b) (x u : Int) (h0 : 0 ≤ x) (hm0 : 0 ≤ made) (hm1 : made ≤ 1000000000) :
    Calls Try.prog 18 #[vv, .int .u64 x, .int .u64 u] w fun a w' => a = .returned (.int .u64 (e.peek x)) ∧ PDid w w' F pv vv th made (e.upd (·.add th x u)) := by
  match e, h, ok with
  | none, h, _ =>
    obtain rfl : pv = .pointer none := h
    obtain rfl := hv.nil
    refine (Add_nil w _ _).mono ?_
    rintro a w' ⟨rfl, rfl⟩
    exact ⟨rfl, PDid.nil _ _ _ _⟩
  | some (false, A), ⟨bm, he, q, r, tv, rows, hh⟩, ok =>
    subst he
    obtain ⟨v, rfl, hw⟩ := hv.some
    refine (Add_x hh hw x u h0 ok.1.n ok.1.t hm0 hm1).mono ?_
    rintro a w' ⟨rfl, hD⟩
    exact ⟨rfl, PDid.plain hD⟩
  | some (true, A), ⟨bm, q, r, he, hh⟩, ok =>
    subst he
    obtain ⟨v, rfl, hw⟩ := hv.some
    refine (L_Add hh hw (hF v rfl) ok.2.2.1 x u h0 ok.1.n hm0 hm1).mono ?_
    rintro a w' ⟨rfl, hD⟩
    exact ⟨rfl, PDid.live hD⟩
theorem DAdd (h : DV w F rv e) (ok : e.Ok) (th : Int) (x u : Int) (h0 : 0 ≤ x) :
    Calls Try.prog 27 #[rv, .int .i64 th, .int .u64 x, .int .u64 u] w fun a w' => a = .returned (.int .u64 (e.peek x)) ∧ DDid w w' F rv (e.upd (·.add th x u)) := by
  match e, h, ok with
  | none, h, _ =>
    obtain rfl : rv = .pointer none := h
    refine (RAdd_nil w th x u).mono ?_
    rintro a w' ⟨rfl, rfl⟩
    exact ⟨rfl, DDid.nil _ _⟩
  | some (false, A), ⟨rm, he, r, tv, rows, hh⟩, ok =>
    subst he
    refine (RAdd_x hh th x u h0 ok.1.n ok.1.t).mono ?_
    rintro a w' ⟨rfl, hD⟩
    exact ⟨rfl, DDid.of hD⟩
  | some (true, A), ⟨rm, he, r, tv, rows, hh⟩, ok =>
    subst he
    refine (RAddL_x hh th x u h0 ok.1.n ok.1.t).mono ?_
    rintro a w' ⟨rfl, hD⟩
    exact ⟨rfl, DDid.of hD⟩
theorem PAlloc (h : PV w F pv e) (ok : e.Ok) (hv : VV w vv pv th made) (hF : ∀ b, vb vv = some b → ¬ F b) (ha : VA w av vs) (ho : vs ≠ [] → Off av F) (hvl : vs.length ≤ 1000000000) (hm0 : 0 ≤ made) (hm1 : made ≤ 1000000000) :
    Calls Try.prog 15 #[vv, av] w fun a w' => a = .returned (.int .u64 (e.spot vs)) ∧ PDid w w' F pv vv th made (e.upd (·.alloc th vs)) := by
  match e, h, ok with
  | none, h, _ =>
    obtain rfl : pv = .pointer none := h
    obtain rfl := hv.nil
    refine (Alloc_nil w _).mono ?_
    rintro a w' ⟨rfl, rfl⟩
    exact ⟨rfl, PDid.nil _ _ _ _⟩
  | some (false, A), ⟨bm, he, q, r, tv, rows, hh⟩, ok =>
    subst he
    obtain ⟨v, rfl, hw⟩ := hv.some
    refine (Alloc_x hh hw (hF v rfl) ha ho hvl ok.1.x ok.1.n ok.1.t hm0 hm1).mono ?_
    rintro a w' ⟨rfl, hD⟩
    exact ⟨rfl, PDid.plain hD⟩
  | some (true, A), ⟨bm, q, r, he, hh⟩, ok =>
    subst he
    obtain ⟨v, rfl, hw⟩ := hv.some
    refine (L_Alloc hh hw (hF v rfl) ha ho hvl ok.1.x ok.1.n hm0 hm1).mono ?_
    rintro a w' ⟨rfl, hD⟩
    exact ⟨rfl, PDid.live hD⟩
theorem DAlloc (h : DV w F rv e) (ok : e.Ok) (th : Int) (ha : VA w av vs) (ho : vs ≠ [] → Off av F) (hnil : ∀ n c, av = .slice none n c → c = 0) (hvl : vs.length ≤ 1000000000) :
    Calls Try.prog 29 #[rv, .int .i64 th, av] w fun a w' => a = .returned (.int .u64 (e.spot vs)) ∧ DDid w w' F rv (e.upd (·.alloc th vs)) := by
  match e, h, ok with
  | none, h, _ =>
    obtain rfl : rv = .pointer none := h
    obtain ⟨p, c, rfl⟩ := ha.cl
    refine (RAlloc_nil w th _ _ _).mono ?_
    rintro a w' ⟨rfl, rfl⟩
    exact ⟨rfl, DDid.nil _ _⟩
  | some (false, A), ⟨rm, he, r, tv, rows, hh⟩, ok =>
    subst he
    refine (RAlloc_x hh ha ho hnil th hvl ok.1.x ok.1.n ok.1.t).mono ?_
    rintro a w' ⟨rfl, hD⟩
    exact ⟨rfl, DDid.of hD⟩
  | some (true, A), ⟨rm, he, r, tv, rows, hh⟩, ok =>
    subst he
    refine (RAllocL_x hh ha ho hnil th hvl ok.1.x ok.1.n ok.1.t).mono ?_
    rintro a w' ⟨rfl, hD⟩
    exact ⟨rfl, DDid.of hD⟩
theorem PView (h : PV w F pv e) (th : Int) : Calls Try.prog 14 #[pv, .int .i64 th] w fun a w' => ∃ vv, a = .returned vv ∧ VV w' vv pv th 0 ∧ Below w.heap.size w w' ∧ ∀ b, vb vv = some b → b = w.heap.size := by
  match e, h with
  | none, h =>
    obtain rfl : pv = .pointer none := h
    refine (MView_nil w _).mono ?_
    rintro a w' ⟨rfl, rfl⟩
    exact ⟨_, rfl, .inl ⟨rfl, rfl⟩, Below.refl _ _, fun b e => by cases e⟩
  | some (false, A), ⟨bm, he, hh⟩ =>
    subst he
    refine (View_any w bm th).mono ?_
    rintro a w' ⟨rfl, rfl⟩
    exact ⟨_, rfl, .inr ⟨_, _, rfl, rfl, Blk.made w _ _⟩, (Below.refl _ w).alloc (Nat.le_refl _) _, fun b e => by injection e with e; exact e.symm⟩
  | some (true, A), ⟨bm, q, r, he, hh⟩ =>
    subst he
    refine (View_any w bm th).mono ?_
    rintro a w' ⟨rfl, rfl⟩
    exact ⟨_, rfl, .inr ⟨_, _, rfl, rfl, Blk.made w _ _⟩, (Below.refl _ w).alloc (Nat.le_refl _) _, fun b e => by injection e with e; exact e.symm⟩
def En.num : En → Int → Int
  | none, _ => 0
  | some _, n => n
theorem En.num_upd (e : En) (f : Mem → Mem) (n : Int) : (e.upd f).num n = e.num n := by
  match e with
  | none => rfl
  | some (false, A) => rfl
  | some (true, A) => rfl
theorem PAcc (hp : PV w F pv e) (h : VV w vv pv th made) : Calls Try.prog 21 #[vv] w fun a w' => a = .returned (.int .i64 (e.num made)) ∧ w = w' := by
  match e, hp with
  | none, hp =>
    obtain rfl : pv = .pointer none := hp
    obtain rfl := h.nil
    exact Accesses_nil w
  | some (false, A), ⟨bm, he, hh⟩ =>
    subst he
    obtain ⟨v, rfl, hw⟩ := h.some
    exact Accesses_any hw
  | some (true, A), ⟨bm, q, r, he, hh⟩ =>
    subst he
    obtain ⟨v, rfl, hw⟩ := h.some
    exact Accesses_any hw
theorem PThr (hp : PV w F pv e) (h : VV w vv pv th made) : Calls Try.prog 22 #[vv] w fun a w' => a = .returned (.int .i64 (e.num th)) ∧ w = w' := by
  match e, hp with
  | none, hp =>
    obtain rfl : pv = .pointer none := hp
    obtain rfl := h.nil
    exact Thread_nil w
  | some (false, A), ⟨bm, he, hh⟩ =>
    subst he
    obtain ⟨v, rfl, hw⟩ := h.some
    exact Thread_any hw
  | some (true, A), ⟨bm, q, r, he, hh⟩ =>
    subst he
    obtain ⟨v, rfl, hw⟩ := h.some
    exact Thread_any hw
/-- only blocks that are there -/
theorem PV.tight (h : PV w F pv e) : PV w (fun b => F b ∧ b < w.heap.size) pv e := by
  match e, h with
  | none, h => exact h
  | some (false, A), ⟨bm, e, h⟩ => exact ⟨bm, e, h.tight⟩
  | some (true, A), ⟨bm, q, r, e, h⟩ => exact ⟨bm, q, r, e, h.bM, h.bQ, h.bR, ⟨h.fM, h.bM.lt⟩, ⟨h.fQ, h.bQ.lt⟩, ⟨h.fR, h.bR.lt⟩⟩
theorem DV.tight (h : DV w F rv e) : DV w (fun b => F b ∧ b < w.heap.size) rv e := by
  match e, h with
  | none, h => exact h
  | some (l, A), ⟨rm, e, r, tv, rows, h⟩ =>
    refine ⟨rm, e, r, tv, rows, h.bM', h.bR', h.own, h.fst, fun x hx => ?_, ⟨h.fM, h.bM.lt⟩, ⟨h.fR, h.bR.lt⟩, fun g e => ⟨h.fT g e, own_lt h.own e⟩⟩
    rcases h.vals x hx with h1 | ⟨h1, h2⟩
    · exact .inl h1
    · exact .inr ⟨h1, fun g e => ⟨⟨(h2 g e).1, own_lt h1 e⟩, (h2 g e).2⟩⟩
theorem PV.wide {G : Nat → Prop} (h : PV w F pv e) (hF : ∀ k, F k → G k) : PV w G pv e := by
  match e, h with
  | none, h => exact h
  | some (false, A), ⟨bm, e, h⟩ => exact ⟨bm, e, h.wide hF⟩
  | some (true, A), ⟨bm, q, r, e, h⟩ => exact ⟨bm, q, r, e, h.bM, h.bQ, h.bR, hF _ h.fM, hF _ h.fQ, hF _ h.fR⟩
theorem DV.wide {G : Nat → Prop} (h : DV w F rv e) (hF : ∀ k, F k → G k) : DV w G rv e := by
  match e, h with
  | none, h => exact h
  | some (l, A), ⟨rm, e, h⟩ => exact ⟨rm, e, h.wide hF⟩
end
end Go.Proofs.Ythggpbbnhjaegaa

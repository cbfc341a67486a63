/-
  What CameraOnce and CameraAhead look at, in plain Lean. No condition.
-/
import Derived.Test.YtfbdgodebeggbaaCamPlain
namespace Go.Proofs.Ytfbdgodebeggbaa
open Go Go.RowKit
set_option linter.unusedSimpArgs false
set_option linter.unusedVariables false
section
variable {cell first V V' : Int} {H : Nat → Int} {i m m' t j : Nat} {s : RS} {c : CS} {th : List (List (Bool × Int))} {picks : List Int}
/-- what CameraOnce looks at -/
theorem once_law (h0 : 0 ≤ cell) (h1 : cell < 128) (hf0 : 0 ≤ first) (hf1 : first ≤ 18446744073709551615) (hth : ∀ l ∈ th, ∀ x ∈ l, 0 ≤ x.2 ∧ x.2 ≤ 18446744073709551615) (picks : List Int) (k : Nat) :
    first ≤ (RS.upto cell first th picks k).A.peek cell ∧ (RS.upto cell first th picks k).A.peek cell ≤ 18446744073709551615 ∧ (RS.upto cell first th picks k).A.peek cell - first ≤ (RS.upto cell first th picks k).all.length ∧
    ∀ v, first ≤ v → v < (RS.upto cell first th picks k).A.peek cell → (RS.upto cell first th picks k).all.countP (fun c => c.mv && decide (c.t.stamp = v)) = 1 := by
  have h := upto_li h0 h1 hf0 hf1 hth picks k
  refine ⟨h.lo, h.hi, ?_, fun v hv1 hv2 => ?_⟩
  · rw [← h.tot]
    have : (RS.upto cell first th picks k).all.countP CS.mv ≤ (RS.upto cell first th picks k).all.length := List.countP_le_length
    omega
  · rw [h.cnt v, if_pos ⟨hv1, hv2⟩]
/-- a call that returned, and was not refused -/
def CS.told (c : CS) : Bool := decide (0 ≤ c.to) && (c.isNow || decide (c.t.e = 0))
def CS.say (c : CS) : Int := if c.isNow = true then c.n.t else c.t.stamp
/-- what CameraAhead looks at -/
theorem ahead_law (h0 : 0 ≤ cell) (h1 : cell < 128) (hf0 : 0 ≤ first) (hf1 : first ≤ 18446744073709551615) (hth : ∀ l ∈ th, ∀ x ∈ l, 0 ≤ x.2 ∧ x.2 ≤ 18446744073709551615) (picks : List Int) (k : Nat) :
    (∀ a ∈ (RS.upto cell first th picks k).all, a.told = true → a.isNow = false → first ≤ a.t.stamp ∧ a.t.stamp < (RS.upto cell first th picks k).A.peek cell) ∧
    (∀ a ∈ (RS.upto cell first th picks k).all, a.told = true → ∀ b ∈ (RS.upto cell first th picks k).all, b.told = true → a.to < b.fr → a.say ≤ b.say ∧ (a.isNow = false → a.say < b.say)) := by
  have h := upto_li h0 h1 hf0 hf1 hth picks k
  generalize (fun k => (RS.upto cell first th picks (k + 1)).A.peek cell) = H at h
  generalize RS.upto cell first th picks k = s at *
  have key : ∀ a ∈ s.all, a.told = true → a.to < k ∧ 0 ≤ a.to ∧ (a.isNow = true → a.n.t ≤ H a.to.toNat) ∧ (a.isNow = false → first ≤ a.t.stamp ∧ a.t.stamp < H a.to.toNat) ∧ ∀ i : Nat, (i : Int) < a.fr → H i ≤ a.say := by
    intro a ha ht
    obtain ⟨g1, g2, g3, g4, g5, g6, g7, g8⟩ := h.cg a ha
    simp [CS.told] at ht
    cases hb : a.isNow
    · rw [if_neg (by simp [hb])] at g8
      simp [hb] at ht
      rcases g8 with ⟨_, q, _⟩ | ⟨_, q, _⟩ | ⟨q1, q2, q3, q4⟩
      · omega
      · omega
      · rcases q4 with ⟨q4, _⟩ | ⟨r1, r2, r3, r4⟩
        · omega
        · exact ⟨q3, q2, (fun e => by cases e), fun _ => ⟨r2, r3⟩, by simpa [CS.say, hb] using r4⟩
    · rw [if_pos hb] at g8
      rcases g8 with ⟨_, ⟨_, q⟩ | ⟨q1, q2, q3, q4, q5⟩⟩
      · omega
      · exact ⟨q3, q2, fun _ => q5, (fun e => by cases e), by simpa [CS.say, hb] using q4⟩
  refine ⟨fun a ha ht hb => ?_, fun a ha hta b hb htb hlt => ?_⟩
  · obtain ⟨k1, k2, _, k4, _⟩ := key a ha ht
    have := h.hist a.to.toNat (by omega)
    obtain ⟨q1, q2⟩ := k4 hb
    exact ⟨q1, by omega⟩
  · obtain ⟨k1, k2, k3, k4, _⟩ := key a ha hta
    obtain ⟨_, _, _, _, k5⟩ := key b hb htb
    have hz := k5 a.to.toNat (by omega)
    cases hna : a.isNow
    · obtain ⟨q1, q2⟩ := k4 hna
      have e : a.say = a.t.stamp := by simp [CS.say, hna]
      rw [e]
      exact ⟨by omega, fun _ => by omega⟩
    · have q := k3 hna
      have e : a.say = a.n.t := by simp [CS.say, hna]
      rw [e]
      exact ⟨by omega, fun e => by cases e⟩
end
end Go.Proofs.Ytfbdgodebeggbaa

/-
  Plain laws on 64-bit numbers for the seat's statements about mix: numbers mixed by a shift and back, how many bits are 1, turning, digits. No Go in sight; no condition.
-/
namespace Go.Proofs.Ytjjoncfbddakkaa.Pl
/-- k rounds of x = y ^ x>>n, from y on. -/
def usP (y : BitVec 64) (n : Nat) : Nat → BitVec 64
  | 0 => y
  | k + 1 => y ^^^ (usP y n k >>> n)

theorem xor_can (a b : BitVec 64) : (a ^^^ b) ^^^ b = a := by rw [BitVec.xor_assoc, BitVec.xor_self]; simp
theorem eq_xor_of (a b c : BitVec 64) (h : a ^^^ b = c) : a = b ^^^ c := by rw [← h, BitVec.xor_comm a b, ← BitVec.xor_assoc, BitVec.xor_self]; simp

theorem usP_diff (u : BitVec 64) (n k : Nat) : usP (u ^^^ (u >>> n)) n k ^^^ u = u >>> (n * (k + 1)) := by
  induction k with
  | zero => simp only [usP]; rw [BitVec.xor_comm, ← BitVec.xor_assoc, BitVec.xor_self]; simp
  | succ k ih =>
    have h := eq_xor_of _ _ _ ih
    simp only [usP]
    rw [h, BitVec.ushiftRight_xor_distrib, ← BitVec.shiftRight_add]
    have e : n * (k + 1) + n = n * (k + 1 + 1) := by rw [Nat.mul_add n (k+1) 1, Nat.mul_one]
    rw [e]
    generalize u >>> n = a
    generalize u >>> (n * (k + 1 + 1)) = b
    ext i
    simp only [BitVec.getElem_xor]
    cases u[i] <;> cases a[i] <;> cases b[i] <;> rfl

theorem usP_back (u : BitVec 64) (n k : Nat) (h : 64 ≤ n * (k + 1)) : usP (u ^^^ (u >>> n)) n k = u := by
  have := usP_diff u n k
  rw [BitVec.ushiftRight_eq_zero h] at this
  have := eq_xor_of _ _ _ this
  simpa using this

/-- two numbers that are mixed alike are alike -/
theorem us_inj (n : Nat) (hn : 1 ≤ n) (u v : BitVec 64) (h : u ^^^ (u >>> n) = v ^^^ (v >>> n)) : u = v := by
  have h1 := usP_back u n 64 (by omega)
  have h2 := usP_back v n 64 (by omega)
  rw [h] at h1
  exact h1.symm.trans h2

/-- what unshift gives is mixed to what came in -/
theorem usP_fwd_diff (y : BitVec 64) (n k : Nat) : usP y n (k + 1) ^^^ usP y n k = y >>> (n * (k + 1)) := by
  induction k with
  | zero => simp only [usP]; rw [BitVec.xor_comm, ← BitVec.xor_assoc, BitVec.xor_self]; simp
  | succ k ih =>
    have h := eq_xor_of _ _ _ ih
    rw [show usP y n (k + 1 + 1) = y ^^^ (usP y n (k + 1) >>> n) from rfl]
    rw [show usP y n (k + 1) = y ^^^ (usP y n k >>> n) from rfl] at h ⊢
    rw [h, BitVec.ushiftRight_xor_distrib, ← BitVec.shiftRight_add]
    have e : n * (k + 1) + n = n * (k + 1 + 1) := by rw [Nat.mul_add n (k+1) 1, Nat.mul_one]
    rw [e, ← h]
    generalize usP y n k >>> n = a
    generalize y >>> (n * (k + 1 + 1)) = b
    ext i
    simp only [BitVec.getElem_xor]
    cases y[i] <;> cases a[i] <;> cases b[i] <;> rfl

theorem usP_fwd (y : BitVec 64) (n k : Nat) (h : 64 ≤ n * (k + 1)) : usP y n k ^^^ (usP y n k >>> n) = y := by
  have h1 := usP_fwd_diff y n k
  rw [BitVec.ushiftRight_eq_zero h] at h1
  have h2 : usP y n (k + 1) = usP y n k := by have := eq_xor_of _ _ _ h1; simpa using this
  have h3 : usP y n (k + 1) = y ^^^ (usP y n k >>> n) := rfl
  rw [h2] at h3
  generalize usP y n k = x at *
  generalize x >>> n = z at *
  rw [h3, BitVec.xor_assoc, BitVec.xor_self]; simp
/-- the reference's bit by bit: after k rounds, from bit 63 down -/
def usR (x : BitVec 64) (n : Nat) : Nat → BitVec 64
  | 0 => 0#64
  | k + 1 => usR x n k ||| ((((x >>> (63 - k)) &&& 1#64) ^^^ (if 63 - k + n < 64 then ((usR x n k) >>> (63 - k + n)) &&& 1#64 else 0#64)) <<< (63 - k))

theorem bit1 (x : BitVec 64) (i j : Nat) : ((x >>> i) &&& 1#64).getLsbD j = (decide (j = 0) && x.getLsbD i) := by
  rw [BitVec.getLsbD_and, BitVec.getLsbD_ushiftRight, BitVec.getLsbD_one]
  by_cases h : j = 0
  · subst h; simp
  · simp [h]

theorem usR_bits (x : BitVec 64) (n : Nat) (hn : 1 ≤ n) (k : Nat) (hk : k ≤ 64) (j : Nat) :
    (usR x n k).getLsbD j = (decide (64 - k ≤ j ∧ j < 64) && (x.getLsbD j ^^ (usR x n k).getLsbD (j + n))) := by
  induction k generalizing j with
  | zero => simp [usR]; omega
  | succ k ih =>
    have hi : 64 - (k + 1) = 63 - k := by omega
    rw [hi]
    generalize hI : 63 - k = i at *
    have hI2 : 64 - k = i + 1 := by omega
    rw [hI2] at ih
    have hi64 : i < 64 := by omega
    have step : ∀ j, (usR x n (k + 1)).getLsbD j = ((usR x n k).getLsbD j || (decide (j = i) && (x.getLsbD i ^^ (usR x n k).getLsbD (i + n)))) := by
      intro j
      have h63 : ¬ 64 ≤ i + n → i + n < 64 := by omega
      simp only [usR, hI, BitVec.getLsbD_or, BitVec.getLsbD_shiftLeft]
      congr 1
      rw [BitVec.getLsbD_xor, bit1]
      by_cases hji : j = i
      · subst hji
        simp only [hi64, Nat.lt_irrefl, decide_true, decide_false, Bool.not_false, Bool.true_and, Nat.sub_self]
        congr 1
        split
        · rw [bit1]; simp
        · rename_i h; simp; exact (BitVec.getLsbD_of_ge _ _ (by omega))
      · simp only [hji, decide_false, Bool.false_and]
        by_cases hlt : j < i
        · simp [hlt]
        · have hne : j - i ≠ 0 := by omega
          simp only [hne, decide_false, Bool.false_and, Bool.false_xor]
          split
          · rw [bit1]; simp [hne]
          · simp
    have old : (usR x n k).getLsbD i = false := by
      rw [ih (by omega) i]
      have : ¬ (i + 1 ≤ i ∧ i < 64) := by omega
      simp only [this, decide_false, Bool.false_and]
    rw [step j, step (j + n)]
    by_cases hji : j = i
    · subst hji
      have hne : ¬ (j + n = j) := by omega
      rw [old]
      simp only [hne, decide_true, decide_false, Bool.true_and, Bool.false_and, Bool.or_false, Bool.false_or, Nat.le_refl, hi64, and_self]
    · have hs : (usR x n k).getLsbD j = (decide (i + 1 ≤ j ∧ j < 64) && (x.getLsbD j ^^ (usR x n k).getLsbD (j + n))) := ih (by omega) j
      simp only [hji, decide_false, Bool.false_and, Bool.or_false]
      by_cases hjn : j + n = i
      · have : ¬ (i ≤ j) := by omega
        rw [hs]
        have h2 : ¬ (i + 1 ≤ j) := by omega
        simp [this, h2]
      · simp only [hjn, decide_false, Bool.false_and, Bool.or_false]
        rw [hs]
        have e : (i + 1 ≤ j ∧ j < 64) ↔ (i ≤ j ∧ j < 64) := by omega
        simp only [e]

theorem usR_fwd (x : BitVec 64) (n : Nat) (hn : 1 ≤ n) : usR x n 64 ^^^ (usR x n 64 >>> n) = x := by
  apply BitVec.eq_of_getLsbD_eq
  intro j hj
  rw [BitVec.getLsbD_xor, BitVec.getLsbD_ushiftRight, usR_bits x n hn 64 (by omega) j, Nat.add_comm n j]
  have e : decide (64 - 64 ≤ j ∧ j < 64) = true := decide_eq_true ⟨by omega, hj⟩
  rw [e]
  cases x.getLsbD j <;> cases (usR x n 64).getLsbD (j + n) <;> rfl
/-- how many of the first n bits of x are 1. -/
def pcN : Nat → Nat → Nat
  | 0, _ => 0
  | n + 1, x => x % 2 + pcN n (x / 2)

theorem and_split (k a b c d : Nat) (hb : b < 2 ^ k) (hd : d < 2 ^ k) : (a * 2 ^ k + b) &&& (c * 2 ^ k + d) = (a &&& c) * 2 ^ k + (b &&& d) := by
  have hbd : b &&& d < 2 ^ k := Nat.lt_of_le_of_lt Nat.and_le_left hb
  apply Nat.eq_of_testBit_eq
  intro i
  simp only [Nat.testBit_and, Nat.mul_comm _ (2 ^ k)]
  rw [Nat.testBit_two_pow_mul_add _ hb, Nat.testBit_two_pow_mul_add _ hd, Nat.testBit_two_pow_mul_add _ hbd]
  split
  · simp
  · simp

def rep (m : Nat) : Nat → Nat
  | 0 => 0
  | k + 1 => rep m k * 256 + m

theorem and_split8 (a b c d : Nat) (hb : b < 256) (hd : d < 256) : (a * 256 + b) &&& (c * 256 + d) = (a &&& c) * 256 + (b &&& d) :=
  and_split 8 a b c d hb hd

/-- x>>1&m0 + x&m0 and its like, on k bytes -/
def st (s m k x : Nat) : Nat := (x / s &&& rep m k) + (x &&& rep m k)

theorem st1_byte (k hi lo : Nat) (hl : lo < 256) : st 2 0x55 (k + 1) (hi * 256 + lo) = st 2 0x55 k hi * 256 + (((lo / 2) &&& 0x55) + (lo &&& 0x55)) := by
  unfold st
  have e : (hi * 256 + lo) / 2 = (hi / 2) * 256 + ((hi % 2) * 128 + lo / 2) := by omega
  simp only [rep]
  rw [e, and_split8 _ _ _ _ (by omega) (by omega), and_split8 _ _ _ _ hl (by omega)]
  have e2 : ((hi % 2) * 128 + lo / 2) &&& 85 = (lo / 2) &&& 85 := by
    have h2 : lo / 2 < 128 := by omega
    have := and_split 7 (hi % 2) (lo / 2) 0 85 h2 (by omega)
    simpa using this
  rw [e2]; omega

theorem st2_byte (k hi lo : Nat) (hl : lo < 256) : st 4 0x33 (k + 1) (hi * 256 + lo) = st 4 0x33 k hi * 256 + (((lo / 4) &&& 0x33) + (lo &&& 0x33)) := by
  unfold st
  have e : (hi * 256 + lo) / 4 = (hi / 4) * 256 + ((hi % 4) * 64 + lo / 4) := by omega
  simp only [rep]
  rw [e, and_split8 _ _ _ _ (by omega) (by omega), and_split8 _ _ _ _ hl (by omega)]
  have e2 : ((hi % 4) * 64 + lo / 4) &&& 51 = (lo / 4) &&& 51 := by
    have h2 : lo / 4 < 64 := by omega
    have := and_split 6 (hi % 4) (lo / 4) 0 51 h2 (by omega)
    simpa using this
  rw [e2]; omega

def st3 (k x : Nat) : Nat := (x / 16 + x) &&& rep 0x0f k

theorem and15 (x : Nat) : x &&& 15 = x % 16 := by
  have := Nat.and_two_pow_sub_one_eq_mod x 4
  simpa using this

theorem st3_byte (k hi lo : Nat) (h1 : lo % 16 ≤ 4) (h2 : lo / 16 ≤ 4) (h3 : hi % 16 ≤ 4) : st3 (k + 1) (hi * 256 + lo) = st3 k hi * 256 + (lo / 16 + lo % 16) := by
  unfold st3
  simp only [rep]
  have e : (hi * 256 + lo) / 16 + (hi * 256 + lo) = (hi / 16 + hi) * 256 + ((hi % 16) * 16 + lo / 16 + lo) := by omega
  rw [e, and_split8 _ _ _ _ (by omega) (by omega), and15]
  omega

set_option maxRecDepth 100000 in
theorem byte1 : ∀ lo < 256, ((lo / 2) &&& 0x55) + (lo &&& 0x55) < 256 ∧ (((((lo / 2) &&& 0x55) + (lo &&& 0x55)) / 4) &&& 0x33) + ((((lo / 2) &&& 0x55) + (lo &&& 0x55)) &&& 0x33) < 256 ∧
    ((((((lo / 2) &&& 0x55) + (lo &&& 0x55)) / 4) &&& 0x33) + ((((lo / 2) &&& 0x55) + (lo &&& 0x55)) &&& 0x33)) / 16 + ((((((lo / 2) &&& 0x55) + (lo &&& 0x55)) / 4) &&& 0x33) + ((((lo / 2) &&& 0x55) + (lo &&& 0x55)) &&& 0x33)) % 16 = pcN 8 lo ∧
    ((((((lo / 2) &&& 0x55) + (lo &&& 0x55)) / 4) &&& 0x33) + ((((lo / 2) &&& 0x55) + (lo &&& 0x55)) &&& 0x33)) % 16 ≤ 4 ∧ ((((((lo / 2) &&& 0x55) + (lo &&& 0x55)) / 4) &&& 0x33) + ((((lo / 2) &&& 0x55) + (lo &&& 0x55)) &&& 0x33)) / 16 ≤ 4 := by decide +kernel

/-- the three steps, byte by byte -/
def tri (k x : Nat) : Nat := st3 k (st 4 0x33 k (st 2 0x55 k x))

theorem pcN_le (n x : Nat) : pcN n x ≤ n := by
  induction n generalizing x with
  | zero => exact Nat.le_refl _
  | succ n ih => have := ih (x / 2); simp only [pcN]; omega

theorem tri_byte (k hi lo : Nat) (hl : lo < 256) (hh : st 4 0x33 k (st 2 0x55 k hi) % 16 ≤ 4) :
    tri (k + 1) (hi * 256 + lo) = tri k hi * 256 + pcN 8 lo ∧ st 4 0x33 (k + 1) (st 2 0x55 (k + 1) (hi * 256 + lo)) % 16 ≤ 4 := by
  obtain ⟨b1, b2, b3, b4, b5⟩ := byte1 lo hl
  unfold tri
  rw [st1_byte k hi lo hl, st2_byte k _ _ b1, st3_byte k _ _ b4 b5 hh, b3]
  refine ⟨rfl, ?_⟩
  omega

theorem tri_all (k : Nat) : ∀ x, x < 256 ^ k → st 4 0x33 k (st 2 0x55 k x) % 16 ≤ 4 := by
  induction k with
  | zero => intro x hx; simp [st, rep]
  | succ k ih =>
    intro x hx
    have e : x = (x / 256) * 256 + x % 256 := by omega
    have hx2 : x / 256 < 256 ^ k := by rw [Nat.pow_succ] at hx; exact Nat.div_lt_of_lt_mul (by omega)
    rw [e]
    exact (tri_byte k (x / 256) (x % 256) (by omega) (ih _ hx2)).2

theorem tri_step (k x : Nat) (hx : x < 256 ^ (k + 1)) : tri (k + 1) x = tri k (x / 256) * 256 + pcN 8 (x % 256) := by
  have e : x = (x / 256) * 256 + x % 256 := by omega
  have hx2 : x / 256 < 256 ^ k := by rw [Nat.pow_succ] at hx; exact Nat.div_lt_of_lt_mul (by omega)
  conv => lhs; rw [e]
  exact (tri_byte k (x / 256) (x % 256) (by omega) (tri_all k _ hx2)).1

theorem pcN_add (m n x : Nat) : pcN (m + n) x = pcN m (x % 2 ^ m) + pcN n (x / 2 ^ m) := by
  induction m generalizing x with
  | zero => simp [pcN]
  | succ m ih =>
    rw [show m + 1 + n = (m + n) + 1 by omega]
    simp only [pcN]
    rw [ih (x / 2)]
    have e1 : x % 2 ^ (m + 1) % 2 = x % 2 := by rw [Nat.pow_succ, Nat.mul_comm]; exact Nat.mod_mul_right_mod x 2 (2 ^ m)
    have e2 : x % 2 ^ (m + 1) / 2 = x / 2 % 2 ^ m := by rw [Nat.pow_succ, Nat.mul_comm]; exact Nat.mod_mul_right_div_self x 2 (2 ^ m)
    have e3 : x / 2 / 2 ^ m = x / 2 ^ (m + 1) := by rw [Nat.div_div_eq_div_mul, Nat.pow_succ, Nat.mul_comm]
    rw [e1, e2, e3]; omega

theorem pc_byte (n x : Nat) : pcN (8 + n) x = pcN 8 (x % 256) + pcN n (x / 256) := pcN_add 8 n x

theorem sum8 (b0 b1 b2 b3 b4 b5 b6 b7 : Nat) (g0 : b0 ≤ 8) (g1 : b1 ≤ 8) (g2 : b2 ≤ 8) (g3 : b3 ≤ 8) (g4 : b4 ≤ 8) (g5 : b5 ≤ 8) (g6 : b6 ≤ 8) (g7 : b7 ≤ 8)
    (t : Nat) (ht : t = (((((((0 * 256 + b7) * 256 + b6) * 256 + b5) * 256 + b4) * 256 + b3) * 256 + b2) * 256 + b1) * 256 + b0)
    (t8 : Nat) (h8 : t8 = t / 256) (a : Nat) (ha : a = t + t8) (a8 : Nat) (ha8 : a8 = a / 65536) (b : Nat) (hb : b = a + a8) (b8 : Nat) (hb8 : b8 = b / 4294967296) (c : Nat) (hc : c = b + b8) :
    t < 2 ^ 60 ∧ a < 2 ^ 64 ∧ b < 2 ^ 64 ∧ c < 2 ^ 64 ∧ c % 128 = b0 + b1 + b2 + b3 + b4 + b5 + b6 + b7 := by
  have ea : t8 = ((((((b7 * 256 + b6) * 256 + b5) * 256 + b4) * 256 + b3) * 256 + b2) * 256 + b1) := by omega
  clear h8
  have ea2 : a = (((((((b7 * 256 + (b6 + b7)) * 256 + (b5 + b6)) * 256 + (b4 + b5)) * 256 + (b3 + b4)) * 256 + (b2 + b3)) * 256 + (b1 + b2)) * 256 + (b0 + b1)) := by omega
  have k1 : t < 2 ^ 60 := by omega
  clear ht ea ha
  have eb : a8 = (((((b7 * 256 + (b6 + b7)) * 256 + (b5 + b6)) * 256 + (b4 + b5)) * 256 + (b3 + b4)) * 256 + (b2 + b3)) := by omega
  clear ha8
  have eb2 : b = (((((((b7 * 256 + (b6 + b7)) * 256 + (b5 + b6 + b7)) * 256 + (b4 + b5 + b6 + b7)) * 256 + (b3 + b4 + b5 + b6)) * 256 + (b2 + b3 + b4 + b5)) * 256 + (b1 + b2 + b3 + b4)) * 256 + (b0 + b1 + b2 + b3)) := by omega
  have k2 : a < 2 ^ 64 := by omega
  clear ea2 eb hb
  have ec : b8 = (((b7 * 256 + (b6 + b7)) * 256 + (b5 + b6 + b7)) * 256 + (b4 + b5 + b6 + b7)) := by omega
  clear hb8
  have ec2 : c = 256 * (((((((b7 * 256 + (b6 + b7)) * 256 + (b5 + b6 + b7)) * 256 + (b4 + b5 + b6 + b7)) * 256 + (b3 + b4 + b5 + b6 + b7)) * 256 + (b2 + b3 + b4 + b5 + b6 + b7)) * 256 + (b1 + b2 + b3 + b4 + b5 + b6 + b7))) + (b0 + b1 + b2 + b3 + b4 + b5 + b6 + b7) := by omega
  have k3 : b < 2 ^ 64 := by omega
  clear eb2 ec hc
  refine ⟨k1, k2, k3, by omega, by omega⟩

/-- what OnesCount64 makes of a number, all sums within 64 bits -/
theorem ones_64 (x : Nat) (hx : x < 2 ^ 64) :
    ∃ t, t = tri 8 x ∧ t < 2 ^ 60 ∧ (let a := t + t / 256; let b := a + a / 65536; let c := b + b / 4294967296; a < 2 ^ 64 ∧ b < 2 ^ 64 ∧ c < 2 ^ 64 ∧ c % 128 = pcN 64 x) := by
  refine ⟨_, rfl, ?_⟩
  rw [show (64 : Nat) = 8 + (8 + (8 + (8 + (8 + (8 + (8 + (8 + 0))))))) from rfl, pc_byte, pc_byte, pc_byte, pc_byte, pc_byte, pc_byte, pc_byte, pc_byte]
  rw [tri_step 7 x (by omega), tri_step 6 _ (by omega), tri_step 5 _ (by omega), tri_step 4 _ (by omega), tri_step 3 _ (by omega), tri_step 2 _ (by omega), tri_step 1 _ (by omega), tri_step 0 _ (by omega)]
  have e0 : ∀ y, tri 0 y = 0 := fun y => by simp [tri, st3, rep]
  rw [e0]
  rw [show ∀ y, pcN 0 y = 0 from fun _ => rfl]
  have l := pcN_le 8
  obtain ⟨k1, k2, k3, k4, k5⟩ := sum8 (pcN 8 (x % 256)) (pcN 8 (x / 256 % 256)) (pcN 8 (x / 256 / 256 % 256)) (pcN 8 (x / 256 / 256 / 256 % 256)) (pcN 8 (x / 256 / 256 / 256 / 256 % 256)) (pcN 8 (x / 256 / 256 / 256 / 256 / 256 % 256)) (pcN 8 (x / 256 / 256 / 256 / 256 / 256 / 256 % 256)) (pcN 8 (x / 256 / 256 / 256 / 256 / 256 / 256 / 256 % 256)) (l _) (l _) (l _) (l _) (l _) (l _) (l _) (l _) _ rfl _ rfl _ rfl _ rfl _ rfl _ rfl _ rfl
  refine ⟨k1, k2, k3, k4, k5.trans ?_⟩
  simp only [Nat.add_assoc, Nat.add_zero]
theorem pcN_mod (n x : Nat) : pcN n (x % 2 ^ n) = pcN n x := by
  have h := pcN_add n 0 x
  simpa [pcN] using h.symm
theorem pcN_snoc (n x : Nat) : pcN (n + 1) x = pcN n x + x / 2 ^ n % 2 := by
  rw [pcN_add n 1 x, pcN_mod]; simp [pcN]
theorem pcN_rot (v : Nat) : pcN 64 (2 * (v % 2 ^ 63) + v / 2 ^ 63 % 2) = pcN 64 v := by
  rw [pcN_snoc 63 v]
  rw [show pcN 64 (2 * (v % 2 ^ 63) + v / 2 ^ 63 % 2) = (2 * (v % 2 ^ 63) + v / 2 ^ 63 % 2) % 2 + pcN 63 ((2 * (v % 2 ^ 63) + v / 2 ^ 63 % 2) / 2) from rfl]
  have e1 : (2 * (v % 2 ^ 63) + v / 2 ^ 63 % 2) % 2 = v / 2 ^ 63 % 2 := by omega
  have e2 : (2 * (v % 2 ^ 63) + v / 2 ^ 63 % 2) / 2 = v % 2 ^ 63 := by omega
  rw [e1, e2, pcN_mod]; omega
theorem pcN_not (n : Nat) : ∀ x, x < 2 ^ n → pcN n (2 ^ n - 1 - x) + pcN n x = n := by
  induction n with
  | zero => intro x _; rfl
  | succ n ih =>
    intro x hx
    have hp : 0 < 2 ^ n := Nat.two_pow_pos n
    rw [Nat.pow_succ] at hx ⊢
    have := ih (x / 2) (by omega)
    simp only [pcN]
    have e1 : (2 ^ n * 2 - 1 - x) / 2 = 2 ^ n - 1 - x / 2 := by omega
    rw [e1]
    have e2 : (2 ^ n * 2 - 1 - x) % 2 + x % 2 = 1 := by omega
    omega

/-- turned by s -/
def rotB (v : BitVec 64) (s : Nat) : BitVec 64 := (v <<< s) ||| (v >>> (64 - s))
theorem rotB_bit (v : BitVec 64) (s : Nat) (hs : s < 64) (i : Nat) (hi : i < 64) : (rotB v s).getLsbD i = v.getLsbD ((i + (64 - s)) % 64) := by
  unfold rotB
  rw [BitVec.getLsbD_or, BitVec.getLsbD_shiftLeft, BitVec.getLsbD_ushiftRight]
  by_cases h : i < s
  · have e : (i + (64 - s)) % 64 = 64 - s + i := by omega
    rw [e]; simp [hi, h]
  · have e : (i + (64 - s)) % 64 = i - s := by omega
    rw [e]
    have : v.getLsbD (64 - s + i) = false := BitVec.getLsbD_of_ge _ _ (by omega)
    rw [this]; simp [hi, h]
theorem rotB_rotB (v : BitVec 64) (s t : Nat) (hs : s < 64) (ht : t < 64) : rotB (rotB v s) t = rotB v ((s + t) % 64) := by
  apply BitVec.eq_of_getLsbD_eq
  intro i hi
  rw [rotB_bit _ _ ht _ hi, rotB_bit _ _ hs _ (by omega), rotB_bit _ _ (by omega) _ hi]
  congr 1; omega
theorem rotB_zero (v : BitVec 64) : rotB v 0 = v := by unfold rotB; rw [Nat.sub_zero, BitVec.ushiftRight_eq_zero (Nat.le_refl 64)]; simp
def rot1 (v : BitVec 64) : Nat → BitVec 64
  | 0 => v
  | k + 1 => rotB (rot1 v k) 1
theorem rot1_eq (v : BitVec 64) (k : Nat) : rot1 v k = rotB v (k % 64) := by
  induction k with
  | zero => simp [rot1, rotB_zero]
  | succ k ih =>
    rw [rot1, ih, rotB_rotB _ _ _ (by omega) (by omega)]
    congr 1; omega
def onesB (v : BitVec 64) : Nat := pcN 64 v.toNat
theorem onesB_rot1 (v : BitVec 64) : onesB (rotB v 1) = onesB v := by
  unfold onesB
  rw [← pcN_rot v.toNat]
  congr 1
  unfold rotB
  have h := v.isLt
  have h1 : v.toNat / 2 ^ 63 % 2 = v.toNat / 2 ^ 63 := by omega
  rw [h1, BitVec.toNat_or, BitVec.toNat_shiftLeft, BitVec.toNat_ushiftRight, Nat.shiftLeft_eq, Nat.shiftRight_eq_div_pow]
  have e1 : v.toNat * 2 ^ 1 % 2 ^ 64 = 2 ^ 1 * (v.toNat % 2 ^ 63) := by omega
  rw [e1, ← Nat.two_pow_add_eq_or_of_lt (by omega)]
theorem onesB_rot (v : BitVec 64) (s : Nat) (hs : s < 64) : onesB (rotB v s) = onesB v := by
  have : ∀ k, onesB (rot1 v k) = onesB v := by
    intro k
    induction k with
    | zero => rfl
    | succ k ih => rw [rot1, onesB_rot1, ih]
  rw [← this s, rot1_eq]; congr 2; omega
theorem onesB_not (v : BitVec 64) : onesB v + onesB (~~~v) = 64 := by
  have := pcN_not 64 v.toNat v.isLt
  unfold onesB
  rw [BitVec.toNat_not]
  omega
/-- the digit of h at a level -/
def dg (h : Nat) (l : Nat) : Nat := if l < 10 then h / 2 ^ (58 - 6 * l) % 64 else if l = 10 then h % 16 else 0
theorem dg_lt (h l : Nat) : dg h l < 64 := by unfold dg; split; omega; split; omega; omega
theorem dg_10 (h : Nat) : dg h 10 < 16 := by unfold dg; simp; omega
/-- all of them alike: the same number -/
theorem dg_ext (a b : Nat) (ha : a < 2 ^ 64) (hb : b < 2 ^ 64) (h : ∀ i, i < 11 → dg a i = dg b i) : a = b := by
  have h0 := h 0 (by omega)
  have h1 := h 1 (by omega)
  have h2 := h 2 (by omega)
  have h3 := h 3 (by omega)
  have h4 := h 4 (by omega)
  have h5 := h 5 (by omega)
  have h6 := h 6 (by omega)
  have h7 := h 7 (by omega)
  have h8 := h 8 (by omega)
  have h9 := h 9 (by omega)
  have h10 := h 10 (by omega)
  simp [dg] at h0 h1 h2 h3 h4 h5 h6 h7 h8 h9 h10
  omega
/-- how many the two have in common, from level l on, f levels being left -/
def cmAt (a b : Nat) : Nat → Nat → Nat
  | 0, l => l
  | f + 1, l => if dg a l = dg b l then cmAt a b f (l + 1) else l
def cm (a b : Nat) : Nat := cmAt a b 11 0
theorem cmAt_spec (a b f l : Nat) (hl : ∀ i, i < l → dg a i = dg b i) :
    l ≤ cmAt a b f l ∧ cmAt a b f l ≤ l + f ∧ (∀ i, i < cmAt a b f l → dg a i = dg b i) ∧ (cmAt a b f l < l + f → dg a (cmAt a b f l) ≠ dg b (cmAt a b f l)) := by
  induction f generalizing l with
  | zero => exact ⟨Nat.le_refl _, Nat.le_refl _, hl, fun h => absurd h (Nat.lt_irrefl _)⟩
  | succ f ih =>
    unfold cmAt
    split
    · rename_i h
      have := ih (l + 1) (fun i hi => by by_cases e : i = l; exact e ▸ h; exact hl i (by omega))
      obtain ⟨h1, h2, h3, h4⟩ := this
      exact ⟨by omega, by omega, h3, fun h => h4 (by omega)⟩
    · rename_i h
      exact ⟨Nat.le_refl _, by omega, hl, fun _ => h⟩
theorem cm_spec (a b : Nat) : cm a b ≤ 11 ∧ (∀ i, i < cm a b → dg a i = dg b i) ∧ (cm a b < 11 → dg a (cm a b) ≠ dg b (cm a b)) := by
  obtain ⟨_, h2, h3, h4⟩ := cmAt_spec a b 11 0 (fun i hi => absurd hi (Nat.not_lt_zero i))
  exact ⟨by unfold cm; omega, h3, fun h => h4 (by unfold cm at h; omega)⟩
theorem cm_eq {a b n : Nat} (h1 : n ≤ 11) (h2 : ∀ i, i < n → dg a i = dg b i) (h3 : n < 11 → dg a n ≠ dg b n) : cm a b = n := by
  obtain ⟨g1, g2, g3⟩ := cm_spec a b
  rcases Nat.lt_trichotomy (cm a b) n with h | h | h
  · exact absurd (h2 _ h) (g3 (by omega))
  · exact h
  · exact absurd (g2 _ h) (h3 (by omega))
theorem cm_comm (a b : Nat) : cm a b = cm b a := by
  obtain ⟨g1, g2, g3⟩ := cm_spec b a
  exact cm_eq g1 (fun i hi => (g2 i hi).symm) (fun h => (g3 h).symm)
theorem cm_self (a : Nat) : cm a a = 11 := cm_eq (Nat.le_refl _) (fun _ _ => rfl) (fun h => absurd h (Nat.lt_irrefl _))
theorem cm_all (a b : Nat) (ha : a < 2 ^ 64) (hb : b < 2 ^ 64) : cm a b = 11 ↔ a = b := by
  constructor
  · intro h
    have := (cm_spec a b).2.1
    rw [h] at this
    exact dg_ext a b ha hb this
  · rintro rfl; exact cm_self a
theorem cm_tri (a b c : Nat) : min (cm a b) (cm b c) ≤ cm a c := by
  obtain ⟨g1, g2, g3⟩ := cm_spec a c
  obtain ⟨x1, x2, _⟩ := cm_spec a b
  obtain ⟨y1, y2, _⟩ := cm_spec b c
  rcases Nat.lt_or_ge (cm a c) (min (cm a b) (cm b c)) with h | h
  · exact absurd ((x2 _ (by omega)).trans (y2 _ (by omega))) (g3 (by omega))
  · exact h

/-- the list of digits -/
def dgs (h : Nat) : List Nat := (List.range 11).map (dg h)
/-- joined: nothing, if a digit is too great -/
def joinFrom : Nat → Nat → List Int → Option Nat
  | _, h, [] => some h
  | l, h, d :: ds => if 0 ≤ d ∧ d < (if l = 10 then 16 else 64) then joinFrom (l + 1) (h * (if l = 10 then 16 else 64) + d.toNat) ds else none
def joinL (ds : List Int) : Option Nat := if ds.length = 11 then joinFrom 0 0 ds else none
theorem jf_step (l h d : Nat) (ds : List Int) (hl : l ≠ 10) (hd : d < 64) : joinFrom l h ((d : Int) :: ds) = joinFrom (l + 1) (h * 64 + d) ds := by
  have h1 : (0 : Int) ≤ (d : Int) ∧ (d : Int) < (if l = 10 then 16 else 64) := ⟨Int.natCast_nonneg _, by rw [if_neg hl]; omega⟩
  rw [joinFrom, if_pos h1, if_neg hl, Int.toNat_natCast]
theorem jf_last (h d : Nat) (hd : d < 16) : joinFrom 10 h [(d : Int)] = some (h * 16 + d) := by
  have h1 : (0 : Int) ≤ (d : Int) ∧ (d : Int) < (if 10 = 10 then 16 else 64) := ⟨Int.natCast_nonneg _, by rw [if_pos rfl]; omega⟩
  rw [joinFrom, if_pos h1, if_pos rfl, Int.toNat_natCast, joinFrom]
theorem dg_step (h l : Nat) (hl : l < 10) : h / 2 ^ (64 - 6 * l) * 64 + dg h l = h / 2 ^ (58 - 6 * l) := by
  unfold dg
  rw [if_pos hl]
  have e : 64 - 6 * l = (58 - 6 * l) + 6 := by omega
  rw [e, Nat.pow_add, ← Nat.div_div_eq_div_mul]
  generalize h / 2 ^ (58 - 6 * l) = x
  omega
theorem join_dgs (h : Nat) (hh : h < 2 ^ 64) : joinL ((dgs h).map (fun d : Nat => (d : Int))) = some h := by
  have e : ((dgs h).map (fun d : Nat => (d : Int))) = [(dg h 0 : Int), (dg h 1 : Int), (dg h 2 : Int), (dg h 3 : Int), (dg h 4 : Int), (dg h 5 : Int), (dg h 6 : Int), (dg h 7 : Int), (dg h 8 : Int), (dg h 9 : Int), (dg h 10 : Int)] := rfl
  rw [e]
  have l := dg_lt h
  have l10 := dg_10 h
  simp only [joinL, List.length_cons, List.length_nil, if_true]
  have e0 : (0 : Nat) = h / 2 ^ (64 - 6 * 0) := by omega
  conv => lhs; rw [show joinFrom 0 0 = joinFrom 0 (h / 2 ^ (64 - 6 * 0)) by rw [← e0]]
  rw [jf_step _ _ _ _ (by decide) (l 0), dg_step h 0 (by decide)]
  rw [jf_step _ _ _ _ (by decide) (l 1), show 58 - 6 * 0 = 64 - 6 * (0 + 1) by decide, dg_step h (0 + 1) (by decide)]
  rw [jf_step _ _ _ _ (by decide) (l 2), show 58 - 6 * (0 + 1) = 64 - 6 * (0 + 1 + 1) by decide, dg_step h (0 + 1 + 1) (by decide)]
  rw [jf_step _ _ _ _ (by decide) (l 3), show 58 - 6 * (0 + 1 + 1) = 64 - 6 * (0 + 1 + 1 + 1) by decide, dg_step h (0 + 1 + 1 + 1) (by decide)]
  rw [jf_step _ _ _ _ (by decide) (l 4), show 58 - 6 * (0 + 1 + 1 + 1) = 64 - 6 * 4 by decide, dg_step h 4 (by decide)]
  rw [jf_step _ _ _ _ (by decide) (l 5), show 58 - 6 * 4 = 64 - 6 * 5 by decide, dg_step h 5 (by decide)]
  rw [jf_step _ _ _ _ (by decide) (l 6), show 58 - 6 * 5 = 64 - 6 * 6 by decide, dg_step h 6 (by decide)]
  rw [jf_step _ _ _ _ (by decide) (l 7), show 58 - 6 * 6 = 64 - 6 * 7 by decide, dg_step h 7 (by decide)]
  rw [jf_step _ _ _ _ (by decide) (l 8), show 58 - 6 * 7 = 64 - 6 * 8 by decide, dg_step h 8 (by decide)]
  rw [jf_step _ _ _ _ (by decide) (l 9), show 58 - 6 * 8 = 64 - 6 * 9 by decide, dg_step h 9 (by decide)]
  rw [show 0 + 1 + 1 + 1 + 1 + 1 + 1 + 1 + 1 + 1 + 1 = 10 by decide, jf_last _ _ l10]
  congr 1
  simp [dg]
  omega

/-! ### mixed, and back -/
def c1 : BitVec 64 := 13787848793156543929#64
def c2 : BitVec 64 := 10723151780598845931#64
def d1 : BitVec 64 := 10871156337175269513#64
def d2 : BitVec 64 := 3573116690164977347#64
def mixB (x : BitVec 64) : BitVec 64 :=
  (((x ^^^ (x >>> 30)) * c1 ^^^ (((x ^^^ (x >>> 30)) * c1) >>> 27)) * c2) ^^^ ((((x ^^^ (x >>> 30)) * c1 ^^^ (((x ^^^ (x >>> 30)) * c1) >>> 27)) * c2) >>> 31)
def backB (h : BitVec 64) : BitVec 64 := usP (usP (usP h 31 2 * d2) 27 2 * d1) 30 2
theorem cd1 : c1 * d1 = 1#64 := by decide
theorem cd2 : c2 * d2 = 1#64 := by decide
theorem back_mix (x : BitVec 64) : backB (mixB x) = x := by
  unfold backB mixB
  rw [usP_back _ 31 2 (by decide), BitVec.mul_assoc, cd2, BitVec.mul_one, usP_back _ 27 2 (by decide), BitVec.mul_assoc, cd1, BitVec.mul_one, usP_back _ 30 2 (by decide)]
theorem dc1 : d1 * c1 = 1#64 := by decide
theorem dc2 : d2 * c2 = 1#64 := by decide
theorem mix_back (h : BitVec 64) : mixB (backB h) = h := by
  unfold backB mixB
  rw [usP_fwd _ 30 2 (by decide), BitVec.mul_assoc, dc1, BitVec.mul_one, usP_fwd _ 27 2 (by decide), BitVec.mul_assoc, dc2, BitVec.mul_one, usP_fwd _ 31 2 (by decide)]
theorem mix_inj (a b : BitVec 64) : mixB a = mixB b ↔ a = b := ⟨fun h => by rw [← back_mix a, h, back_mix], fun h => by rw [h]⟩
theorem usR_eq (x : BitVec 64) (n k : Nat) (hn : 1 ≤ n) (hk : 64 ≤ n * (k + 1)) : usR x n 64 = usP x n k :=
  us_inj n hn _ _ ((usR_fwd x n hn).trans (usP_fwd x n k hk).symm)
/-- the reference's inverse of an odd number, bit by bit: after k rounds, from bit 1 on -/
def invR (c : BitVec 64) : Nat → BitVec 64
  | 0 => 1#64
  | k + 1 => if ((c * invR c k) >>> (k + 1)) &&& 1#64 = 1#64 then invR c k ||| (1#64 <<< (k + 1)) else invR c k
set_option maxRecDepth 100000 in
theorem inv1 : invR c1 63 = d1 := by decide +kernel
set_option maxRecDepth 100000 in
theorem inv2 : invR c2 63 = d2 := by decide +kernel
end Go.Proofs.Ytjjoncfbddakkaa.Pl

/- Numbers of 256 bits as four words: plain facts. No program. -/
import Derived.Test.YtcfpgcejahfdfaaBits
namespace Go.Proofs.Ytcfpgcejahfdfaa
set_option linter.unusedVariables false
set_option linter.unusedSimpArgs false

/-- The i-th word. -/
def limb (i N : Nat) : Nat := N / 2 ^ (64 * i) % 2 ^ 64
/-- A number as the program holds it. -/
abbrev wd (N : Nat) : Value := .agg #[.int .u64 (limb 0 N : Nat), .int .u64 (limb 1 N : Nat), .int .u64 (limb 2 N : Nat), .int .u64 (limb 3 N : Nat)]
def val4 (a0 a1 a2 a3 : Nat) : Nat := a0 + 2 ^ 64 * a1 + 2 ^ 128 * a2 + 2 ^ 192 * a3

theorem limb_lt (i N : Nat) : limb i N < 2 ^ 64 := Nat.mod_lt _ (by decide)

theorem val_limbs (N : Nat) (h : N < 2 ^ 256) : val4 (limb 0 N) (limb 1 N) (limb 2 N) (limb 3 N) = N := by
  unfold val4 limb
  simp only [Nat.mul_zero, Nat.pow_zero, Nat.div_one, Nat.mul_one, show 64 * 2 = 128 by rfl, show 64 * 3 = 192 by rfl]
  have h1 : N / 2 ^ 128 = N / 2 ^ 64 / 2 ^ 64 := by rw [Nat.div_div_eq_div_mul, ← Nat.pow_add]
  have h2 : N / 2 ^ 192 = N / 2 ^ 64 / 2 ^ 64 / 2 ^ 64 := by rw [Nat.div_div_eq_div_mul, Nat.div_div_eq_div_mul, ← Nat.pow_add, ← Nat.pow_add]
  rw [h1, h2]
  omega

theorem limbs_val (a0 a1 a2 a3 : Nat) (h0 : a0 < 2 ^ 64) (h1 : a1 < 2 ^ 64) (h2 : a2 < 2 ^ 64) (h3 : a3 < 2 ^ 64) :
    limb 0 (val4 a0 a1 a2 a3) = a0 ∧ limb 1 (val4 a0 a1 a2 a3) = a1 ∧ limb 2 (val4 a0 a1 a2 a3) = a2 ∧ limb 3 (val4 a0 a1 a2 a3) = a3 := by
  unfold val4 limb
  simp only [Nat.mul_zero, Nat.pow_zero, Nat.div_one, Nat.mul_one, show 64 * 2 = 128 by rfl, show 64 * 3 = 192 by rfl]
  refine ⟨by omega, ?_, ?_, ?_⟩ <;> omega

theorem val_lt (a0 a1 a2 a3 : Nat) (h0 : a0 < 2 ^ 64) (h1 : a1 < 2 ^ 64) (h2 : a2 < 2 ^ 64) (h3 : a3 < 2 ^ 64) : val4 a0 a1 a2 a3 < 2 ^ 256 := by
  unfold val4; omega

theorem wd_val (a0 a1 a2 a3 : Nat) (h0 : a0 < 2 ^ 64) (h1 : a1 < 2 ^ 64) (h2 : a2 < 2 ^ 64) (h3 : a3 < 2 ^ 64) :
    Value.agg #[.int .u64 (a0 : Int), .int .u64 (a1 : Int), .int .u64 (a2 : Int), .int .u64 (a3 : Int)] = wd (val4 a0 a1 a2 a3) := by
  obtain ⟨e0, e1, e2, e3⟩ := limbs_val a0 a1 a2 a3 h0 h1 h2 h3
  simp only [wd, e0, e1, e2, e3]

/-- Words, and their number, tell each other. -/
theorem wd_eq (a0 a1 a2 a3 N : Nat) (h0 : a0 < 2 ^ 64) (h1 : a1 < 2 ^ 64) (h2 : a2 < 2 ^ 64) (h3 : a3 < 2 ^ 64) (h : val4 a0 a1 a2 a3 = N) :
    Value.agg #[.int .u64 (a0 : Int), .int .u64 (a1 : Int), .int .u64 (a2 : Int), .int .u64 (a3 : Int)] = wd N := by
  rw [← h]; exact wd_val a0 a1 a2 a3 h0 h1 h2 h3

theorem limb_small (n : Nat) (h : n < 2 ^ 64) : limb 0 n = n ∧ limb 1 n = 0 ∧ limb 2 n = 0 ∧ limb 3 n = 0 := by
  unfold limb
  simp only [Nat.mul_zero, Nat.pow_zero, Nat.div_one, Nat.mul_one, show 64 * 2 = 128 by rfl, show 64 * 3 = 192 by rfl]
  omega

/-- A word of a number shifted up by less than a word: of two words. -/
theorem limb_up (A r j : Nat) (hr : r < 64) : A * 2 ^ r / 2 ^ (64 * (j + 1)) % 2 ^ 64 = (limb (j + 1) A * 2 ^ r % 2 ^ 64) + limb j A / 2 ^ (64 - r) := by
  unfold limb
  have e1 : 2 ^ (64 * (j + 1)) = 2 ^ (64 * j) * (2 ^ (64 - r) * 2 ^ r) := by
    rw [← Nat.pow_add, ← Nat.pow_add]; congr 1; omega
  have p1 := Nat.two_pow_pos r
  have p2 := Nat.two_pow_pos (64 - r)
  have e64 : (2 : Nat) ^ 64 = 2 ^ (64 - r) * 2 ^ r := by rw [← Nat.pow_add, Nat.sub_add_cancel (by omega)]
  -- T: the number from word j on
  obtain ⟨T, hT⟩ : ∃ T, A / 2 ^ (64 * j) = T := ⟨_, rfl⟩
  have f1 : A * 2 ^ r / 2 ^ (64 * (j + 1)) = T / 2 ^ (64 - r) := by
    rw [e1, ← Nat.mul_assoc, Nat.mul_div_mul_right _ _ p1, ← Nat.div_div_eq_div_mul, hT]
  have f2 : A / 2 ^ (64 * (j + 1)) = T / 2 ^ 64 := by
    rw [show 64 * (j + 1) = 64 * j + 64 by omega, Nat.pow_add, ← Nat.div_div_eq_div_mul, hT]
  rw [f1, f2, hT]
  -- T / 2^(64-r) = (T / 2^64) * 2^r + (T % 2^64) / 2^(64-r)
  have f3 : T / 2 ^ (64 - r) = T / 2 ^ 64 * 2 ^ r + T % 2 ^ 64 / 2 ^ (64 - r) := by
    have hd : T = T / 2 ^ 64 * 2 ^ 64 + T % 2 ^ 64 := by omega
    have hd2 : T = (T / 2 ^ 64 * 2 ^ r) * 2 ^ (64 - r) + T % 2 ^ 64 := by
      rw [Nat.mul_assoc, Nat.mul_comm (2 ^ r), ← e64]; exact hd
    rw [hd2, Nat.mul_comm _ (2 ^ (64 - r)), Nat.mul_add_div p2, ← Nat.mul_comm _ (2 ^ (64 - r)), ← hd2]
  have f4 : T % 2 ^ 64 / 2 ^ (64 - r) < 2 ^ r := by
    rw [Nat.div_lt_iff_lt_mul p2]
    have : T % 2 ^ 64 < 2 ^ 64 := Nat.mod_lt _ (by decide)
    rw [Nat.mul_comm, ← e64]; exact this
  rw [f3]
  obtain ⟨U, hU⟩ : ∃ U, T / 2 ^ 64 = U := ⟨_, rfl⟩
  obtain ⟨L, hL⟩ : ∃ L, T % 2 ^ 64 / 2 ^ (64 - r) = L := ⟨_, rfl⟩
  rw [hU, hL]
  rw [hL] at f4
  have step : ∀ V : Nat, ∃ q, V * 2 ^ r = 2 ^ 64 * q + V % 2 ^ (64 - r) * 2 ^ r := fun V => by
    refine ⟨V / 2 ^ (64 - r), ?_⟩
    have hV := Nat.div_add_mod V (2 ^ (64 - r))
    calc V * 2 ^ r = (2 ^ (64 - r) * (V / 2 ^ (64 - r)) + V % 2 ^ (64 - r)) * 2 ^ r := by rw [hV]
      _ = 2 ^ (64 - r) * (V / 2 ^ (64 - r)) * 2 ^ r + V % 2 ^ (64 - r) * 2 ^ r := Nat.add_mul _ _ _
      _ = 2 ^ 64 * (V / 2 ^ (64 - r)) + V % 2 ^ (64 - r) * 2 ^ r := by
        rw [e64, Nat.mul_assoc, Nat.mul_comm (V / 2 ^ (64 - r)), ← Nat.mul_assoc]
  obtain ⟨q1, hq1⟩ := step U
  obtain ⟨q2, hq2⟩ := step (U % 2 ^ 64)
  have hmm : U % 2 ^ 64 % 2 ^ (64 - r) = U % 2 ^ (64 - r) := Nat.mod_mod_of_dvd _ (by rw [e64]; exact Nat.dvd_mul_right _ _)
  rw [hmm] at hq2
  obtain ⟨X, hX⟩ : ∃ X, U % 2 ^ (64 - r) * 2 ^ r = X := ⟨_, rfl⟩
  have hlt : X + 2 ^ r ≤ 2 ^ 64 := by
    have h1 : U % 2 ^ (64 - r) + 1 ≤ 2 ^ (64 - r) := Nat.mod_lt _ p2
    have h2 : (U % 2 ^ (64 - r) + 1) * 2 ^ r ≤ 2 ^ (64 - r) * 2 ^ r := Nat.mul_le_mul_right _ h1
    rw [Nat.succ_mul, hX, ← e64] at h2
    exact h2
  rw [hX] at hq1 hq2
  rw [hq1, hq2]
  omega

theorem limb_up0 (A r : Nat) : A * 2 ^ r / 2 ^ (64 * 0) % 2 ^ 64 = limb 0 A * 2 ^ r % 2 ^ 64 := by
  unfold limb
  simp [Nat.mod_mul_mod]

/-- What a shift reckons. -/
def shiftN (A : Nat) (by_ : Int) : Nat := if 0 ≤ by_ then A * 2 ^ by_.toNat % 2 ^ 256 else A / 2 ^ (-by_).toNat

/-- The word i - k of a number, 0 outside. -/
def atN (A : Nat) (i : Int) : Nat := if 0 ≤ i ∧ i < 4 then limb i.toNat A else 0

theorem limb_big (i A : Nat) (hA : A < 2 ^ 256) (hi : 4 ≤ i) : limb i A = 0 := by
  unfold limb
  have : 2 ^ 256 ≤ 2 ^ (64 * i) := Nat.pow_le_pow_right (by decide) (by omega)
  rw [Nat.div_eq_of_lt (by omega)]

theorem atN_nat (A i : Nat) (hA : A < 2 ^ 256) : atN A (i : Int) = limb i A := by
  unfold atN
  split
  · rfl
  · rw [limb_big i A hA (by omega)]

theorem atN_neg (A : Nat) (i : Int) (h : i < 0) : atN A i = 0 := by
  unfold atN; rw [if_neg (by omega)]

/-- A shifted number's words. -/
theorem shift_limb (A i : Nat) (k : Int) (r : Nat) (hA : A < 2 ^ 256) (hr : r < 64) (hi : i < 4) :
    limb i (shiftN A (64 * k + r)) = (atN A (i - k) * 2 ^ r % 2 ^ 64) + atN A (i - k - 1) / 2 ^ (64 - r) := by
  by_cases hk : 0 ≤ k
  · -- up
    obtain ⟨k, rfl⟩ : ∃ n : Nat, k = n := ⟨k.toNat, by omega⟩
    have e : shiftN A (64 * (k : Int) + r) = A * 2 ^ (64 * k + r) % 2 ^ 256 := by
      unfold shiftN; rw [if_pos (by omega)]; rfl
    rw [e]
    have e2 : limb i (A * 2 ^ (64 * k + r) % 2 ^ 256) = A * 2 ^ (64 * k + r) / 2 ^ (64 * i) % 2 ^ 64 := by
      unfold limb
      have e3 : 2 ^ 256 = 2 ^ (64 * i) * 2 ^ (256 - 64 * i) := by rw [← Nat.pow_add]; congr 1; omega
      rw [e3, Nat.mod_mul_right_div_self, Nat.mod_mod_of_dvd _ (Nat.pow_dvd_pow 2 (by omega))]
    rw [e2]
    by_cases h1 : i < k
    · rw [atN_neg _ _ (by omega), atN_neg _ _ (by omega)]
      have e4 : A * 2 ^ (64 * k + r) = A * 2 ^ (64 * (k - i - 1) + r) * 2 ^ 64 * 2 ^ (64 * i) := by
        rw [Nat.mul_assoc, Nat.mul_assoc, ← Nat.pow_add, ← Nat.pow_add]; congr 2; omega
      rw [e4, Nat.mul_div_cancel _ (Nat.two_pow_pos _), Nat.mul_mod_left]
      simp
    · obtain ⟨j, rfl⟩ : ∃ j, i = k + j := ⟨i - k, by omega⟩
      have e5 : A * 2 ^ (64 * k + r) / 2 ^ (64 * (k + j)) = A * 2 ^ r / 2 ^ (64 * j) := by
        rw [Nat.mul_add, Nat.pow_add, Nat.pow_add, Nat.mul_comm (2 ^ (64 * k)), ← Nat.mul_assoc, Nat.mul_comm (2 ^ (64 * k)), Nat.mul_div_mul_right _ _ (Nat.two_pow_pos _)]
      rw [e5, show (((k + j : Nat) : Int) - (k : Int)) = (j : Int) by omega, atN_nat A j hA]
      cases j with
      | zero => rw [limb_up0, atN_neg _ _ (by omega)]; simp
      | succ j => rw [limb_up A r j hr, show (((j + 1 : Nat) : Int) - 1) = (j : Int) by omega, atN_nat A j hA]
  · -- down
    obtain ⟨d, rfl⟩ : ∃ n : Nat, k = -((n : Int) + 1) := ⟨(-k - 1).toNat, by omega⟩
    have e : shiftN A (64 * (-((d : Int) + 1)) + r) = A / 2 ^ (64 * (d + 1) - r) := by
      unfold shiftN; rw [if_neg (by omega)]; congr 2; omega
    rw [e, show ((i : Int) - -((d : Int) + 1)) = ((i + d + 1 : Nat) : Int) by omega, show (((i + d + 1 : Nat) : Int) - 1) = ((i + d : Nat) : Int) by omega, atN_nat A _ hA, atN_nat A _ hA, ← limb_up A r (i + d) hr]
    unfold limb
    rw [Nat.div_div_eq_div_mul, ← Nat.pow_add]
    have e6 : 2 ^ (64 * (i + d + 1)) = 2 ^ (64 * (d + 1) - r + 64 * i) * 2 ^ r := by rw [← Nat.pow_add]; congr 1; omega
    rw [e6, Nat.mul_div_mul_right _ _ (Nat.two_pow_pos _)]

theorem sub_val {x0 x1 x2 x3 c0 c1 c2 c3 M N : Nat} (hM : M < 2 ^ 256) (hN : N < 2 ^ 256) (k0 : x0 < 2 ^ 64) (k1 : x1 < 2 ^ 64) (k2 : x2 < 2 ^ 64) (k3 : x3 < 2 ^ 64) (hc : c3 ≤ 1)
    (g0 : x0 + limb 0 N + 0 = limb 0 M + 2 ^ 64 * c0) (g1 : x1 + limb 1 N + c0 = limb 1 M + 2 ^ 64 * c1) (g2 : x2 + limb 2 N + c1 = limb 2 M + 2 ^ 64 * c2) (g3 : x3 + limb 3 N + c2 = limb 3 M + 2 ^ 64 * c3) :
    val4 x0 x1 x2 x3 = (M + 2 ^ 256 - N) % 2 ^ 256 ∧ (c3 = 1 ↔ M < N) := by
  have h := val_limbs M hM
  have h' := val_limbs N hN
  have hx := val_lt x0 x1 x2 x3 k0 k1 k2 k3
  have e : val4 x0 x1 x2 x3 + N = M + 2 ^ 256 * c3 := by
    unfold val4 at *
    generalize limb 0 M = a0 at *
    generalize limb 1 M = a1 at *
    generalize limb 2 M = a2 at *
    generalize limb 3 M = a3 at *
    generalize limb 0 N = b0 at *
    generalize limb 1 N = b1 at *
    generalize limb 2 N = b2 at *
    generalize limb 3 N = b3 at *
    omega
  generalize val4 x0 x1 x2 x3 = X at *
  clear g0 g1 g2 g3 h h' k0 k1 k2 k3
  rcases (show c3 = 0 ∨ c3 = 1 by omega) with rfl | rfl
  · have e2 : M + 2 ^ 256 - N = X + 2 ^ 256 := by omega
    rw [e2]
    omega
  · have e2 : M + 2 ^ 256 - N = X := by omega
    rw [e2]
    omega

/-- What two numbers compare as. -/
def cmpN (a b : Nat) : Int := if a < b then -1 else if b < a then 1 else 0

theorem cmpN_congr {M N a b : Nat} (h1 : M < N ↔ a < b) (h2 : N < M ↔ b < a) : cmpN M N = cmpN a b := by simp only [cmpN, h1, h2]

theorem cmpN_limbs (M N : Nat) (hM : M < 2 ^ 256) (hN : N < 2 ^ 256) : cmpN M N =
    if limb 3 M = limb 3 N then (if limb 2 M = limb 2 N then (if limb 1 M = limb 1 N then cmpN (limb 0 M) (limb 0 N) else cmpN (limb 1 M) (limb 1 N)) else cmpN (limb 2 M) (limb 2 N)) else cmpN (limb 3 M) (limb 3 N) := by
  have h := val_limbs M hM
  have h' := val_limbs N hN
  have l0 := limb_lt 0 M
  have l1 := limb_lt 1 M
  have l2 := limb_lt 2 M
  have l3 := limb_lt 3 M
  have m0 := limb_lt 0 N
  have m1 := limb_lt 1 N
  have m2 := limb_lt 2 N
  have m3 := limb_lt 3 N
  unfold val4 at h h'
  generalize limb 0 M = a0 at *
  generalize limb 1 M = a1 at *
  generalize limb 2 M = a2 at *
  generalize limb 3 M = a3 at *
  generalize limb 0 N = b0 at *
  generalize limb 1 N = b1 at *
  generalize limb 2 N = b2 at *
  generalize limb 3 N = b3 at *
  by_cases q3 : a3 = b3
  · rw [if_pos q3]
    by_cases q2 : a2 = b2
    · rw [if_pos q2]
      by_cases q1 : a1 = b1
      · rw [if_pos q1]; exact cmpN_congr (by omega) (by omega)
      · rw [if_neg q1]; exact cmpN_congr (by omega) (by omega)
    · rw [if_neg q2]; exact cmpN_congr (by omega) (by omega)
  · rw [if_neg q3]; exact cmpN_congr (by omega) (by omega)

end Go.Proofs.Ytcfpgcejahfdfaa

/- Long division bit by bit: plain facts. No program. -/
import Derived.Test.YtcfpgcejahfdfaaWideS
namespace Go.Proofs.Ytcfpgcejahfdfaa
set_option linter.unusedVariables false
set_option linter.unusedSimpArgs false

/-- A bit set in a number that has none up to it: its words. -/
theorem limb_set (c i j : Nat) (hj : i / 64 ≠ j) : limb j (2 ^ (i + 1) * c + 2 ^ i) = limb j (2 ^ (i + 1) * c) := by
  unfold limb
  by_cases h : i / 64 < j
  · have e : 2 ^ (64 * j) = 2 ^ (i + 1) * 2 ^ (64 * j - (i + 1)) := by rw [← Nat.pow_add]; congr 1; omega
    rw [e, ← Nat.div_div_eq_div_mul, ← Nat.div_div_eq_div_mul, Nat.mul_add_div (Nat.two_pow_pos _), Nat.mul_div_cancel_left _ (Nat.two_pow_pos _), Nat.div_eq_of_lt (Nat.pow_lt_pow_right (by decide) (by omega)), Nat.add_zero]
  · obtain ⟨d, hd⟩ : ∃ d, i = 64 * j + 64 + d := ⟨i - 64 * j - 64, by omega⟩
    have e1 : 2 ^ (i + 1) * c + 2 ^ i = 2 ^ (64 * j) * (2 ^ 64 * (2 ^ (d + 1) * c + 2 ^ d)) := by
      rw [hd, show 64 * j + 64 + d + 1 = 64 * j + (64 + (d + 1)) by omega, show 64 * j + 64 + d = 64 * j + (64 + d) by omega]
      simp only [Nat.pow_add, Nat.mul_add, Nat.mul_assoc]
    have e2 : 2 ^ (i + 1) * c = 2 ^ (64 * j) * (2 ^ 64 * (2 ^ (d + 1) * c)) := by
      rw [hd, show 64 * j + 64 + d + 1 = 64 * j + (64 + (d + 1)) by omega]
      simp only [Nat.pow_add, Nat.mul_assoc]
    rw [e1, e2, Nat.mul_div_cancel_left _ (Nat.two_pow_pos _), Nat.mul_div_cancel_left _ (Nat.two_pow_pos _), Nat.mul_mod_right, Nat.mul_mod_right]

theorem limb_set_at (c i : Nat) : limb (i / 64) (2 ^ (i + 1) * c + 2 ^ i) = limb (i / 64) (2 ^ (i + 1) * c) + 2 ^ (i % 64) ∧ limb (i / 64) (2 ^ (i + 1) * c) % 2 ^ (i % 64 + 1) = 0 ∧ limb (i / 64) (2 ^ (i + 1) * c) + 2 ^ (i % 64) < 2 ^ 64 := by
  obtain ⟨j, hj⟩ : ∃ j, i / 64 = j := ⟨_, rfl⟩
  obtain ⟨m, hm⟩ : ∃ m, i % 64 = m := ⟨_, rfl⟩
  have hi : i = 64 * j + m := by omega
  have hm2 : m < 64 := by omega
  rw [hj, hm]
  unfold limb
  have e1 : 2 ^ (i + 1) * c + 2 ^ i = 2 ^ (64 * j) * (2 ^ (m + 1) * c + 2 ^ m) := by
    rw [hi, show 64 * j + m + 1 = 64 * j + (m + 1) by omega]
    simp only [Nat.pow_add, Nat.mul_add, Nat.mul_assoc]
  have e2 : 2 ^ (i + 1) * c = 2 ^ (64 * j) * (2 ^ (m + 1) * c) := by
    rw [hi, show 64 * j + m + 1 = 64 * j + (m + 1) by omega]
    simp only [Nat.pow_add, Nat.mul_assoc]
  rw [e1, e2, Nat.mul_div_cancel_left _ (Nat.two_pow_pos _), Nat.mul_div_cancel_left _ (Nat.two_pow_pos _)]
  have e3 : (2 : Nat) ^ 64 = 2 ^ (m + 1) * 2 ^ (63 - m) := by rw [← Nat.pow_add]; congr 1; omega
  have f : (2 ^ (m + 1) * c) % 2 ^ 64 = 2 ^ (m + 1) * (c % 2 ^ (63 - m)) := by rw [e3, Nat.mul_mod_mul_left]
  have g : c % 2 ^ (63 - m) + 1 ≤ 2 ^ (63 - m) := Nat.mod_lt _ (Nat.two_pow_pos _)
  have g2 : 2 ^ (m + 1) * (c % 2 ^ (63 - m)) + 2 ^ (m + 1) ≤ 2 ^ 64 := by
    rw [e3, ← Nat.mul_succ]; exact Nat.mul_le_mul_left _ g
  have g3 : 2 ^ (m + 1) = 2 * 2 ^ m := by rw [Nat.pow_succ, Nat.mul_comm]
  have g4 := Nat.two_pow_pos m
  refine ⟨?_, ?_, ?_⟩
  · rw [Nat.add_mod, f, Nat.mod_eq_of_lt (a := 2 ^ m) (by omega)]
    rw [Nat.mod_eq_of_lt (by omega)]
  · rw [f, Nat.mul_mod_right]
  · rw [f]; omega

/-- A bit of a number, through its word. -/
theorem limb_bit (A i : Nat) : limb (i / 64) A / 2 ^ (i % 64) % 2 = A / 2 ^ i % 2 := by
  unfold limb
  have hi : 2 ^ i = 2 ^ (64 * (i / 64)) * 2 ^ (i % 64) := by rw [← Nat.pow_add]; congr 1; omega
  rw [hi, ← Nat.div_div_eq_div_mul]
  generalize A / 2 ^ (64 * (i / 64)) = T
  have e3 : (2 : Nat) ^ 64 = 2 ^ (i % 64) * (2 * 2 ^ (63 - i % 64)) := by
    rw [← Nat.pow_succ', ← Nat.pow_add]; congr 1; omega
  rw [e3, Nat.mod_mul_right_div_self, Nat.mod_mul_right_mod]

/-- One step of long division. -/
theorem quot_step (a b bit : Nat) (hb : 0 < b) (hbit : bit ≤ 1) :
    (b ≤ 2 * (a % b) + bit → (2 * a + bit) % b = 2 * (a % b) + bit - b ∧ (2 * a + bit) / b = 2 * (a / b) + 1) ∧
    (2 * (a % b) + bit < b → (2 * a + bit) % b = 2 * (a % b) + bit ∧ (2 * a + bit) / b = 2 * (a / b)) := by
  have h := Nat.div_add_mod a b
  have hl := Nat.mod_lt a hb
  generalize a % b = R at *
  generalize hq : a / b = q at *
  have e : 2 * a + bit = b * (2 * q) + (2 * R + bit) := by
    rw [← h, Nat.mul_add, Nat.mul_left_comm]; omega
  constructor
  · intro hge
    have e2 : 2 * a + bit = b * (2 * q + 1) + (2 * R + bit - b) := by rw [e, Nat.mul_succ]; omega
    rw [e2]
    exact ⟨by rw [Nat.mul_add_mod, Nat.mod_eq_of_lt (by omega)], by rw [Nat.mul_add_div hb, Nat.div_eq_of_lt (by omega)]⟩
  · intro hlt
    rw [e]
    exact ⟨by rw [Nat.mul_add_mod, Nat.mod_eq_of_lt hlt], by rw [Nat.mul_add_div hb, Nat.div_eq_of_lt hlt]; rfl⟩

theorem div_pow_step (A k : Nat) : A / 2 ^ k = 2 * (A / 2 ^ (k + 1)) + A / 2 ^ k % 2 := by
  rw [Nat.pow_succ, ← Nat.div_div_eq_div_mul]; omega

theorem limb3_over (R : Nat) (hR : R < 2 ^ 256) : limb 3 R / 2 ^ 63 = if 2 ^ 255 ≤ R then 1 else 0 := by
  unfold limb
  have e : R / 2 ^ (64 * 3) < 2 ^ 64 := by rw [Nat.div_lt_iff_lt_mul (by decide)]; exact hR
  rw [Nat.mod_eq_of_lt e, Nat.div_div_eq_div_mul, show 2 ^ (64 * 3) * 2 ^ 63 = 2 ^ 255 by decide]
  split <;> omega

theorem shift_one (R : Nat) : shiftN R 1 = 2 * R % 2 ^ 256 := by
  unfold shiftN; rw [if_pos (by decide), Nat.mul_comm]; rfl

/-- The low bit set in an even number. -/
theorem low_bit (S bit : Nat) (hS : S % 2 = 0) (hbit : bit ≤ 1) : limb 0 (S + bit) = limb 0 S + bit ∧ limb 1 (S + bit) = limb 1 S ∧ limb 2 (S + bit) = limb 2 S ∧ limb 3 (S + bit) = limb 3 S ∧ limb 0 S % 2 = 0 := by
  have e : S = 2 ^ (0 + 1) * (S / 2) := by omega
  have h0 : limb 0 S % 2 = 0 := by rw [e]; exact (limb_set_at (S / 2) 0).2.1
  rcases (show bit = 0 ∨ bit = 1 by omega) with rfl | rfl
  · exact ⟨rfl, rfl, rfl, rfl, h0⟩
  · refine ⟨?_, ?_, ?_, ?_, h0⟩
    · rw [e]; exact (limb_set_at (S / 2) 0).1
    · rw [e]; exact limb_set (S / 2) 0 1 (by decide)
    · rw [e]; exact limb_set (S / 2) 0 2 (by decide)
    · rw [e]; exact limb_set (S / 2) 0 3 (by decide)

theorem quot_round {A b n R S bt : Nat} (hb : b < 2 ^ 256) (hR : A / 2 ^ (n + 1) % b = R) (hRb : R < b) (hS : 2 * R % 2 ^ 256 = S) (hbt : bt = A / 2 ^ n % 2) :
    S + bt < 2 ^ 256 ∧
    (2 ^ 255 ≤ R ∨ b ≤ S + bt → A / 2 ^ n % b = (S + bt + 2 ^ 256 - b) % 2 ^ 256 ∧ A / 2 ^ n / b = 2 * (A / 2 ^ (n + 1) / b) + 1) ∧
    (R < 2 ^ 255 → S + bt < b → A / 2 ^ n % b = S + bt ∧ A / 2 ^ n / b = 2 * (A / 2 ^ (n + 1) / b)) := by
  have h1 := div_pow_step A n
  rw [← hbt] at h1
  have h2 := quot_step (A / 2 ^ (n + 1)) b bt (by omega) (by omega)
  rw [← h1, hR] at h2
  obtain ⟨h2, h3⟩ := h2
  have hb1 : bt ≤ 1 := by omega
  clear h1 hbt hR
  generalize A / 2 ^ n % b = U at *
  generalize A / 2 ^ n / b = V at *
  generalize A / 2 ^ (n + 1) / b = X at *
  refine ⟨by omega, fun h => ?_, fun h h' => ?_⟩
  · by_cases c : 2 ^ 255 ≤ R
    · obtain ⟨rfl, rfl⟩ := h2 (by omega)
      exact ⟨by omega, rfl⟩
    · have e : S = 2 * R := by omega
      obtain ⟨rfl, rfl⟩ := h2 (by omega)
      exact ⟨by omega, rfl⟩
  · have e : S = 2 * R := by omega
    obtain ⟨rfl, rfl⟩ := h3 (by omega)
    exact ⟨by omega, rfl⟩

theorem quot_q {q n j m : Nat} (l : Nat) (hj : n / 64 = j) (hm : n % 64 = m) (hl : limb j (q * 2 ^ (n + 1)) = l) :
    l < 2 ^ 64 ∧ l % 2 ^ (m + 1) = 0 ∧ m + 1 ≤ 64 ∧ l + 2 ^ m = limb j ((2 * q + 1) * 2 ^ n) ∧ ∀ j', j' ≠ j → limb j' ((2 * q + 1) * 2 ^ n) = limb j' (q * 2 ^ (n + 1)) := by
  have e : (2 * q + 1) * 2 ^ n = 2 ^ (n + 1) * q + 2 ^ n := by
    rw [Nat.add_mul, Nat.one_mul, Nat.pow_succ]; congr 1; rw [Nat.mul_comm 2 q, Nat.mul_assoc, Nat.mul_comm, Nat.mul_comm 2]
  rw [Nat.mul_comm] at hl
  have h := limb_set_at q n
  rw [hj, hm, hl] at h
  refine ⟨by have := h.2.2; have := Nat.two_pow_pos m; omega, h.2.1, by omega, by rw [e]; exact h.1.symm, fun j' hne => ?_⟩
  rw [e, Nat.mul_comm q]
  exact limb_set q n j' (by omega)
end Go.Proofs.Ytcfpgcejahfdfaa

/- Plain facts on bit lengths, wraps and masks. No program. -/
import Derived.Lib.ItoaNum
import Derived.Laws.Bits64
import Derived.Laws.Bits64b
import Derived.Laws.BitsAllLaws
import Derived.IntWalk
namespace Go.Proofs.Ytcfpgcejahfdfab
open Go.Lib
set_option linter.unusedVariables false
set_option linter.unusedSimpArgs false

theorem bl_zero : bitLen 0 = 0 := by decide

theorem bl_bounds (x : Nat) (h : x < 2 ^ 64) (h0 : x ≠ 0) : 1 ≤ bitLen x ∧ 2 ^ (bitLen x - 1) ≤ x ∧ x < 2 ^ bitLen x :=
  bitLenAux_bounds 64 x h h0

theorem bl_le (x k : Nat) (h : x < 2 ^ k) : bitLen x ≤ k := bitLenAux_le 64 x k h

theorem bl_unique (x k : Nat) (h : x < 2 ^ 64) (h1 : 2 ^ k ≤ x) (h2 : x < 2 ^ (k + 1)) : bitLen x = k + 1 := by
  have h0 : x ≠ 0 := by
    intro e; subst e
    have := Nat.two_pow_pos k
    omega
  obtain ⟨b1, b2, b3⟩ := bl_bounds x h h0
  have c1 := bl_le x (k + 1) h2
  by_cases hk : bitLen x ≤ k
  · have := Nat.pow_le_pow_right (n := 2) (by decide) hk
    omega
  · omega

/-- ones at the end: x * 2^s + (2^s - 1). -/
theorem bl_shift_ones (x s : Nat) (hx : x ≠ 0) (h : (x + 1) * 2 ^ s ≤ 2 ^ 64) : bitLen (x * 2 ^ s + (2 ^ s - 1)) = bitLen x + s := by
  have hs := Nat.two_pow_pos s
  have hx64 : x < 2 ^ 64 := by
    have : x + 1 ≤ (x + 1) * 2 ^ s := Nat.le_mul_of_pos_right _ hs
    omega
  obtain ⟨b1, b2, b3⟩ := bl_bounds x hx64 hx
  obtain ⟨k, hk⟩ : ∃ k, bitLen x = k + 1 := ⟨bitLen x - 1, by omega⟩
  rw [hk] at b2 b3
  simp only [Nat.add_sub_cancel] at b2
  have e : bitLen (x * 2 ^ s + (2 ^ s - 1)) = (k + s) + 1 := by
    apply bl_unique
    · have : (x + 1) * 2 ^ s = x * 2 ^ s + 2 ^ s := Nat.succ_mul _ _
      omega
    · rw [Nat.pow_add]
      exact Nat.le_trans (Nat.mul_le_mul_right _ b2) (Nat.le_add_right _ _)
    · have h3 : (x + 1) * 2 ^ s ≤ 2 ^ (k + 1) * 2 ^ s := Nat.mul_le_mul_right _ b3
      have : (x + 1) * 2 ^ s = x * 2 ^ s + 2 ^ s := Nat.succ_mul _ _
      have e2 : 2 ^ (k + s + 1) = 2 ^ (k + 1) * 2 ^ s := by rw [← Nat.pow_add]; congr 1; omega
      omega
  rw [e, hk]; omega

theorem wrap_u64_nat (x : Nat) : IntKind.u64.wrap (x : Int) = ((x % 2 ^ 64 : Nat) : Int) := by
  rw [IntKind.wrap_u64]; omega

theorem wrap_u64_in (x : Nat) (h : x < 2 ^ 64) : IntKind.u64.wrap (x : Int) = (x : Int) := by
  rw [IntKind.wrap_u64]; omega

/-- 2 << R on 64 bits. -/
theorem shl_pow (a k : Nat) : IntKind.u64.wrap ((a : Int) * 2 ^ k) = ((a * 2 ^ k % 2 ^ 64 : Nat) : Int) := by
  rw [show ((a : Int) * 2 ^ k) = ((a * 2 ^ k : Nat) : Int) by simp, wrap_u64_nat]

theorem not_u64 (x : Nat) (h : x < 2 ^ 64) : bits .xor .u64 IntKind.u64.max (x : Int) = ((2 ^ 64 - 1 - x : Nat) : Int) := by
  have e : (IntKind.u64.max : Int) = ((2 ^ 64 - 1 : Nat) : Int) := by decide
  rw [e, u64_xor_nat _ _ (by decide) (by simpa using h)]
  congr 1
  apply Nat.eq_of_testBit_eq
  intro i
  have h2 : (2 ^ 64 - 1 - x).testBit i = (decide (i < 64) && !x.testBit i) := by
    rw [show 2 ^ 64 - 1 - x = 2 ^ 64 - (x + 1) by omega]
    exact Nat.testBit_two_pow_sub_succ h i
  rw [h2, Nat.testBit_xor, Nat.testBit_two_pow_sub_one]
  by_cases hi : i < 64
  · simp [hi]
  · have : x.testBit i = false := Nat.testBit_lt_two_pow (Nat.lt_of_lt_of_le h (Nat.pow_le_pow_right (by decide) (by omega)))
    simp [hi, this]

theorem and_mask (x k : Nat) (hx : x < 2 ^ 64) (hk : k ≤ 64) : bits .and .u64 (x : Int) ((2 ^ k - 1 : Nat) : Int) = ((x % 2 ^ k : Nat) : Int) := by
  have : 2 ^ k ≤ 2 ^ 64 := Nat.pow_le_pow_right (by decide) hk
  rw [u64_and_nat _ _ (by simpa using hx) (by have := Nat.two_pow_pos k; omega), Nat.and_two_pow_sub_one_eq_mod]

theorem or_pow (x k : Nat) (hx : x < 2 ^ k) (hk : k < 64) : bits .or .u64 (x : Int) ((2 ^ k : Nat) : Int) = ((x + 2 ^ k : Nat) : Int) := by
  have h1 : 2 ^ k < 2 ^ 64 := Nat.pow_lt_pow_right (by decide) hk
  rw [u64_or_nat _ _ (by omega) (by omega), Nat.or_comm]
  congr 1
  have := Nat.two_pow_add_eq_or_of_lt hx 1
  simp at this
  omega

theorem xor_one (x : Nat) (h : x < 2 ^ 64) : bits .xor .u64 (x : Int) 1 = ((if x % 2 = 0 then x + 1 else x - 1 : Nat) : Int) := by
  rw [show (1 : Int) = ((1 : Nat) : Int) by rfl, u64_xor_nat x 1 (by simpa using h) (by decide)]
  congr 1
  have h1 := Nat.xor_mod_two_eq_one (a := x) (b := 1)
  have h2 : (x ^^^ 1) / 2 = x / 2 := by simp [Nat.xor_div_two]
  split
  · rename_i hx
    have : (x ^^^ 1) % 2 = 1 := h1.2 (by omega)
    omega
  · rename_i hx
    have : ¬ (x ^^^ 1) % 2 = 1 := fun e => (h1.1 e) (by omega)
    omega

theorem and_one (x : Nat) (h : x < 2 ^ 64) : bits .and .u64 (x : Int) 1 = ((x % 2 : Nat) : Int) := by
  have := and_mask x 1 h (by decide)
  simpa using this

end Go.Proofs.Ytcfpgcejahfdfab

/- What package target reckons: plain facts. No program. -/
import Derived.Test.YtcfpgcejahfdfaaWideS
import Derived.Test.YtcfpgcejahfdfaaWideB
namespace Go.Proofs.Ytcfpgcejahfdfaa
set_option linter.unusedVariables false
set_option linter.unusedSimpArgs false

/-- Of bits: the mantissa, the sign, the shift. -/
def manN (c : Nat) : Nat := c % 2 ^ 23
def sgnN (c : Nat) : Nat := c &&& 8388608
def shN (c : Nat) : Int := 8 * ((c / 2 ^ 24 : Nat) - 3 : Int)
def expW (c : Nat) : Nat := shiftN (manN c) (shN c)
/-- Whether bits are bad. -/
def expBad (c : Nat) : Bool := (manN c != 0 && sgnN c != 0) || (expW c == 0) || decide (256 < shN c + Lib.bitLen (manN c))
def expT (c : Nat) : Nat := if expBad c then 0 else expW c
def expE (c : Nat) : Int := if expBad c then 11 else 0

theorem shiftN_lt (A : Nat) (s : Int) (hA : A < 2 ^ 256) : shiftN A s < 2 ^ 256 := by
  unfold shiftN
  split
  · exact Nat.mod_lt _ (by decide)
  · exact Nat.lt_of_le_of_lt (Nat.div_le_self _ _) hA

theorem manN_lt (c : Nat) : manN c < 2 ^ 23 := Nat.mod_lt _ (by decide)

theorem expW_lt (c : Nat) : expW c < 2 ^ 256 := shiftN_lt _ _ (Nat.lt_trans (manN_lt c) (by decide))

theorem expT_lt (c : Nat) : expT c < 2 ^ 256 := by
  unfold expT; split
  · decide
  · exact expW_lt c

/-- Good bits: more than nothing, and not the greatest number. -/
theorem exp_good (c : Nat) (h : expE c = 0) : 1 ≤ expT c ∧ expT c + 1 < 2 ^ 256 := by
  unfold expE at h
  have hb : expBad c = false := by
    cases hb : expBad c
    · rfl
    · rw [hb] at h; exact absurd h (by decide)
  unfold expT
  rw [hb]
  simp only [Bool.false_eq_true, if_false]
  have hb2 := hb
  unfold expBad at hb2
  have h0 : expW c ≠ 0 := by
    intro e
    rw [e] at hb2
    simp at hb2
  refine ⟨by omega, ?_⟩
  have hm := manN_lt c
  have key : expW c < 2 ^ 23 ∨ expW c % 2 = 0 := by
    unfold expW shiftN
    split
    · next hs =>
      by_cases h8 : shN c = 0
      · left
        rw [h8]
        simp
        exact Nat.lt_of_le_of_lt (Nat.mod_le _ _) hm
      · right
        have : 1 ≤ (shN c).toNat := by unfold shN at *; omega
        obtain ⟨k, hk⟩ : ∃ k, (shN c).toNat = k + 1 := ⟨(shN c).toNat - 1, by omega⟩
        rw [hk, Nat.pow_succ, ← Nat.mul_assoc]
        omega
    · left
      exact Nat.lt_of_le_of_lt (Nat.div_le_self _ _) hm
  have := expW_lt c
  rcases key with k | k
  · omega
  · omega

/-- What a target is worth. -/
def workN (T : Nat) : Nat := (2 ^ 256 - 1 - T) / (T + 1) + 1

theorem workN_eq (T : Nat) (hT : T + 1 < 2 ^ 256) : workN T = 2 ^ 256 / (T + 1) := by
  unfold workN
  obtain ⟨X, hX⟩ : ∃ X : Nat, 2 ^ 256 - 1 - T = X := ⟨_, rfl⟩
  rw [hX, show 2 ^ 256 = X + (T + 1) by omega, Nat.add_div_right _ (Nat.succ_pos T)]

theorem workN_lt (T : Nat) (h1 : 1 ≤ T) (hT : T + 1 < 2 ^ 256) : workN T < 2 ^ 256 := by
  rw [workN_eq T hT]
  exact Nat.div_lt_self (by decide) (by omega)

theorem workN_pos (T : Nat) : 1 ≤ workN T := Nat.le_add_left _ _

theorem workN_mono (S T : Nat) (hS : S + 1 < 2 ^ 256) (hT : T + 1 < 2 ^ 256) (h : S ≤ T) : workN T ≤ workN S := by
  rw [workN_eq S hS, workN_eq T hT]
  exact Nat.div_le_div_left (by omega) (by omega)

/-- The statement's own way to it. -/
theorem work_law (T : Nat) (hT : T + 1 < 2 ^ 256) : (if (2 ^ 256 - 1) % (T + 1) + 1 = T + 1 then (2 ^ 256 - 1) / (T + 1) + 1 else (2 ^ 256 - 1) / (T + 1)) = workN T := by
  rw [workN_eq T hT]
  obtain ⟨d, hd⟩ : ∃ d, T + 1 = d := ⟨_, rfl⟩
  have h0 : 0 < d := by omega
  rw [hd]
  obtain ⟨M, hM⟩ : ∃ M : Nat, 2 ^ 256 - 1 = M := ⟨_, rfl⟩
  rw [hM, show 2 ^ 256 = M + 1 by omega]
  have h := Nat.div_add_mod M d
  have hl := Nat.mod_lt M h0
  generalize M % d = r at *
  generalize M / d = q at *
  rw [← h]
  split
  · next e =>
    rw [Nat.add_assoc, e, ← Nat.mul_succ, Nat.mul_div_cancel_left _ h0]
  · next e =>
    rw [Nat.add_assoc, Nat.mul_add_div h0, Nat.div_eq_of_lt (by omega), Nat.add_zero]

/-- Does a name, as a number, meet its bits. -/
def meetsN (I c l : Nat) : Int := if expE c ≠ 0 ∨ expE l ≠ 0 ∨ expT l < expT c then 11 else if expT c < I then 10 else 0
end Go.Proofs.Ytcfpgcejahfdfaa

/- The walk of wide.Bits. (Printed by gen_bits.py.) -/
import Derived.Test.YtcfpgcejahfdfaaWideS
namespace Go.Proofs.Ytcfpgcejahfdfaa
open Go.RowKit
set_option linter.unusedVariables false
set_option linter.unusedSimpArgs false

/-- How many bits a number has. -/
def bitsN (A : Nat) : Nat := if limb 3 A ≠ 0 then 192 + Lib.bitLen (limb 3 A) else if limb 2 A ≠ 0 then 128 + Lib.bitLen (limb 2 A) else if limb 1 A ≠ 0 then 64 + Lib.bitLen (limb 1 A) else Lib.bitLen (limb 0 A)

theorem bitsN_le (A : Nat) : bitsN A ≤ 256 := by
  have h : ∀ i, Lib.bitLen (limb i A) ≤ 64 := fun i => bl_le _ 64 (limb_lt i A)
  have h0 := h 0
  have h1 := h 1
  have h2 := h 2
  have h3 := h 3
  unfold bitsN
  split
  · omega
  · split
    · omega
    · split <;> omega

theorem bl_lt (x : Nat) (h : x < 2 ^ 64) : x < 2 ^ Lib.bitLen x := by
  by_cases h0 : x = 0
  · subst h0; decide
  · exact (bl_bounds x h h0).2.2

theorem bitsN_lt (A : Nat) (hA : A < 2 ^ 256) : A < 2 ^ bitsN A := by
  have hv := val_limbs A hA
  have key : ∀ (k x lo : Nat), x < 2 ^ 64 → lo < 2 ^ k → lo + 2 ^ k * x < 2 ^ (k + Lib.bitLen x) := fun k x lo hx hlo => by
    have := bl_lt x hx
    have h2 : 2 ^ k * (x + 1) ≤ 2 ^ k * 2 ^ Lib.bitLen x := Nat.mul_le_mul_left _ this
    rw [Nat.mul_succ] at h2
    rw [Nat.pow_add]; omega
  have l0 := limb_lt 0 A
  have l1 := limb_lt 1 A
  have l2 := limb_lt 2 A
  have l3 := limb_lt 3 A
  unfold val4 at hv
  unfold bitsN
  split
  · have := key 192 (limb 3 A) (limb 0 A + 2 ^ 64 * limb 1 A + 2 ^ 128 * limb 2 A) l3 (by omega)
    rw [hv] at this; exact this
  · next q3 =>
    have q3 : limb 3 A = 0 := by omega
    rw [q3] at hv
    split
    · have := key 128 (limb 2 A) (limb 0 A + 2 ^ 64 * limb 1 A) l2 (by omega)
      rw [show limb 0 A + 2 ^ 64 * limb 1 A + 2 ^ 128 * limb 2 A = A by omega] at this; exact this
    · next q2 =>
      have q2 : limb 2 A = 0 := by omega
      rw [q2] at hv
      split
      · have := key 64 (limb 1 A) (limb 0 A) l1 (by omega)
        rw [show limb 0 A + 2 ^ 64 * limb 1 A = A by omega] at this; exact this
      · next q1 =>
        have q1 : limb 1 A = 0 := by omega
        rw [q1] at hv
        have := bl_lt (limb 0 A) l0
        rw [show limb 0 A = A by omega] at this ⊢; exact this

set_option maxHeartbeats 1000000 in
theorem Bits_any (A : Nat) (w : World) : Calls Try.prog 41 #[wd A] w fun e w' => e = .returned (.int .i64 (bitsN A : Nat)) ∧ Below w.heap.size w w' := by
  have hb : ∀ i, Lib.bitLen (limb i A) ≤ 64 := fun i => bl_le _ 64 (limb_lt i A)
  unfold bitsN
  by_cases q3 : limb 3 A = 0
  case neg =>
    have r3 : ((limb 3 A : Int) != 0) = true := by simp; omega
    obtain ⟨l, hl, hl0, hl1, HL⟩ : ∃ l : Nat, Lib.bitLen (limb 3 A) = l ∧ (0 : Int) ≤ (l : Int) ∧ (l : Int) ≤ 64 ∧ Hid (Lib.bitLen (limb 3 A) = l) := ⟨_, rfl, by omega, by have := hb 3; omega, rfl⟩
    have cL : ∀ w : World, Calls Try.prog 29 #[.int .u64 (limb 3 A : Nat)] w fun e w' => e = .returned (.int .i64 (l : Nat)) ∧ w = w' := fun w => by
      have := Try.bits_Len64 (limb 3 A : Nat) w (by omega) (by have := limb_lt 3 A; omega)
      refine this.mono ?_
      rintro e w' ⟨rfl, rfl⟩
      exact ⟨by rw [← HL.out]; rfl, rfl⟩
    clear hb
    try simp only [ne_eq, not_true_eq_false, if_false, q3, not_false_eq_true, if_true, hl]
    go_enter Try.func41, Try.ntmps41
    go_wp2_with fail
    refine wp_loop_rounds 5 ?_
    rw [rounds_succ]
    go_wp2_with (with_reducible refine (cL _).mono ?_; rintro e w' ⟨rfl, rfl⟩)
    go_ret
    refine ⟨ret1 (ival ?_), bl_alloc (Below.refl _ _)⟩
    first | rfl | (push_cast; omega) | omega
  have r3 : ((limb 3 A : Int) != 0) = false := by simp; omega
  by_cases q2 : limb 2 A = 0
  case neg =>
    have r2 : ((limb 2 A : Int) != 0) = true := by simp; omega
    obtain ⟨l, hl, hl0, hl1, HL⟩ : ∃ l : Nat, Lib.bitLen (limb 2 A) = l ∧ (0 : Int) ≤ (l : Int) ∧ (l : Int) ≤ 64 ∧ Hid (Lib.bitLen (limb 2 A) = l) := ⟨_, rfl, by omega, by have := hb 2; omega, rfl⟩
    have cL : ∀ w : World, Calls Try.prog 29 #[.int .u64 (limb 2 A : Nat)] w fun e w' => e = .returned (.int .i64 (l : Nat)) ∧ w = w' := fun w => by
      have := Try.bits_Len64 (limb 2 A : Nat) w (by omega) (by have := limb_lt 2 A; omega)
      refine this.mono ?_
      rintro e w' ⟨rfl, rfl⟩
      exact ⟨by rw [← HL.out]; rfl, rfl⟩
    clear hb
    try simp only [q3, ne_eq, not_true_eq_false, if_false, q2, not_false_eq_true, if_true, hl]
    go_enter Try.func41, Try.ntmps41
    go_wp2_with fail
    refine wp_loop_rounds 5 ?_
    rw [rounds_succ]
    go_wp2_with (with_reducible refine (cL _).mono ?_; rintro e w' ⟨rfl, rfl⟩)
    rw [rounds_succ]
    go_wp2_with (with_reducible refine (cL _).mono ?_; rintro e w' ⟨rfl, rfl⟩)
    go_ret
    refine ⟨ret1 (ival ?_), bl_alloc (Below.refl _ _)⟩
    first | rfl | (push_cast; omega) | omega
  have r2 : ((limb 2 A : Int) != 0) = false := by simp; omega
  by_cases q1 : limb 1 A = 0
  case neg =>
    have r1 : ((limb 1 A : Int) != 0) = true := by simp; omega
    obtain ⟨l, hl, hl0, hl1, HL⟩ : ∃ l : Nat, Lib.bitLen (limb 1 A) = l ∧ (0 : Int) ≤ (l : Int) ∧ (l : Int) ≤ 64 ∧ Hid (Lib.bitLen (limb 1 A) = l) := ⟨_, rfl, by omega, by have := hb 1; omega, rfl⟩
    have cL : ∀ w : World, Calls Try.prog 29 #[.int .u64 (limb 1 A : Nat)] w fun e w' => e = .returned (.int .i64 (l : Nat)) ∧ w = w' := fun w => by
      have := Try.bits_Len64 (limb 1 A : Nat) w (by omega) (by have := limb_lt 1 A; omega)
      refine this.mono ?_
      rintro e w' ⟨rfl, rfl⟩
      exact ⟨by rw [← HL.out]; rfl, rfl⟩
    clear hb
    try simp only [q3, q2, ne_eq, not_true_eq_false, if_false, q1, not_false_eq_true, if_true, hl]
    go_enter Try.func41, Try.ntmps41
    go_wp2_with fail
    refine wp_loop_rounds 5 ?_
    rw [rounds_succ]
    go_wp2_with (with_reducible refine (cL _).mono ?_; rintro e w' ⟨rfl, rfl⟩)
    rw [rounds_succ]
    go_wp2_with (with_reducible refine (cL _).mono ?_; rintro e w' ⟨rfl, rfl⟩)
    rw [rounds_succ]
    go_wp2_with (with_reducible refine (cL _).mono ?_; rintro e w' ⟨rfl, rfl⟩)
    go_ret
    refine ⟨ret1 (ival ?_), bl_alloc (Below.refl _ _)⟩
    first | rfl | (push_cast; omega) | omega
  have r1 : ((limb 1 A : Int) != 0) = false := by simp; omega
  by_cases q0 : limb 0 A = 0
  case neg =>
    have r0 : ((limb 0 A : Int) != 0) = true := by simp; omega
    obtain ⟨l, hl, hl0, hl1, HL⟩ : ∃ l : Nat, Lib.bitLen (limb 0 A) = l ∧ (0 : Int) ≤ (l : Int) ∧ (l : Int) ≤ 64 ∧ Hid (Lib.bitLen (limb 0 A) = l) := ⟨_, rfl, by omega, by have := hb 0; omega, rfl⟩
    have cL : ∀ w : World, Calls Try.prog 29 #[.int .u64 (limb 0 A : Nat)] w fun e w' => e = .returned (.int .i64 (l : Nat)) ∧ w = w' := fun w => by
      have := Try.bits_Len64 (limb 0 A : Nat) w (by omega) (by have := limb_lt 0 A; omega)
      refine this.mono ?_
      rintro e w' ⟨rfl, rfl⟩
      exact ⟨by rw [← HL.out]; rfl, rfl⟩
    clear hb
    try simp only [q3, q2, q1, ne_eq, not_true_eq_false, if_false, q0, not_false_eq_true, if_true, hl]
    go_enter Try.func41, Try.ntmps41
    go_wp2_with fail
    refine wp_loop_rounds 5 ?_
    rw [rounds_succ]
    go_wp2_with (with_reducible refine (cL _).mono ?_; rintro e w' ⟨rfl, rfl⟩)
    rw [rounds_succ]
    go_wp2_with (with_reducible refine (cL _).mono ?_; rintro e w' ⟨rfl, rfl⟩)
    rw [rounds_succ]
    go_wp2_with (with_reducible refine (cL _).mono ?_; rintro e w' ⟨rfl, rfl⟩)
    rw [rounds_succ]
    go_wp2_with (with_reducible refine (cL _).mono ?_; rintro e w' ⟨rfl, rfl⟩)
    go_ret
    refine ⟨ret1 (ival ?_), bl_alloc (Below.refl _ _)⟩
    first | rfl | (push_cast; omega) | omega
  have r0 : ((limb 0 A : Int) != 0) = false := by simp; omega
  have z3 : (limb 3 A : Int) = 0 := by omega
  have z2 : (limb 2 A : Int) = 0 := by omega
  have z1 : (limb 1 A : Int) = 0 := by omega
  have z0 : (limb 0 A : Int) = 0 := by omega
  clear hb
  simp only [q0, q1, q2, q3, ne_eq, not_true_eq_false, if_false, bl_zero]
  go_enter Try.func41, Try.ntmps41
  go_wp2_with fail
  refine wp_loop_rounds 6 ?_
  rw [rounds_succ]
  go_wp2_with fail
  rw [rounds_succ]
  go_wp2_with fail
  rw [rounds_succ]
  go_wp2_with fail
  rw [rounds_succ]
  go_wp2_with fail
  rw [rounds_succ]
  go_wp2_with fail
  go_ret
  exact ⟨ret1 (ival rfl), bl_alloc (Below.refl _ _)⟩
end Go.Proofs.Ytcfpgcejahfdfaa

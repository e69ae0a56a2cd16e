/- What TargetOrder compares: plain facts. -/
import Derived.Test.YtcfpgcejahfdfaaTargetM
namespace Go.Proofs.Ytcfpgcejahfdfaa
set_option linter.unusedVariables false
set_option linter.unusedSimpArgs false

/-- The two comparisons: of the targets, of the work. -/
theorem order_cmp (S T : Nat) (hS : S + 1 < 2 ^ 256) (hT : T + 1 < 2 ^ 256) :
    (cmpN S T = -1 ∧ (cmpN (workN S) (workN T) = 0 ∨ cmpN (workN S) (workN T) = 1)) ∨ (cmpN S T = 0 ∧ cmpN (workN S) (workN T) = 0) ∨ (cmpN S T = 1 ∧ (cmpN (workN S) (workN T) = 0 ∨ cmpN (workN S) (workN T) = -1)) := by
  rcases Nat.lt_trichotomy S T with h | h | h
  · left
    have h2 := workN_mono S T hS hT (by omega)
    refine ⟨by unfold cmpN; rw [if_pos h], ?_⟩
    unfold cmpN
    rw [if_neg (by omega)]
    split <;> simp
  · subst h
    right; left
    constructor <;> · unfold cmpN; rw [if_neg (by omega), if_neg (by omega)]
  · right; right
    have h2 := workN_mono T S hT hS (by omega)
    refine ⟨by unfold cmpN; rw [if_neg (by omega), if_pos h], ?_⟩
    unfold cmpN
    split
    · simp
    · rw [if_neg (by omega)]; simp

/-- Who meets a target meets a greater one. -/
theorem order_meets (I c d l : Nat) (hc : expE c = 0) (hd : expE d = 0) (h : expT c ≤ expT d) (hm : meetsN I c l = 0) : meetsN I d l ≠ 10 := by
  unfold meetsN at hm ⊢
  rw [hc] at hm
  rw [hd]
  split at hm
  · omega
  · split at hm
    · omega
    · split
      · omega
      · rw [if_neg (by omega)]; omega

theorem cmpN_le (S T : Nat) : cmpN S T ≤ 0 ↔ S ≤ T := by
  unfold cmpN; split <;> (try split) <;> omega

/-- One more than a target, and what Quot tells of it. -/
theorem order_quot (T : Nat) (hT : T + 1 < 2 ^ 256) :
    ((2 ^ 256 - 1) % (T + 1) + 1 = T + 1 → (2 ^ 256 - 1) / (T + 1) + 1 = workN T) ∧ ((2 ^ 256 - 1) % (T + 1) + 1 ≠ T + 1 → (2 ^ 256 - 1) / (T + 1) = workN T) := by
  have h := work_law T hT
  constructor
  · intro e; rw [if_pos e] at h; exact h
  · intro e; rw [if_neg e] at h; exact h
end Go.Proofs.Ytcfpgcejahfdfaa

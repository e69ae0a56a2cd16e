/- Positions as rows and offsets: plain facts. No program. -/
import Derived.Test.YtcfpgcejahfdfabWayM
namespace Go.Proofs.Ytcfpgcejahfdfab
open Go.Lib
set_option linter.unusedVariables false
set_option linter.unusedSimpArgs false

theorem pow_split (R r : Nat) (h : r ≤ R) : 2 ^ (R + 1 - r) = 2 * 2 ^ (R - r) := by
  rw [show R + 1 - r = (R - r) + 1 by omega, Nat.pow_succ, Nat.mul_comm]
theorem pow_le (R r : Nat) : 2 ^ (R + 1 - r) ≤ 2 ^ (R + 1) := Nat.pow_le_pow_right (by decide) (by omega)

/-- The position of a row and an offset. -/
def posN (R r o : Nat) : Nat := beginN r R + o
/-- A position's offset. -/
def offN (p R : Nat) : Nat := p - beginN (rowN p R) R

theorem posN_is (R r o : Nat) (hR : R ≤ 63) (hr : r ≤ R) (ho : o < 2 ^ (R - r)) : isPos (posN R r o) R = true ∧ rowN (posN R r o) R = r ∧ offN (posN R r o) R = o ∧ posN R r o < 2 ^ 64 := by
  have e1 := pow_split R r hr
  have e2 := pow_le R r
  have e3 := Nat.two_pow_pos (R - r)
  have e4 := pow64 R hR
  have hlt : posN R r o + 1 < 2 ^ (R + 1) := by unfold posN beginN; omega
  have hp : isPos (posN R r o) R = true := by simpa [isPos] using hlt
  have hrow : rowN (posN R r o) R = r := by
    unfold rowN
    rw [if_pos hlt]
    have : bitLen (2 ^ (R + 1) - 1 - posN R r o) = (R - r) + 1 := by
      apply bl_unique
      · omega
      · unfold posN beginN; omega
      · rw [show R - r + 1 = R + 1 - r by omega]; unfold posN beginN; omega
    rw [this]; omega
  refine ⟨hp, hrow, ?_, by omega⟩
  unfold offN
  rw [hrow]
  unfold posN; omega

/-- A position is that of its row and its offset. -/
theorem pos_row (p R : Nat) (hR : R ≤ 63) (h : isPos p R = true) : rowN p R ≤ R ∧ offN p R < 2 ^ (R - rowN p R) ∧ p = posN R (rowN p R) (offN p R) := by
  have h1 : p + 1 < 2 ^ (R + 1) := by simpa [isPos] using h
  obtain ⟨a, b⟩ := row_bounds p R hR h1
  have c := rowN_le p R hR
  unfold posN offN
  omega

theorem pos_ext (p q R : Nat) (hR : R ≤ 63) (hp : isPos p R = true) (hq : isPos q R = true) (h1 : rowN p R = rowN q R) (h2 : offN p R = offN q R) : p = q := by
  rw [(pos_row p R hR hp).2.2, (pos_row q R hR hq).2.2, h1, h2]

theorem parent_at (R r o : Nat) (hR : R ≤ 63) (hr : r < R) (ho : o < 2 ^ (R - r)) : parentOk (posN R r o) R = true ∧ parentN (posN R r o) R = posN R (r + 1) (o / 2) := by
  obtain ⟨a, b, c, d⟩ := posN_is R r o hR (by omega) ho
  have hk : parentOk (posN R r o) R = true := by unfold parentOk; rw [a, b]; simp; omega
  refine ⟨hk, ?_⟩
  unfold parentN
  rw [hk]
  have e1 := pow_split R r (by omega)
  have e2 := pow_le R r
  have e3 : R + 1 - (r + 1) = R - r := by omega
  have e4 : 2 ^ (R + 1) = 2 * 2 ^ R := by rw [Nat.pow_succ]; omega
  have e5 : 2 ^ (R - r) ≤ 2 ^ R := Nat.pow_le_pow_right (by decide) (by omega)
  simp only [if_true, posN, beginN, e3]
  omega

theorem left_at (R r o : Nat) (hR : R ≤ 63) (hr : r < R) (ho : o < 2 ^ (R - (r + 1))) : leftOk (posN R (r + 1) o) R = true ∧ leftN (posN R (r + 1) o) R = posN R r (2 * o) ∧ 2 * o + 1 < 2 ^ (R - r) := by
  obtain ⟨a, b, c, d⟩ := posN_is R (r + 1) o hR (by omega) ho
  have hk : leftOk (posN R (r + 1) o) R = true := by unfold leftOk; rw [a, b]; simp
  have e1 := pow_split R (r + 1) (by omega)
  have e2 := pow_le R (r + 1)
  have e3 := pow_split R r (by omega)
  have e4 : 2 ^ (R - r) = 2 * 2 ^ (R - (r + 1)) := by rw [show R - r = (R - (r + 1)) + 1 by omega, Nat.pow_succ, Nat.mul_comm]
  have e5 := pow_le R r
  refine ⟨hk, ?_, by omega⟩
  unfold leftN
  rw [hk]
  simp only [if_true, posN, beginN]
  rw [show 2 * (2 ^ (R + 1) - 2 ^ (R + 1 - (r + 1)) + o) = (2 ^ (R + 1) - 2 ^ (R + 1 - r) + 2 * o) + 2 ^ (R + 1) by omega, Nat.add_mod_right, Nat.mod_eq_of_lt (by have := Nat.two_pow_pos (R - (r + 1)); omega)]

theorem sib_at (R r o : Nat) (hR : R ≤ 63) (hr : r < R) (ho : o < 2 ^ (R - r)) : sibN (posN R r o) R = posN R r (if o % 2 = 0 then o + 1 else o - 1) ∧ (if o % 2 = 0 then o + 1 else o - 1) < 2 ^ (R - r) := by
  obtain ⟨hk, _⟩ := parent_at R r o hR hr ho
  have e1 := pow_split R r (by omega)
  have e2 := pow_le R r
  have e3 : 2 ^ (R - r) = 2 * 2 ^ (R - (r + 1)) := by rw [show R - r = (R - (r + 1)) + 1 by omega, Nat.pow_succ, Nat.mul_comm]
  have e4 : 2 ^ (R + 1) = 2 * 2 ^ R := by rw [Nat.pow_succ]; omega
  have hpar : posN R r o % 2 = o % 2 := by unfold posN beginN; omega
  have hlow : 2 ^ (R + 1 - r) ≤ 2 ^ (R + 1) := e2
  unfold sibN
  rw [hk]
  simp only [if_true]
  by_cases hb : o % 2 = 0
  · have hb' : posN R r o % 2 = 0 := by omega
    rw [if_pos hb', if_pos hb]
    exact ⟨by unfold posN; omega, by omega⟩
  · have hb' : ¬ posN R r o % 2 = 0 := by omega
    rw [if_neg hb', if_neg hb]
    exact ⟨by unfold posN; omega, by omega⟩

/-- The two children of a position above the lowest row. -/
theorem children (p R : Nat) (hR : R ≤ 63) (hp : isPos p R = true) (h0 : rowN p R ≠ 0) :
    isPos (leftN p R) R = true ∧ rowN (leftN p R) R + 1 = rowN p R ∧ offN (leftN p R) R = 2 * offN p R ∧ leftN p R < 2 ^ 64 ∧
    isPos (sibN (leftN p R) R) R = true ∧ rowN (sibN (leftN p R) R) R + 1 = rowN p R ∧ offN (sibN (leftN p R) R) R = 2 * offN p R + 1 ∧ sibN (leftN p R) R < 2 ^ 64 := by
  obtain ⟨h1, h2, h3⟩ := pos_row p R hR hp
  obtain ⟨r, hr⟩ : ∃ r, rowN p R = r + 1 := ⟨rowN p R - 1, by omega⟩
  rw [hr] at h1 h2 h3 ⊢
  obtain ⟨a, b, c⟩ := left_at R r (offN p R) hR (by omega) h2
  rw [← h3] at b
  rw [b]
  obtain ⟨d1, d2, d3, d4⟩ := posN_is R r (2 * offN p R) hR (by omega) (by omega)
  obtain ⟨e1, e2⟩ := sib_at R r (2 * offN p R) hR (by omega) (by omega)
  rw [if_pos (by omega)] at e1 e2
  rw [e1]
  obtain ⟨f1, f2, f3, f4⟩ := posN_is R r (2 * offN p R + 1) hR (by omega) e2
  exact ⟨d1, by rw [d2], d3, d4, f1, by rw [f2], f3, f4⟩

/-- On a way the lowest row is its beginning's alone. -/
theorem way_low {n t p : Nat} (h : p ∈ wayN n t) (h0 : rowN p (rowsN n) = 0) : p = t := by
  cases hw : wayN n t with
  | nil => rw [hw] at h; cases h
  | cons y l =>
    have hy := way_head hw
    subst hy
    rw [hw] at h
    have := way_rows n y
    rw [hw] at this
    rcases List.mem_cons.1 h with e | e
    · exact e
    · have := (List.pairwise_cons.1 this).1 p e; omega
end Go.Proofs.Ytcfpgcejahfdfab

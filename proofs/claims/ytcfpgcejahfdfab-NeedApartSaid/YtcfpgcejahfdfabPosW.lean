/- The walks of package pos: each function's answer as a plain function of numbers. -/
import Derived.Test.YtcfpgcejahfdfabShelf
import Derived.Test.YtcfpgcejahfdfabBase
import Derived.Test.YtcfpgcejahfdfabPosM
namespace Go.Proofs.Ytcfpgcejahfdfab
open Go.RowKit
set_option linter.unusedVariables false
set_option linter.unusedSimpArgs false

set_option maxHeartbeats 400000 in
theorem may_any (R : Nat) (w : World) (hR : R ≤ 63) :
    Calls Try.prog 85 #[.int .i64 (R : Int)] w fun e w' => e = .returned (.bool true) ∧ w = w' := by
  go_enter Try.func85, Try.ntmps85
  go_wp2
  go_ret
  exact ⟨ret1 (bval (by simp; omega)), rfl⟩

set_option maxHeartbeats 400000 in
theorem begin_any (r R : Nat) (w : World) (h1 : r ≤ R) (h2 : R ≤ 63) :
    Calls Try.prog 51 #[.int .i64 (r : Int), .int .i64 (R : Int)] w fun e w' => e = .returned (.int .u64 (beginN r R : Nat)) ∧ ∃ k, w' = w.drewN k := by
  go_enter Try.func51, Try.ntmps51
  go_wp2
  go_quiet (fail)
  go_wp2
  go_ret
  exact ⟨ret1 (ival (begin_eq r R h1 h2)), _, rfl⟩

set_option maxHeartbeats 400000 in
theorem Rows_any (n : Nat) (w : World) (hn : n < 2^64) :
    Calls Try.prog 17 #[.int .u64 (n : Int)] w fun e w' => e = .returned (.tuple #[.int .i64 (rowsN n : Nat), .bool (rowsOk n)]) ∧ w = w' := by
  go_enter Try.func17, Try.ntmps17
  go_wp2_with (go_at_call 52; refine (Try.bits_Len64 _ _ ?_ ?_).mono ?_; rotate_right; rintro e w' ⟨rfl, rfl⟩)
  case refine_1 => exact wrap_u64_nonneg _
  case refine_2 => rw [IntKind.wrap_u64]; omega
  · go_ret2
    have h : ¬ n ≤ 9223372036854775807 := by omega
    exact ⟨ret2 (ival (by simp [rowsN, h])) (bval (by simp [rowsOk, h])), rfl⟩
  · go_ret2
    have h : n = 0 := by have : ((n : Int) == 0) = true := by assumption
                         simpa using this
    exact ⟨ret2 (ival (by subst h; decide)) (bval (by subst h; decide)), rfl⟩
  · go_ret2
    have h : ¬ n = 0 := by have : ((n : Int) == 0) = false := by assumption
                           simpa using this
    have h2 : n ≤ 9223372036854775807 := by omega
    have e : (IntKind.u64.wrap ((n : Int) - 1)).toNat = n - 1 := by rw [IntKind.wrap_u64]; omega
    exact ⟨ret2 (ival (by simp only [rowsN, if_pos h2, e])) (bval (by simp [rowsOk, h2])), rfl⟩

set_option maxHeartbeats 400000 in
theorem Row_any (p R : Nat) (w : World) (hR : R ≤ 63) (hp : p < 2^64) :
    Calls Try.prog 50 #[.int .u64 (p : Int), .int .i64 (R : Int)] w fun e w' => e = .returned (.tuple #[.int .i64 (rowN p R : Nat), .bool (isPos p R)]) ∧ w = w' := by
  have hl := lim_eq R hR
  obtain ⟨Y, hs, Z, hx, hz0, HZ⟩ : ∃ Y : Nat, IntKind.u64.wrap ((p : Int) * 2 ^ (63 - R)) = (Y : Int) ∧ ∃ Z : Nat, bits .xor .u64 IntKind.u64.max (Y : Int) = (Z : Int) ∧ Z ≤ 18446744073709551615 ∧ Hid (Z = 2 ^ 64 - 1 - p * 2 ^ (63 - R) % 2 ^ 64) :=
    ⟨_, shl_row p R, _, not_row p R, by omega, rfl⟩
  go_enter Try.func50, Try.ntmps50
  go_wp2_with (first | (go_at_call 85; refine (may_any _ _ hR).mono ?_; rintro e w' ⟨rfl, rfl⟩) | (go_at_call 86; refine (Try.bits_LeadingZeros64 _ _ (by omega) (by omega)).mono ?_; rintro e w' ⟨rfl, rfl⟩))
  · go_ret2
    have h : ¬ p + 1 < 2 ^ (R + 1) := by omega
    exact ⟨ret2 (ival (by simp only [rowN, if_neg h]; rfl)) (bval (by simp only [isPos, h]; rfl)), rfl⟩
  · go_ret2
    have h : p + 1 < 2 ^ (R + 1) := by omega
    exact ⟨ret2 (ival (by rw [← row_eq p R hR h, ← HZ.out])) (bval (by simp only [isPos, h]; rfl)), rfl⟩

set_option maxHeartbeats 400000 in
theorem Parent_any (p R : Nat) (w : World) (hR : R ≤ 63) (hp : p < 2^64) :
    Calls Try.prog 80 #[.int .u64 (p : Int), .int .i64 (R : Int)] w fun e w' => e = .returned (.tuple #[.int .u64 (parentN p R : Nat), .bool (parentOk p R)]) ∧ w = w' := by
  go_enter Try.func80, Try.ntmps80
  cases hi : isPos p R
  all_goals go_wp2_with (go_at_call 50; refine (Row_any _ _ _ hR hp).mono ?_; rintro e w' ⟨rfl, rfl⟩)
  all_goals go_ret2
  · exact ⟨ret2 (ival (by simp [parentN, parentOk, hi])) (bval (by simp [parentOk, hi])), rfl⟩
  · have h : rowN p R = R := by have : ((rowN p R : Int) == (R : Int)) = true := by assumption
                                simp at this; omega
    exact ⟨ret2 (ival (by simp [parentN, parentOk, hi, h])) (bval (by simp [parentOk, hi, h])), rfl⟩
  · have h : ¬ rowN p R = R := by have : ((rowN p R : Int) == (R : Int)) = false := by assumption
                                  simp at this; omega
    have hp2 : p + 1 < 2 ^ (R + 1) := by simpa [isPos] using hi
    exact ⟨ret2 (ival (by simp only [parentN, parentOk, hi]; simp [h]; exact parent_eq p R hR hp2)) (bval (by simp [parentOk, hi, h])), rfl⟩

set_option maxHeartbeats 400000 in
theorem Left_any (p R : Nat) (w : World) (hR : R ≤ 63) (hp : p < 2^64) :
    Calls Try.prog 40 #[.int .u64 (p : Int), .int .i64 (R : Int)] w fun e w' => e = .returned (.tuple #[.int .u64 (leftN p R : Nat), .bool (leftOk p R)]) ∧ w = w' := by
  have hl := lim_eq R hR
  have hf := left_eq p R hR
  go_enter Try.func40, Try.ntmps40
  cases hi : isPos p R
  all_goals go_wp2_with (go_at_call 50; refine (Row_any _ _ _ hR hp).mono ?_; rintro e w' ⟨rfl, rfl⟩)
  all_goals go_ret2
  · exact ⟨ret2 (ival (by simp [leftN, leftOk, hi])) (bval (by simp [leftOk, hi])), rfl⟩
  · have h : rowN p R = 0 := by have : ((rowN p R : Int) == 0) = true := by assumption
                                simpa using this
    exact ⟨ret2 (ival (by simp [leftN, leftOk, hi, h])) (bval (by simp [leftOk, hi, h])), rfl⟩
  · have h : ¬ rowN p R = 0 := by have : ((rowN p R : Int) == 0) = false := by assumption
                                  simpa using this
    exact ⟨ret2 (ival (by simp [leftN, leftOk, hi, h])) (bval (by simp [leftOk, hi, h])), rfl⟩

set_option maxHeartbeats 400000 in
theorem Sibling_any (p R : Nat) (w : World) (hR : R ≤ 63) (hp : p < 2^64) :
    Calls Try.prog 44 #[.int .u64 (p : Int), .int .i64 (R : Int)] w fun e w' => e = .returned (.tuple #[.int .u64 (sibN p R : Nat), .bool (parentOk p R)]) ∧ w = w' := by
  obtain ⟨s, hf, HS⟩ : ∃ s : Nat, bits .xor .u64 (p : Int) 1 = (s : Int) ∧ Hid (s = (if p % 2 = 0 then p + 1 else p - 1)) := ⟨_, xor_one p hp, rfl⟩
  go_enter Try.func44, Try.ntmps44
  cases hi : parentOk p R
  all_goals go_wp2_with (go_at_call 80; refine (Parent_any _ _ _ hR hp).mono ?_; rintro e w' ⟨rfl, rfl⟩)
  all_goals go_ret2
  · exact ⟨ret2 (ival (by simp [sibN, hi])) (bval (by simp [hi])), rfl⟩
  · exact ⟨ret2 (ival (by simp only [sibN, hi, HS.out]; rfl)) (bval (by simp [hi])), rfl⟩

set_option maxHeartbeats 400000 in
theorem Root_any (n h : Nat) (w : World) (hn : n < 2^64) (hh : h < 2^62) :
    Calls Try.prog 16 #[.int .u64 (n : Int), .int .i64 (h : Int)] w fun e w' => e = .returned (.tuple #[.int .u64 (rootN n h : Nat), .bool (rootOk n h)]) ∧ ∃ k, w' = w.drewN k := by
  have hr := rowsN_le n
  have h0 : (0 : Int) ≤ (h : Int) := by omega
  by_cases hi : rowsOk n = true
  case neg =>
    have hi : rowsOk n = false := by simpa using hi
    go_enter Try.func16, Try.ntmps16
    go_wp2_with (go_at_call 17; refine (Rows_any _ _ hn).mono ?_; rintro e w' ⟨rfl, rfl⟩)
    go_ret2
    exact ⟨ret2 (ival (by simp [rootN, rootOk, hi])) (bval (by simp [rootOk, hi])), 0, rfl⟩
  by_cases hle : h ≤ rowsN n
  case neg =>
    have hle : rowsN n < h := by omega
    go_enter Try.func16, Try.ntmps16
    go_wp2_with (go_at_call 17; refine (Rows_any _ _ hn).mono ?_; rintro e w' ⟨rfl, rfl⟩)
    go_ret2
    have : ¬ h ≤ rowsN n := by omega
    exact ⟨ret2 (ival (by simp [rootN, rootOk, this])) (bval (by simp [rootOk, this])), 0, rfl⟩
  have hd : n / 2 ^ h < 2 ^ 64 := Nat.lt_of_le_of_lt (Nat.div_le_self _ _) hn
  have hb := and_one (n / 2 ^ h) hd
  by_cases hz : n / 2 ^ h % 2 = 0
  case pos =>
    have hb : bits .and .u64 ((n : Int) / 2 ^ h) 1 = 0 := by rw [hz] at hb; simpa using hb
    clear hd
    go_enter Try.func16, Try.ntmps16
    go_wp2_with (go_at_call 17; refine (Rows_any _ _ hn).mono ?_; rintro e w' ⟨rfl, rfl⟩)
    go_ret2
    exact ⟨ret2 (ival (by simp [rootN, rootOk, hz])) (bval (by simp [rootOk, hz])), 0, rfl⟩
  case neg =>
    have hz : n / 2 ^ h % 2 = 1 := by omega
    have hb : bits .and .u64 ((n : Int) / 2 ^ h) 1 = 1 := by rw [hz] at hb; simpa using hb
    have HZ := Lib.hid hz
    clear hd hz
    go_enter Try.func16, Try.ntmps16
    go_wp2_with (go_at_call 17; refine (Rows_any _ _ hn).mono ?_; rintro e w' ⟨rfl, rfl⟩)
    go_quiet ((go_at_call 51; exact Calls.quiet_of (begin_any _ _ _ hle hr)))
    go_wp2
    go_ret2
    have e : IntKind.u64.wrap ((beginN h (rowsN n) : Int) + IntKind.u64.wrap ((n : Int) / 2 ^ h / 2 * 2)) = (((beginN h (rowsN n) + n / 2 ^ h / 2 * 2) % 2 ^ 64 : Nat) : Int) := by
      rw [IntKind.wrap_u64, IntKind.wrap_u64]; simp
    have hz := HZ.out
    exact ⟨ret2 (ival (by simp only [rootN, rootOk, hi, hle, hz]; exact e)) (bval (by simp [rootOk, hi, hle, hz])), _, rfl⟩

theorem beq_cast_div (A B k : Nat) : (((A : Int) / 2 ^ k == (B : Int)) : Bool) = (A / 2 ^ k == B) := by
  rw [show ((A : Int) / 2 ^ k) = ((A / 2 ^ k : Nat) : Int) by simp, Bool.eq_iff_iff]
  simp only [beq_iff_eq]
  omega

set_option maxHeartbeats 400000 in
theorem Within_any (a b R : Nat) (w : World) (hR : R ≤ 63) (ha : a < 2 ^ 64) (hb : b < 2 ^ 64) :
    Calls Try.prog 24 #[.int .u64 (a : Int), .int .u64 (b : Int), .int .i64 (R : Int)] w fun e w' => e = .returned (.bool (withinN a b R)) ∧ ∃ k, w' = w.drewN k := by
  have ra := rowN_le a R hR
  have rb := rowN_le b R hR
  by_cases hia : isPos a R = true
  case neg =>
    have hia : isPos a R = false := by simpa using hia
    go_enter Try.func24, Try.ntmps24
    go_wp2_with (go_at_call 50; refine (Row_any _ _ _ hR (by assumption)).mono ?_; rintro e w' ⟨rfl, rfl⟩)
    go_ret
    exact ⟨ret1 (bval (by simp [withinN, hia])), 0, rfl⟩
  by_cases hib : isPos b R = true
  case neg =>
    have hib : isPos b R = false := by simpa using hib
    go_enter Try.func24, Try.ntmps24
    go_wp2_with (go_at_call 50; refine (Row_any _ _ _ hR (by assumption)).mono ?_; rintro e w' ⟨rfl, rfl⟩)
    go_ret
    exact ⟨ret1 (bval (by simp [withinN, hib])), 0, rfl⟩
  by_cases hlt : rowN a R < rowN b R
  case neg =>
    have hlt : rowN b R ≤ rowN a R := by omega
    go_enter Try.func24, Try.ntmps24
    go_wp2_with (go_at_call 50; refine (Row_any _ _ _ hR (by assumption)).mono ?_; rintro e w' ⟨rfl, rfl⟩)
    go_ret
    have : ¬ rowN a R < rowN b R := by omega
    exact ⟨ret1 (bval (by simp [withinN, this])), 0, rfl⟩
  have pa : a + 1 < 2 ^ (R + 1) := by simpa [isPos] using hia
  have pb : b + 1 < 2 ^ (R + 1) := by simpa [isPos] using hib
  have oa := off_eq a R hR pa
  have ob := off_eq b R hR pb
  have HL := Lib.hid hlt
  clear pa pb
  go_enter Try.func24, Try.ntmps24
  go_wp2_with (go_at_call 50; refine (Row_any _ _ _ hR (by assumption)).mono ?_; rintro e w' ⟨rfl, rfl⟩)
  go_quiet ((go_at_call 51; exact Calls.quiet_of (begin_any _ _ _ (by assumption) hR)))
  go_wp2
  go_ret
  refine ⟨ret1 (bval ?_), _, rfl⟩
  have hlt := HL.out
  simp only [withinN, hia, hib, hlt]
  simp only [decide_true, Bool.and_self, Bool.true_and]
  exact beq_cast_div _ _ _

theorem Pinfo_int : (Try.prog.info? 3).map (fun i => (i.zero, i.size, i.bytes)) = some (some (.int .i64 0), 1, 8) := by kernel_rfl
theorem Pinfo_u64 : (Try.prog.info? 22).map (fun i => (i.zero, i.size, i.bytes)) = some (some (.int .u64 0), 1, 8) := by kernel_rfl

def iv (k : Nat) : Value := .int .i64 (k : Int)
def uv (k : Nat) : Value := .int .u64 (k : Int)
end Go.Proofs.Ytcfpgcejahfdfab

/- The walks of package wide, more: at, Shift. -/
import Derived.Test.YtcfpgcejahfdfaaWideW
namespace Go.Proofs.Ytcfpgcejahfdfaa
open Go.RowKit
set_option linter.unusedVariables false
set_option linter.unusedSimpArgs false

set_option maxHeartbeats 400000 in
theorem at_any (A : Nat) (i : Int) (h1 : -1000000 ≤ i) (h2 : i ≤ 1000000) (w : World) : Calls Try.prog 44 #[wd A, .int .i64 i] w fun e w' => e = .returned (.int .u64 (atN A i : Nat)) ∧
    w' = w.alloc (.cells #[.int .u64 (limb 0 A : Nat), .int .u64 (limb 1 A : Nat), .int .u64 (limb 2 A : Nat), .int .u64 (limb 3 A : Nat)] 44) := by
  by_cases c1 : i < 0
  case pos =>
    go_enter Try.func44, Try.ntmps44
    go_wp2
    go_ret
    exact ⟨ret1 (ival (by rw [atN_neg A i c1]; rfl)), rfl⟩
  by_cases c2 : 4 ≤ i
  case pos =>
    go_enter Try.func44, Try.ntmps44
    go_wp2
    go_ret
    exact ⟨ret1 (ival (by unfold atN; rw [if_neg (by omega)]; rfl)), rfl⟩
  rcases (show i = 0 ∨ i = 1 ∨ i = 2 ∨ i = 3 by omega) with rfl | rfl | rfl | rfl
  all_goals
    clear c1 c2 h1 h2
    go_enter Try.func44, Try.ntmps44
    go_wp2
    go_ret
    exact ⟨rfl, rfl⟩

theorem or_disj (x y r : Nat) (hr : r ≤ 64) (hx : x < 2 ^ 64) (hd : x % 2 ^ r = 0) (hy : y < 2 ^ r) : bits .or .u64 (x : Int) (y : Int) = ((x + y : Nat) : Int) := by
  have : 2 ^ r ≤ 2 ^ 64 := Nat.pow_le_pow_right (by decide) hr
  rw [u64_or_nat _ _ hx (by omega)]
  congr 1
  have e : x = 2 ^ r * (x / 2 ^ r) := by have := Nat.div_add_mod x (2 ^ r); omega
  rw [e, ← Nat.two_pow_add_eq_or_of_lt hy]

/-- One word of a shift, as the walk spells it. -/
theorem shift_word (A i : Nat) (k : Int) (r : Nat) (hA : A < 2 ^ 256) (hr : r < 64) (hi : i < 4) :
    bits .or .u64 (IntKind.u64.wrap ((atN A (i - k) : Int) * 2 ^ r)) ((atN A (i - k - 1) : Int) / 2 ^ (64 - r)) = ((limb i (shiftN A (64 * k + r)) : Nat) : Int) := by
  have ha : ∀ j, atN A j < 2 ^ 64 := fun j => by unfold atN; split <;> first | exact limb_lt _ _ | decide
  rw [shl_pow, show ((atN A (i - k - 1) : Int) / 2 ^ (64 - r)) = ((atN A (i - k - 1) / 2 ^ (64 - r) : Nat) : Int) by simp, shift_limb A i k r hA hr hi]
  have e64 : (2 : Nat) ^ 64 = 2 ^ (64 - r) * 2 ^ r := by rw [← Nat.pow_add, Nat.sub_add_cancel (by omega)]
  refine or_disj _ _ r (by omega) (Nat.mod_lt _ (by decide)) ?_ ?_
  · rw [Nat.mod_mod_of_dvd _ (Nat.pow_dvd_pow 2 (by omega)), Nat.mul_mod_left]
  · rw [Nat.div_lt_iff_lt_mul (Nat.two_pow_pos _), Nat.mul_comm, ← e64]; exact ha _

theorem shift_clamp (A : Nat) (s : Int) (hA : A < 2 ^ 256) : shiftN A (min (max s (-256)) 256) = shiftN A s := by
  have up : ∀ n : Nat, 256 ≤ n → A * 2 ^ n % 2 ^ 256 = 0 := fun n hn => by
    obtain ⟨m, rfl⟩ : ∃ m, n = 256 + m := ⟨n - 256, by omega⟩
    rw [Nat.pow_add, Nat.mul_left_comm, Nat.mul_mod_right]
  have dn : ∀ n : Nat, 256 ≤ n → A / 2 ^ n = 0 := fun n hn => Nat.div_eq_of_lt (Nat.lt_of_lt_of_le hA (Nat.pow_le_pow_right (by decide) hn))
  unfold shiftN
  by_cases c : 256 ≤ s
  · rw [show min (max s (-256)) 256 = 256 by omega, if_pos (by decide), if_pos (by omega), up _ (by decide), up _ (by omega)]
  · by_cases d : s ≤ -256
    · rw [show min (max s (-256)) 256 = -256 by omega, if_neg (by decide), if_neg (by omega), dn _ (by decide), dn _ (by omega)]
    · rw [show min (max s (-256)) 256 = s by omega]

end Go.Proofs.Ytcfpgcejahfdfaa

/- The walks of package wide: numbers of 256 bits as four words. -/
import Derived.Test.YtcfpgcejahfdfaaShelf
import Derived.Test.YtcfpgcejahfdfaaBase
import Derived.Test.YtcfpgcejahfdfaaWideM
import Derived.Shelf.Spec.BitsCarry
namespace Go.Proofs.Ytcfpgcejahfdfaa
open Go.RowKit
set_option linter.unusedVariables false
set_option linter.unusedSimpArgs false

theorem add64_run (x y c : Nat) (hc : c ≤ 1) (w : World) : (callFunc 40 #[.int .u64 (x : Int), .int .u64 (y : Int), .int .u64 (c : Int)]).run Try.prog w =
    .ok (.value (.tuple #[.int .u64 (((x + y + c) % 18446744073709551616 : Nat) : Int), .int .u64 (((x + y + c) / 18446744073709551616 : Nat) : Int)])) w := by
  rw [run_callFunc_extern Try.func40 (by kernel_rfl) (by kernel_rfl) (by kernel_rfl) (e := add64Entry) (by kernel_rfl), run_add64 x y c (by omega) (by omega) (by omega) (by omega)]
  simp only [Result.andThen]
  congr 5 <;> omega

theorem sub64_run (x y b : Nat) (hb : b ≤ 1) (w : World) : (callFunc 46 #[.int .u64 (x : Int), .int .u64 (y : Int), .int .u64 (b : Int)]).run Try.prog w =
    .ok (.value (.tuple #[.int .u64 (((x + 18446744073709551616 - y - b) % 18446744073709551616 : Nat) : Int), .int .u64 ((if x < y + b then 1 else 0 : Nat) : Int)])) w := by
  rw [run_callFunc_extern Try.func46 (by kernel_rfl) (by kernel_rfl) (by kernel_rfl) (e := sub64Entry) (by kernel_rfl), run_sub64 x y b hb]
  rfl

theorem add64_step (x y c : Nat) (hx : x < 2 ^ 64) (hy : y < 2 ^ 64) (hc : c ≤ 1) : ∃ s d : Nat, (∀ w : World, (callFunc 40 #[.int .u64 (x : Int), .int .u64 (y : Int), .int .u64 (c : Int)]).run Try.prog w = .ok (.value (.tuple #[.int .u64 (s : Int), .int .u64 (d : Int)])) w) ∧
    s < 2 ^ 64 ∧ d ≤ 1 ∧ Hid (s + 2 ^ 64 * d = x + y + c) :=
  ⟨_, _, add64_run x y c hc, Nat.mod_lt _ (by decide), by omega, by unfold Hid; omega⟩

theorem sub64_step (x y b : Nat) (hx : x < 2 ^ 64) (hy : y < 2 ^ 64) (hb : b ≤ 1) : ∃ s d : Nat, (∀ w : World, (callFunc 46 #[.int .u64 (x : Int), .int .u64 (y : Int), .int .u64 (b : Int)]).run Try.prog w = .ok (.value (.tuple #[.int .u64 (s : Int), .int .u64 (d : Int)])) w) ∧
    s < 2 ^ 64 ∧ d ≤ 1 ∧ Hid (s + y + b = x + 2 ^ 64 * d) := by
  refine ⟨_, _, sub64_run x y b hb, Nat.mod_lt _ (by decide), by split <;> omega, ?_⟩
  unfold Hid
  split <;> omega

set_option maxHeartbeats 400000 in
theorem Of_any (n : Nat) (hn : n < 2 ^ 64) (w : World) : Calls Try.prog 26 #[.int .u64 (n : Int)] w fun e w' => e = .returned (wd n) ∧ Below w.heap.size w w' := by
  go_enter Try.func26, Try.ntmps26
  go_wp2
  obtain ⟨e0, e1, e2, e3⟩ := limb_small n hn
  refine bodyPost_ret (v := .agg #[.int .u64 (n : Int), .int .u64 0, .int .u64 0, .int .u64 0]) (by simp [results, Try.results26, go_sem]) rfl ⟨?_, ?_⟩
  · simp only [wd, e0, e1, e2, e3]; rfl
  · exact bl_alloc (Below.refl _ _)

set_option maxHeartbeats 400000 in
theorem Not_any (N : Nat) (hN : N < 2 ^ 256) (w : World) : Calls Try.prog 28 #[wd N] w fun e w' => e = .returned (wd (2 ^ 256 - 1 - N)) ∧ Below w.heap.size w w' := by
  obtain ⟨x0, n0, k0, g0⟩ : ∃ x : Nat, bits .xor .u64 IntKind.u64.max (limb 0 N : Int) = (x : Int) ∧ x < 2 ^ 64 ∧ Hid (x = 2 ^ 64 - 1 - limb 0 N) := ⟨_, not_u64 _ (limb_lt 0 N), by omega, rfl⟩
  obtain ⟨x1, n1, k1, g1⟩ : ∃ x : Nat, bits .xor .u64 IntKind.u64.max (limb 1 N : Int) = (x : Int) ∧ x < 2 ^ 64 ∧ Hid (x = 2 ^ 64 - 1 - limb 1 N) := ⟨_, not_u64 _ (limb_lt 1 N), by omega, rfl⟩
  obtain ⟨x2, n2, k2, g2⟩ : ∃ x : Nat, bits .xor .u64 IntKind.u64.max (limb 2 N : Int) = (x : Int) ∧ x < 2 ^ 64 ∧ Hid (x = 2 ^ 64 - 1 - limb 2 N) := ⟨_, not_u64 _ (limb_lt 2 N), by omega, rfl⟩
  obtain ⟨x3, n3, k3, g3⟩ : ∃ x : Nat, bits .xor .u64 IntKind.u64.max (limb 3 N : Int) = (x : Int) ∧ x < 2 ^ 64 ∧ Hid (x = 2 ^ 64 - 1 - limb 3 N) := ⟨_, not_u64 _ (limb_lt 3 N), by omega, rfl⟩
  go_enter Try.func28, Try.ntmps28
  go_wp2
  refine wp_loop_rounds 5 ?_
  rw [rounds_succ]
  go_wp2
  rw [rounds_succ]
  go_wp2
  rw [rounds_succ]
  go_wp2
  rw [rounds_succ]
  go_wp2
  rw [rounds_succ]
  go_wp2
  refine bodyPost_ret (v := .agg #[.int .u64 (x0 : Int), .int .u64 (x1 : Int), .int .u64 (x2 : Int), .int .u64 (x3 : Int)]) (by simp [results, Try.results28, go_sem]) rfl ⟨?_, ?_⟩
  · have h := val_limbs N hN
    have l0 := limb_lt 0 N
    have l1 := limb_lt 1 N
    have l2 := limb_lt 2 N
    have l3 := limb_lt 3 N
    rw [wd_eq x0 x1 x2 x3 (2 ^ 256 - 1 - N) k0 k1 k2 k3 ?_]
    have := g0.out
    have := g1.out
    have := g2.out
    have := g3.out
    unfold val4 at *
    omega
  · exact bl_alloc (bl_alloc (Below.refl _ _))

set_option maxHeartbeats 1000000 in
theorem Add_any (M N : Nat) (hM : M < 2 ^ 256) (hN : N < 2 ^ 256) (w : World) : Calls Try.prog 25 #[wd M, wd N] w fun e w' => e = .returned (.tuple #[wd ((M + N) % 2 ^ 256), .bool (decide (2 ^ 256 ≤ M + N))]) ∧ Below w.heap.size w w' := by
  have l0 := limb_lt 0 M
  have l1 := limb_lt 1 M
  have l2 := limb_lt 2 M
  have l3 := limb_lt 3 M
  have m0 := limb_lt 0 N
  have m1 := limb_lt 1 N
  have m2 := limb_lt 2 N
  have m3 := limb_lt 3 N
  obtain ⟨x0, c0, e0, k0, d0, g0⟩ := add64_step (limb 0 M) (limb 0 N) 0 l0 m0 (by omega)
  obtain ⟨x1, c1, e1, k1, d1, g1⟩ := add64_step (limb 1 M) (limb 1 N) c0 l1 m1 d0
  obtain ⟨x2, c2, e2, k2, d2, g2⟩ := add64_step (limb 2 M) (limb 2 N) c1 l2 m2 d1
  obtain ⟨x3, c3, e3, k3, d3, g3⟩ := add64_step (limb 3 M) (limb 3 N) c2 l3 m3 d2
  have e0 : ∀ w : World, (callFunc 40 #[.int .u64 (limb 0 M : Int), .int .u64 (limb 0 N : Int), .int .u64 0]).run Try.prog w = .ok (.value (.tuple #[.int .u64 (x0 : Int), .int .u64 (c0 : Int)])) w := e0
  go_enter Try.func25, Try.ntmps25
  go_wp2
  refine wp_loop_rounds 5 ?_
  rw [rounds_succ]
  go_wp2
  go_region
  go_wp2
  rw [rounds_succ]
  go_wp2
  go_region
  go_wp2
  rw [rounds_succ]
  go_wp2
  go_region
  go_wp2
  rw [rounds_succ]
  go_wp2
  go_region
  go_wp2
  rw [rounds_succ]
  go_wp2
  refine bodyPost_ret (v := .tuple #[.agg #[.int .u64 (x0 : Int), .int .u64 (x1 : Int), .int .u64 (x2 : Int), .int .u64 (x3 : Int)], .bool ((c3 : Int) != 0)]) (by simp [results, Try.results25, go_sem]) rfl ⟨?_, ?_⟩
  · have h := val_limbs M hM
    have h' := val_limbs N hN
    have := g0.out
    have := g1.out
    have := g2.out
    have := g3.out
    have hv : val4 x0 x1 x2 x3 = (M + N) % 2 ^ 256 ∧ (c3 = 1 ↔ 2 ^ 256 ≤ M + N) := by unfold val4 at *; omega
    refine ret2 (wd_eq x0 x1 x2 x3 _ k0 k1 k2 k3 hv.1) (bval ?_)
    rw [Bool.eq_iff_iff]
    simp only [bne_iff_ne, decide_eq_true_eq]
    omega
  · (repeat (first | exact Below.refl _ _ | refine bl_drewN ?_ | refine bl_drew ?_ | refine bl_alloc ?_ | refine bl_step ?_ (by assumption)))

set_option maxHeartbeats 1000000 in
theorem Sub_any (M N : Nat) (hM : M < 2 ^ 256) (hN : N < 2 ^ 256) (w : World) : Calls Try.prog 42 #[wd M, wd N] w fun e w' => e = .returned (.tuple #[wd ((M + 2 ^ 256 - N) % 2 ^ 256), .bool (decide (M < N))]) ∧ Below w.heap.size w w' := by
  have l0 := limb_lt 0 M
  have l1 := limb_lt 1 M
  have l2 := limb_lt 2 M
  have l3 := limb_lt 3 M
  have m0 := limb_lt 0 N
  have m1 := limb_lt 1 N
  have m2 := limb_lt 2 N
  have m3 := limb_lt 3 N
  obtain ⟨x0, c0, e0, k0, d0, g0⟩ := sub64_step (limb 0 M) (limb 0 N) 0 l0 m0 (by omega)
  obtain ⟨x1, c1, e1, k1, d1, g1⟩ := sub64_step (limb 1 M) (limb 1 N) c0 l1 m1 d0
  obtain ⟨x2, c2, e2, k2, d2, g2⟩ := sub64_step (limb 2 M) (limb 2 N) c1 l2 m2 d1
  obtain ⟨x3, c3, e3, k3, d3, g3⟩ := sub64_step (limb 3 M) (limb 3 N) c2 l3 m3 d2
  have e0 : ∀ w : World, (callFunc 46 #[.int .u64 (limb 0 M : Int), .int .u64 (limb 0 N : Int), .int .u64 0]).run Try.prog w = .ok (.value (.tuple #[.int .u64 (x0 : Int), .int .u64 (c0 : Int)])) w := e0
  go_enter Try.func42, Try.ntmps42
  go_wp2
  refine wp_loop_rounds 5 ?_
  rw [rounds_succ]
  go_wp2
  go_region
  go_wp2
  rw [rounds_succ]
  go_wp2
  go_region
  go_wp2
  rw [rounds_succ]
  go_wp2
  go_region
  go_wp2
  rw [rounds_succ]
  go_wp2
  go_region
  go_wp2
  rw [rounds_succ]
  go_wp2
  refine bodyPost_ret (v := .tuple #[.agg #[.int .u64 (x0 : Int), .int .u64 (x1 : Int), .int .u64 (x2 : Int), .int .u64 (x3 : Int)], .bool ((c3 : Int) != 0)]) (by simp [results, Try.results42, go_sem]) rfl ⟨?_, ?_⟩
  · have hv : val4 x0 x1 x2 x3 = (M + 2 ^ 256 - N) % 2 ^ 256 ∧ (c3 = 1 ↔ M < N) := sub_val hM hN k0 k1 k2 k3 d3 g0.out g1.out g2.out g3.out
    refine ret2 (wd_eq x0 x1 x2 x3 _ k0 k1 k2 k3 hv.1) (bval ?_)
    rw [Bool.eq_iff_iff]
    simp only [bne_iff_ne, decide_eq_true_eq]
    omega
  · (repeat (first | exact Below.refl _ _ | refine bl_drewN ?_ | refine bl_drew ?_ | refine bl_alloc ?_ | refine bl_step ?_ (by assumption)))

set_option maxHeartbeats 400000 in
theorem Compare_any (a b : Nat) (w : World) : Calls Try.prog 37 #[.int .u64 (a : Int), .int .u64 (b : Int)] w fun e w' => e = .returned (.int .i64 (cmpN a b)) ∧ w = w' := by
  go_enter Try.func37, Try.ntmps37
  go_wp2
  all_goals go_ret
  all_goals refine ⟨ret1 (ival ?_), rfl⟩
  all_goals (unfold cmpN; first | (rw [if_pos (by omega)]; done) | (rw [if_neg (by omega), if_pos (by omega)]; done) | (rw [if_neg (by omega), if_neg (by omega)]; done) | skip)

set_option maxHeartbeats 1000000 in
theorem Cmp_any (M N : Nat) (hM : M < 2 ^ 256) (hN : N < 2 ^ 256) (w : World) : Calls Try.prog 23 #[wd M, wd N] w fun e w' => e = .returned (.int .i64 (cmpN M N)) ∧ Below w.heap.size w w' := by
  rw [cmpN_limbs M N hM hN]
  by_cases q3 : limb 3 M = limb 3 N
  case neg =>
    have r3 : ((limb 3 M : Int) != (limb 3 N : Int)) = true := by simp; omega
    rw [if_neg q3]
    clear q3
    go_enter Try.func23, Try.ntmps23
    go_wp2
    refine wp_loop_rounds 4 ?_
    rw [rounds_succ]
    go_wp2
    go_region
    go_wp2
    go_region_with (go_at_call 37; refine (Compare_any _ _ _).mono ?_; rintro e w' ⟨rfl, rfl⟩)
    all_goals go_wp2
    all_goals go_ret
    all_goals exact ⟨rfl, by (repeat (first | exact Below.refl _ _ | refine bl_drewN ?_ | refine bl_drew ?_ | refine bl_alloc ?_ | refine bl_step ?_ (by assumption)))⟩
  have r3 : ((limb 3 M : Int) != (limb 3 N : Int)) = false := by simp; omega
  rw [if_pos q3]
  clear q3
  by_cases q2 : limb 2 M = limb 2 N
  case neg =>
    have r2 : ((limb 2 M : Int) != (limb 2 N : Int)) = true := by simp; omega
    rw [if_neg q2]
    clear q2
    go_enter Try.func23, Try.ntmps23
    go_wp2
    refine wp_loop_rounds 4 ?_
    rw [rounds_succ]
    go_wp2
    go_region
    go_wp2
    rw [rounds_succ]
    go_wp2
    go_region
    go_wp2
    go_region_with (go_at_call 37; refine (Compare_any _ _ _).mono ?_; rintro e w' ⟨rfl, rfl⟩)
    all_goals go_wp2
    all_goals go_ret
    all_goals exact ⟨rfl, by (repeat (first | exact Below.refl _ _ | refine bl_drewN ?_ | refine bl_drew ?_ | refine bl_alloc ?_ | refine bl_step ?_ (by assumption)))⟩
  have r2 : ((limb 2 M : Int) != (limb 2 N : Int)) = false := by simp; omega
  rw [if_pos q2]
  clear q2
  by_cases q1 : limb 1 M = limb 1 N
  case neg =>
    have r1 : ((limb 1 M : Int) != (limb 1 N : Int)) = true := by simp; omega
    rw [if_neg q1]
    clear q1
    go_enter Try.func23, Try.ntmps23
    go_wp2
    refine wp_loop_rounds 4 ?_
    rw [rounds_succ]
    go_wp2
    go_region
    go_wp2
    rw [rounds_succ]
    go_wp2
    go_region
    go_wp2
    rw [rounds_succ]
    go_wp2
    go_region
    go_wp2
    go_region_with (go_at_call 37; refine (Compare_any _ _ _).mono ?_; rintro e w' ⟨rfl, rfl⟩)
    all_goals go_wp2
    all_goals go_ret
    all_goals exact ⟨rfl, by (repeat (first | exact Below.refl _ _ | refine bl_drewN ?_ | refine bl_drew ?_ | refine bl_alloc ?_ | refine bl_step ?_ (by assumption)))⟩
  have r1 : ((limb 1 M : Int) != (limb 1 N : Int)) = false := by simp; omega
  rw [if_pos q1]
  clear q1
  go_enter Try.func23, Try.ntmps23
  go_wp2
  refine wp_loop_rounds 4 ?_
  rw [rounds_succ]
  go_wp2
  go_region
  go_wp2
  rw [rounds_succ]
  go_wp2
  go_region
  go_wp2
  rw [rounds_succ]
  go_wp2
  go_region
  go_wp2
  rw [rounds_succ]
  go_wp2_with (go_at_call 37; refine (Compare_any _ _ _).mono ?_; rintro e w' ⟨rfl, rfl⟩)
  go_ret
  exact ⟨rfl, by (repeat (first | exact Below.refl _ _ | refine bl_drewN ?_ | refine bl_drew ?_ | refine bl_alloc ?_ | refine bl_step ?_ (by assumption)))⟩
end Go.Proofs.Ytcfpgcejahfdfaa

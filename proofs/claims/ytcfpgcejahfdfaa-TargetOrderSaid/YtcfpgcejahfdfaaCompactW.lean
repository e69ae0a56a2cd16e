/- The walk of target.Compact at one number, and of works. -/
import Derived.Test.YtcfpgcejahfdfaaWorkW
import Derived.Test.YtcfpgcejahfdfaaMeetsW
import Derived.Test.YtcfpgcejahfdfaaWideE
namespace Go.Proofs.Ytcfpgcejahfdfaa
open Go.RowKit
set_option linter.unusedVariables false
set_option linter.unusedSimpArgs false

theorem one_wide : wd (expT 545259519) = .agg #[.int .u64 0, .int .u64 0, .int .u64 0, .int .u64 9223370937343148032] := by
  have h0 : limb 0 (expT 545259519) = 0 := by decide +kernel
  have h1 : limb 1 (expT 545259519) = 0 := by decide +kernel
  have h2 : limb 2 (expT 545259519) = 0 := by decide +kernel
  have h3 : limb 3 (expT 545259519) = 9223370937343148032 := by decide +kernel
  simp only [wd, h0, h1, h2, h3]; rfl
theorem one_small : wd 8388607 = .agg #[.int .u64 8388607, .int .u64 0, .int .u64 0, .int .u64 0] := by
  obtain ⟨a, b, c, d⟩ := limb_small 8388607 (by decide)
  simp only [wd, a, b, c, d]; rfl
theorem two_wide : wd 2 = .agg #[.int .u64 2, .int .u64 0, .int .u64 0, .int .u64 0] := by
  obtain ⟨a, b, c, d⟩ := limb_small 2 (by decide)
  simp only [wd, a, b, c, d]; rfl
theorem one_err : expE 545259519 = 0 := by decide +kernel
theorem one_work : workN (expT 545259519) = 2 := by decide +kernel
theorem one_bits : bitsN (expT 545259519) = 255 := by decide +kernel
theorem one_shift : shiftN (expT 545259519) (-232) = 8388607 := by decide +kernel
theorem one_meets : meetsN (fromN fun _ => 0) 545259519 545259519 = 0 := by decide +kernel

@[go_sem] theorem run_index_wide (w : World) (x0 x1 x2 x3 : Int) : (Instr.index 44 (.agg #[.int .u64 x0, .int .u64 x1, .int .u64 x2, .int .u64 x3]) (.int .i64 0)).run Try.prog w = .ok (.int .u64 x0) w := by
  have hu : Program.underlying Try.prog 24 = some (.int .u64) := by kernel_rfl
  have ht : Program.underlying Try.prog 44 = some (.array 4 24) := by kernel_rfl
  have hc : Program.cellsOf Try.prog 24 = 1 := by kernel_rfl
  simp [Instr.index, run_underlying ht, run_underlying hu, asIntOf, part, isAgg, hc, go_sem]

set_option maxHeartbeats 1000000 in
theorem Compact_one (w : World) : Calls Try.prog 36 #[.agg #[.int .u64 0, .int .u64 0, .int .u64 0, .int .u64 9223370937343148032]] w fun e w' => e = .returned (.int .u32 545259519) ∧ Below w.heap.size w w' := by
  have cB : ∀ w : World, Calls Try.prog 41 #[.agg #[.int .u64 0, .int .u64 0, .int .u64 0, .int .u64 9223370937343148032]] w fun e w' => e = .returned (.int .i64 255) ∧ Below w.heap.size w w' := fun w => by
    have h := Bits_any (expT 545259519) w
    rw [one_wide, one_bits] at h; exact h
  have cS : ∀ w : World, Calls Try.prog 34 #[.agg #[.int .u64 0, .int .u64 0, .int .u64 0, .int .u64 9223370937343148032], .int .i64 (-232)] w fun e w' => e = .returned (.agg #[.int .u64 8388607, .int .u64 0, .int .u64 0, .int .u64 0]) ∧ Below w.heap.size w w' := fun w => by
    have h := Shift_any (expT 545259519) (-232) (expT_lt _) w
    rw [one_wide, one_shift, one_small] at h; exact h
  have hand : bits .and .u32 8388607 8388608 = 0 := by decide +kernel
  have hor : bits .or .u32 536870912 8388607 = 545259519 := by decide +kernel
  go_enter Try.func36, Try.ntmps36
  go_wp2_with (first | (with_reducible refine (cB _).mono ?_; rintro e W1 ⟨rfl, hb1⟩; have bk1 := (Blk.new w #[.int .u64 0, .int .u64 0, .int .u64 0, .int .u64 9223370937343148032] 44).below hb1 (by simp); obtain ⟨⟨g0, g1, g2, g3⟩, -⟩ := bk1.four) | (with_reducible refine (cS _).mono ?_; rintro e W2 ⟨rfl, hb2⟩))
  go_ret
  exact ⟨rfl, bl_step (bl_step (bl_alloc (Below.refl _ _)) hb1) hb2⟩

theorem zeros32 : ∀ j, j < 32 → (#[.int .u8 0, .int .u8 0, .int .u8 0, .int .u8 0, .int .u8 0, .int .u8 0, .int .u8 0, .int .u8 0, .int .u8 0, .int .u8 0, .int .u8 0, .int .u8 0, .int .u8 0, .int .u8 0, .int .u8 0, .int .u8 0, .int .u8 0, .int .u8 0, .int .u8 0, .int .u8 0, .int .u8 0, .int .u8 0, .int .u8 0, .int .u8 0, .int .u8 0, .int .u8 0, .int .u8 0, .int .u8 0, .int .u8 0, .int .u8 0, .int .u8 0, .int .u8 0] : Array Value)[j]? = some (.int .u8 ((0 : Nat) : Int)) := by
  have e : (#[.int .u8 0, .int .u8 0, .int .u8 0, .int .u8 0, .int .u8 0, .int .u8 0, .int .u8 0, .int .u8 0, .int .u8 0, .int .u8 0, .int .u8 0, .int .u8 0, .int .u8 0, .int .u8 0, .int .u8 0, .int .u8 0, .int .u8 0, .int .u8 0, .int .u8 0, .int .u8 0, .int .u8 0, .int .u8 0, .int .u8 0, .int .u8 0, .int .u8 0, .int .u8 0, .int .u8 0, .int .u8 0, .int .u8 0, .int .u8 0, .int .u8 0, .int .u8 0] : Array Value) = Array.replicate 32 (.int .u8 0) := by rfl
  intro j hj
  rw [e, Array.getElem?_replicate, if_pos hj]; rfl

set_option maxHeartbeats 1000000 in
theorem works_any (w : World) : Calls Try.prog 21 #[] w fun e w' => e = .returned (.bool true) ∧ Below w.heap.size w w' := by
  have cX : ∀ w : World, Calls Try.prog 20 #[.int .u32 545259519] w fun e w' => e = .returned (.tuple #[.agg #[.int .u64 0, .int .u64 0, .int .u64 0, .int .u64 9223370937343148032], .int .i64 0]) ∧ Below w.heap.size w w' := fun w => by
    have h := Expand_any 545259519 (by decide) w
    rw [one_wide, one_err] at h; exact h
  have cW : ∀ w : World, Calls Try.prog 22 #[.int .u32 545259519] w fun e w' => e = .returned (.agg #[.int .u64 2, .int .u64 0, .int .u64 0, .int .u64 0]) ∧ Below w.heap.size w w' := fun w => by
    have h := Work_any 545259519 (by decide) w
    rw [if_pos one_err, one_work, two_wide] at h; exact h
  have cM : ∀ w : World, Calls Try.prog 24 #[.agg #[.int .u8 0, .int .u8 0, .int .u8 0, .int .u8 0, .int .u8 0, .int .u8 0, .int .u8 0, .int .u8 0, .int .u8 0, .int .u8 0, .int .u8 0, .int .u8 0, .int .u8 0, .int .u8 0, .int .u8 0, .int .u8 0, .int .u8 0, .int .u8 0, .int .u8 0, .int .u8 0, .int .u8 0, .int .u8 0, .int .u8 0, .int .u8 0, .int .u8 0, .int .u8 0, .int .u8 0, .int .u8 0, .int .u8 0, .int .u8 0, .int .u8 0, .int .u8 0], .int .u32 545259519, .int .u32 545259519] w fun e w' => e = .returned (.int .i64 0) ∧ Below w.heap.size w w' := fun w => by
    have h := Meets_any (fun _ => 0) #[.int .u8 0, .int .u8 0, .int .u8 0, .int .u8 0, .int .u8 0, .int .u8 0, .int .u8 0, .int .u8 0, .int .u8 0, .int .u8 0, .int .u8 0, .int .u8 0, .int .u8 0, .int .u8 0, .int .u8 0, .int .u8 0, .int .u8 0, .int .u8 0, .int .u8 0, .int .u8 0, .int .u8 0, .int .u8 0, .int .u8 0, .int .u8 0, .int .u8 0, .int .u8 0, .int .u8 0, .int .u8 0, .int .u8 0, .int .u8 0, .int .u8 0, .int .u8 0] rfl zeros32 (fun _ => by decide) 545259519 545259519 (by decide) (by decide) w
    rw [one_meets] at h; exact h
  go_enter Try.func21, Try.ntmps21
  go_wp2_with (first
    | (with_reducible refine (cX _).mono ?_; rintro e W1 ⟨rfl, hb1⟩)
    | (with_reducible refine (Compact_one _).mono ?_; rintro e W2 ⟨rfl, hb2⟩)
    | (with_reducible refine (cW _).mono ?_; rintro e W3 ⟨rfl, hb3⟩)
    | (with_reducible refine (cM _).mono ?_; rintro e W4 ⟨rfl, hb4⟩))
  go_ret
  exact ⟨rfl, bl_step (bl_step (bl_step (bl_alloc (bl_step (Below.refl _ _) hb1)) hb2) hb3) hb4⟩
end Go.Proofs.Ytcfpgcejahfdfaa

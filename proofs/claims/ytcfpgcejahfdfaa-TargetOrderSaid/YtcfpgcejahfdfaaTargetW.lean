/- The walks of package target. -/
import Derived.Test.YtcfpgcejahfdfaaQuotW
import Derived.Test.YtcfpgcejahfdfaaTargetM
namespace Go.Proofs.Ytcfpgcejahfdfaa
open Go.RowKit
set_option linter.unusedVariables false
set_option linter.unusedSimpArgs false

theorem Blk.four {W : World} {b : Nat} {x0 x1 x2 x3 : Value} {T : TypeId} (h : Blk W b #[x0, x1, x2, x3] T) :
    (W.cell? ⟨b, 0, none⟩ = some x0 ∧ W.cell? ⟨b, 1, none⟩ = some x1 ∧ W.cell? ⟨b, 2, none⟩ = some x2 ∧ W.cell? ⟨b, 3, none⟩ = some x3) ∧
    (W.frozen? ⟨b, 0, none⟩ = false ∧ W.frozen? ⟨b, 1, none⟩ = false ∧ W.frozen? ⟨b, 2, none⟩ = false ∧ W.frozen? ⟨b, 3, none⟩ = false) :=
  ⟨⟨h.cell 0, h.cell 1, h.cell 2, h.cell 3⟩, ⟨h.frozen 0, h.frozen 1, h.frozen 2, h.frozen 3⟩⟩

set_option maxHeartbeats 2000000 in
theorem Expand_any (c : Nat) (hc : c < 2 ^ 32) (w : World) : Calls Try.prog 20 #[.int .u32 (c : Nat)] w fun e w' => e = .returned (.tuple #[wd (expT c), .int .i64 (expE c)]) ∧ Below w.heap.size w w' := by
  obtain ⟨m, hm, m0, m1, HM⟩ : ∃ m : Nat, bits .and .u32 (c : Int) 8388607 = (m : Int) ∧ (0 : Int) ≤ (m : Int) ∧ (m : Int) ≤ 8388607 ∧ Hid (manN c = m) := by
    refine ⟨manN c, ?_, by omega, by have := manN_lt c; omega, rfl⟩
    have h := u32_and_nat c (2 ^ 23 - 1) (by simpa using hc) (by decide)
    rw [Nat.and_two_pow_sub_one_eq_mod] at h
    exact h
  obtain ⟨sg, hsg, HSG⟩ : ∃ m : Nat, bits .and .u32 (c : Int) 8388608 = (m : Int) ∧ Hid (sgnN c = m) := ⟨sgnN c, u32_and_nat c 8388608 (by simpa using hc) (by decide), rfl⟩
  obtain ⟨q, hq, q0, q1, HQ⟩ : ∃ q : Nat, (c : Int) / 16777216 = (q : Int) ∧ (0 : Int) ≤ (q : Int) ∧ (q : Int) ≤ 255 ∧ Hid (c / 2 ^ 24 = q) := ⟨c / 2 ^ 24, by omega, by omega, by omega, rfl⟩
  have hw : ∀ x : Int, -10000 ≤ x → x ≤ 10000 → IntKind.i64.wrap x = x := fun x a b => IntWalk.i64_in x (by omega)
  obtain ⟨sh, hsh, sh0, sh1, HSH⟩ : ∃ s : Int, IntKind.i64.wrap (8 * ((q : Int) - 3)) = s ∧ -24 ≤ s ∧ s ≤ 2016 ∧ Hid (shN c = s) := ⟨8 * ((q : Int) - 3), hw _ (by omega) (by omega), by omega, by omega, by unfold Hid shN; rw [HQ.out]⟩
  obtain ⟨W, HW⟩ : ∃ W, Hid (expW c = W) := ⟨_, rfl⟩
  obtain ⟨x0, X0⟩ : ∃ x, Hid (limb 0 W = x) := ⟨_, rfl⟩
  obtain ⟨x1, X1⟩ : ∃ x, Hid (limb 1 W = x) := ⟨_, rfl⟩
  obtain ⟨x2, X2⟩ : ∃ x, Hid (limb 2 W = x) := ⟨_, rfl⟩
  obtain ⟨x3, X3⟩ : ∃ x, Hid (limb 3 W = x) := ⟨_, rfl⟩
  have cO : ∀ w : World, Calls Try.prog 26 #[.int .u64 (m : Nat)] w fun e w' => e = .returned (wd m) ∧ Below w.heap.size w w' := fun w => Of_any m (by omega) w
  have cS : ∀ w : World, Calls Try.prog 34 #[wd m, .int .i64 sh] w fun e w' => e = .returned (.agg #[.int .u64 (x0 : Nat), .int .u64 (x1 : Nat), .int .u64 (x2 : Nat), .int .u64 (x3 : Nat)]) ∧ Below w.heap.size w w' := fun w => by
    rw [← X0.out, ← X1.out, ← X2.out, ← X3.out, ← HW.out, ← HM.out, ← HSH.out]
    exact Shift_any (manN c) (shN c) (Nat.lt_trans (manN_lt c) (by decide)) w
  obtain ⟨l, hl0, hl1, HL⟩ : ∃ l : Nat, (0 : Int) ≤ (l : Int) ∧ (l : Int) ≤ 32 ∧ Hid (Lib.bitLen m = l) := ⟨_, by omega, by have := bl_le m 32 (by omega); omega, rfl⟩
  have cL : ∀ w : World, Calls Try.prog 35 #[.int .u32 (m : Nat)] w fun e w' => e = .returned (.int .i64 (l : Nat)) ∧ w = w' := fun w => by
    refine (Try.bits_Len32 (m : Nat) w m0 (by omega)).mono ?_
    rintro e w' ⟨rfl, rfl⟩
    exact ⟨by rw [← HL.out]; rfl, rfl⟩
  have hWz : W = 0 ↔ x0 = 0 ∧ x1 = 0 ∧ x2 = 0 ∧ x3 = 0 := by
    have hv := val_limbs W (by rw [← HW.out]; exact expW_lt c)
    rw [X0.out, X1.out, X2.out, X3.out] at hv
    unfold val4 at hv
    omega
  have bad : expBad c = true → expT c = 0 ∧ expE c = 11 := fun h => by unfold expT expE; rw [h]; exact ⟨rfl, rfl⟩
  have good : expBad c = false → expT c = W ∧ expE c = 0 := fun h => by unfold expT expE; rw [h]; exact ⟨HW.out, rfl⟩
  have hB : expBad c = ((m != 0 && sg != 0) || (W == 0) || decide (256 < sh + l)) := by
    unfold expBad; rw [HM.out, HSG.out, HW.out, HSH.out, HL.out]
  have Hbad := Lib.hid bad
  have Hgood := Lib.hid good
  have HB := Lib.hid hB
  have HWz := Lib.hid hWz
  have Hc := Lib.hid hc
  clear bad good hB hWz hw hc
  cases k1 : ((m : Int) != 0) with
  | false =>
    have zm : m = 0 := by simpa using k1
    have zW : W = 0 := by
      rw [← HW.out, expW, HM.out, zm]
      unfold shiftN; split <;> simp
    have kz : ((x0 : Int) == 0 && ((x1 : Int) == 0 && ((x2 : Int) == 0 && (x3 : Int) == 0))) = true := by
      have := HWz.out.1 zW
      simp; omega
    have hbad := Hbad.out (by rw [HB.out]; simp [zW])
    clear zW zm
    go_enter Try.func20, Try.ntmps20
    go_wp2_with (first | (with_reducible refine (cO _).mono ?_; rintro e W1 ⟨rfl, hb1⟩; have bk1 := (Blk.new w #[.int .u64 0, .int .u64 0, .int .u64 0, .int .u64 0] 44).below hb1 (by simp)) | (with_reducible refine (cS _).mono ?_; rintro e W2 ⟨rfl, hb2⟩; have bk2 := bk1.below hb2 bk1.lt; have lt2 := bk2.lt; obtain ⟨⟨g0, g1, g2, g3⟩, ⟨f0, f1, f2, f3⟩⟩ := bk2.four) | (with_reducible refine (cL _).mono ?_; rintro e w' ⟨rfl, rfl⟩))
    refine bodyPost_ret (v := .tuple #[.agg #[.int .u64 0, .int .u64 0, .int .u64 0, .int .u64 0], .int .i64 11]) (by simp [results, *, Try.results20, go_sem]) rfl ⟨?_, ?_⟩
    · rw [hbad.1, hbad.2]; rfl
    · have hb3 : Below w.heap.size w W2 := bl_step (bl_step (bl_alloc (Below.refl _ _)) hb1) hb2
      repeat (first | with_reducible exact hb3 | with_reducible refine bl_set (by first | (simp; done) | (simp; omega)) ?_ | with_reducible refine bl_alloc ?_ | with_reducible refine bl_drew ?_)
  | true =>
  have HM0 := Lib.hid (show m ≠ 0 by simpa using k1)
  cases k2 : ((sg : Int) != 0) with
  | true =>
    have HS0 := Lib.hid (show sg ≠ 0 by simpa using k2)
    have hbad := Hbad.out (by rw [HB.out]; simp [HM0.out, HS0.out])
    go_enter Try.func20, Try.ntmps20
    go_wp2_with (first | (with_reducible refine (cO _).mono ?_; rintro e W1 ⟨rfl, hb1⟩; have bk1 := (Blk.new w #[.int .u64 0, .int .u64 0, .int .u64 0, .int .u64 0] 44).below hb1 (by simp)) | (with_reducible refine (cS _).mono ?_; rintro e W2 ⟨rfl, hb2⟩; have bk2 := bk1.below hb2 bk1.lt; have lt2 := bk2.lt; obtain ⟨⟨g0, g1, g2, g3⟩, ⟨f0, f1, f2, f3⟩⟩ := bk2.four) | (with_reducible refine (cL _).mono ?_; rintro e w' ⟨rfl, rfl⟩))
    refine bodyPost_ret (v := .tuple #[.agg #[.int .u64 0, .int .u64 0, .int .u64 0, .int .u64 0], .int .i64 11]) (by simp [results, *, Try.results20, go_sem]) rfl ⟨?_, ?_⟩
    · rw [hbad.1, hbad.2]; rfl
    · have hb3 : Below w.heap.size w W2 := bl_step (bl_step (bl_alloc (Below.refl _ _)) hb1) hb2
      repeat (first | with_reducible exact hb3 | with_reducible refine bl_set (by first | (simp; done) | (simp; omega)) ?_ | with_reducible refine bl_alloc ?_ | with_reducible refine bl_drew ?_)
  | false =>
  have HS0 := Lib.hid (show sg = 0 by simpa using k2)
  cases kz : ((x0 : Int) == 0 && ((x1 : Int) == 0 && ((x2 : Int) == 0 && (x3 : Int) == 0))) with
  | true =>
    have hbad := Hbad.out (by
      have : W = 0 := HWz.out.2 (by simp at kz; omega)
      rw [HB.out]; simp [this])
    go_enter Try.func20, Try.ntmps20
    go_wp2_with (first | (with_reducible refine (cO _).mono ?_; rintro e W1 ⟨rfl, hb1⟩; have bk1 := (Blk.new w #[.int .u64 0, .int .u64 0, .int .u64 0, .int .u64 0] 44).below hb1 (by simp)) | (with_reducible refine (cS _).mono ?_; rintro e W2 ⟨rfl, hb2⟩; have bk2 := bk1.below hb2 bk1.lt; have lt2 := bk2.lt; obtain ⟨⟨g0, g1, g2, g3⟩, ⟨f0, f1, f2, f3⟩⟩ := bk2.four) | (with_reducible refine (cL _).mono ?_; rintro e w' ⟨rfl, rfl⟩))
    refine bodyPost_ret (v := .tuple #[.agg #[.int .u64 0, .int .u64 0, .int .u64 0, .int .u64 0], .int .i64 11]) (by simp [results, *, Try.results20, go_sem]) rfl ⟨?_, ?_⟩
    · rw [hbad.1, hbad.2]; rfl
    · have hb3 : Below w.heap.size w W2 := bl_step (bl_step (bl_alloc (Below.refl _ _)) hb1) hb2
      repeat (first | with_reducible exact hb3 | with_reducible refine bl_set (by first | (simp; done) | (simp; omega)) ?_ | with_reducible refine bl_alloc ?_ | with_reducible refine bl_drew ?_)
  | false =>
  have HW0 : Hid (W ≠ 0) := Lib.hid (by
    intro e
    have := HWz.out.1 e
    simp [this.1, this.2.1, this.2.2.1, this.2.2.2] at kz)
  by_cases k3 : 256 < sh + (l : Int)
  · have hbad := Hbad.out (by rw [HB.out]; simp [k3])
    go_enter Try.func20, Try.ntmps20
    go_wp2_with (first | (with_reducible refine (cO _).mono ?_; rintro e W1 ⟨rfl, hb1⟩; have bk1 := (Blk.new w #[.int .u64 0, .int .u64 0, .int .u64 0, .int .u64 0] 44).below hb1 (by simp)) | (with_reducible refine (cS _).mono ?_; rintro e W2 ⟨rfl, hb2⟩; have bk2 := bk1.below hb2 bk1.lt; have lt2 := bk2.lt; obtain ⟨⟨g0, g1, g2, g3⟩, ⟨f0, f1, f2, f3⟩⟩ := bk2.four) | (with_reducible refine (cL _).mono ?_; rintro e w' ⟨rfl, rfl⟩))
    refine bodyPost_ret (v := .tuple #[.agg #[.int .u64 0, .int .u64 0, .int .u64 0, .int .u64 0], .int .i64 11]) (by simp [results, *, Try.results20, go_sem]) rfl ⟨?_, ?_⟩
    · rw [hbad.1, hbad.2]; rfl
    · have hb3 : Below w.heap.size w W2 := bl_step (bl_step (bl_alloc (Below.refl _ _)) hb1) hb2
      repeat (first | with_reducible exact hb3 | with_reducible refine bl_set (by first | (simp; done) | (simp; omega)) ?_ | with_reducible refine bl_alloc ?_ | with_reducible refine bl_drew ?_)
  · have k4 : sh + (l : Int) ≤ 256 := by omega
    have hgood := Hgood.out (by rw [HB.out]; simp [HS0.out, HW0.out, k3])
    clear k3
    go_enter Try.func20, Try.ntmps20
    go_wp2_with (first | (with_reducible refine (cO _).mono ?_; rintro e W1 ⟨rfl, hb1⟩; have bk1 := (Blk.new w #[.int .u64 0, .int .u64 0, .int .u64 0, .int .u64 0] 44).below hb1 (by simp)) | (with_reducible refine (cS _).mono ?_; rintro e W2 ⟨rfl, hb2⟩; have bk2 := bk1.below hb2 bk1.lt; have lt2 := bk2.lt; obtain ⟨⟨g0, g1, g2, g3⟩, ⟨f0, f1, f2, f3⟩⟩ := bk2.four) | (with_reducible refine (cL _).mono ?_; rintro e w' ⟨rfl, rfl⟩))
    refine bodyPost_ret (v := .tuple #[.agg #[.int .u64 (x0 : Nat), .int .u64 (x1 : Nat), .int .u64 (x2 : Nat), .int .u64 (x3 : Nat)], .int .i64 0]) (by simp [results, *, Try.results20, go_sem]) rfl ⟨?_, ?_⟩
    · rw [hgood.1, hgood.2, ← X0.out, ← X1.out, ← X2.out, ← X3.out]
    · have hb3 : Below w.heap.size w W2 := bl_step (bl_step (bl_alloc (Below.refl _ _)) hb1) hb2
      repeat (first | with_reducible exact hb3 | with_reducible refine bl_set (by first | (simp; done) | (simp; omega)) ?_ | with_reducible refine bl_alloc ?_ | with_reducible refine bl_drew ?_)
end Go.Proofs.Ytcfpgcejahfdfaa

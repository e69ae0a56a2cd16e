/- The walk of target.pair. -/
import Derived.Test.YtcfpgcejahfdfaaTargetW
import Derived.Test.YtcfpgcejahfdfaaWideO
import Derived.Deep.DeepCutAuto
import Derived.Deep.RegionHeld3
namespace Go.Proofs.Ytcfpgcejahfdfaa
open Go.RowKit
set_option linter.unusedVariables false
set_option linter.unusedSimpArgs false

set_option maxHeartbeats 4000000 in
theorem pair_any (c l : Nat) (hc : c < 2 ^ 32) (hl : l < 2 ^ 32) (w : World) : Calls Try.prog 38 #[.int .u32 (c : Nat), .int .u32 (l : Nat)] w fun e w' => e = .returned (.tuple #[wd (expT c), wd (expT l), .bool (expE c == 0 && expE l == 0)]) ∧ Below w.heap.size w w' := by
  obtain ⟨t0, t1, t2, t3, HT⟩ := wd_opaque (expT c)
  obtain ⟨m0, m1, m2, m3, HM⟩ := wd_opaque (expT l)
  obtain ⟨er, HE⟩ : ∃ e, Hid (expE c = e) := ⟨_, rfl⟩
  obtain ⟨es, HF⟩ : ∃ e, Hid (expE l = e) := ⟨_, rfl⟩
  have cX : ∀ w : World, Calls Try.prog 20 #[.int .u32 (c : Nat)] w fun e w' => e = .returned (.tuple #[.agg #[.int .u64 (t0 : Nat), .int .u64 (t1 : Nat), .int .u64 (t2 : Nat), .int .u64 (t3 : Nat)], .int .i64 er]) ∧ Below w.heap.size w w' := fun w => by
    rw [wd_opaque_eq HT, ← HE.out]; exact Expand_any c hc w
  have cY : ∀ w : World, Calls Try.prog 20 #[.int .u32 (l : Nat)] w fun e w' => e = .returned (.tuple #[.agg #[.int .u64 (m0 : Nat), .int .u64 (m1 : Nat), .int .u64 (m2 : Nat), .int .u64 (m3 : Nat)], .int .i64 es]) ∧ Below w.heap.size w w' := fun w => by
    rw [wd_opaque_eq HM, ← HF.out]; exact Expand_any l hl w
  have hE : er = 0 ∨ er = 11 := by rw [← HE.out]; unfold expE; split <;> simp
  rw [HE.out, HF.out]
  rcases hE with hE | hE
  all_goals
    go_enter Try.func38, Try.ntmps38
    go_upto_region 2 with (with_reducible refine (cX _).mono ?_; rintro e W1 ⟨rfl, hb1⟩; have bk0 := ((Blk.new w #[.int .u64 0, .int .u64 0, .int .u64 0, .int .u64 0] 44).alloc (.cells #[.int .u64 0, .int .u64 0, .int .u64 0, .int .u64 0] 44)).below hb1 (by simp; omega); have bk1 := (Blk.new (w.alloc (.cells #[.int .u64 0, .int .u64 0, .int .u64 0, .int .u64 0] 44)) #[.int .u64 0, .int .u64 0, .int .u64 0, .int .u64 0] 44).below hb1 (by simp); rw [World.size_alloc] at bk1; have lt1 := bk1.lt; ((try have := lt_up (show w.heap.size < W1.heap.size by omega)); (try have := ne_up (show w.heap.size < W1.heap.size by omega)); (try have := lt_up (show w.heap.size + 1 < W1.heap.size by omega)); (try have := ne_up (show w.heap.size + 1 < W1.heap.size by omega)); (try have := lt_up (show w.heap.size + 1 + 1 < W1.heap.size by omega)); (try have := ne_up (show w.heap.size + 1 + 1 < W1.heap.size by omega))); obtain ⟨⟨g0, g1, g2, g3⟩, ⟨f0, f1, f2, f3⟩⟩ := bk0.four; obtain ⟨⟨g4, g5, g6, g7⟩, ⟨f4, f5, f6, f7⟩⟩ := bk1.four)
    go_wp2_with (with_reducible refine (cY _).mono ?_; rintro e W2 ⟨rfl, hb2⟩; have bt2 : Blk W2 w.heap.size #[.int .u64 (t0 : Nat), .int .u64 (t1 : Nat), .int .u64 (t2 : Nat), .int .u64 (t3 : Nat)] 44 := Blk.below ((((bk0.set 0 (.int .u64 (t0 : Nat))).set 1 (.int .u64 (t1 : Nat))).set 2 (.int .u64 (t2 : Nat))).set 3 (.int .u64 (t3 : Nat))) hb2 (by simp only [World.size_setCell]; omega); have bz2 : Blk W2 (w.heap.size + 1) #[.int .u64 0, .int .u64 0, .int .u64 0, .int .u64 0] 44 := Blk.below ((((bk1.other (by simp) _).other (by simp) _).other (by simp) _).other (by simp) _) hb2 (by simp only [World.size_setCell]; omega); have hh2 := Lib.hid hb2; clear hb2; obtain ⟨⟨x0, x1, x2, x3⟩, ⟨y0, y1, y2, y3⟩⟩ := bt2.four; obtain ⟨⟨x4, x5, x6, x7⟩, ⟨y4, y5, y6, y7⟩⟩ := bz2.four)
    clear g0 g1 g2 g3 g4 g5 g6 g7 f0 f1 f2 f3 f4 f5 f6 f7
    have hB1 : Below w.heap.size w W1 := bl_step (bl_alloc (bl_alloc (Below.refl _ _))) hb1
    have hB2 : Below w.heap.size w W2 := bl_step (by repeat (first | with_reducible exact hB1 | with_reducible refine bl_set (by first | (simp; done) | (simp; omega)) ?_)) hh2.out
    have bm3 : Blk ((((W2.setCell ⟨w.heap.size + 1, 0, none⟩ (.int .u64 (m0 : Nat))).setCell ⟨w.heap.size + 1, 1, none⟩ (.int .u64 (m1 : Nat))).setCell ⟨w.heap.size + 1, 2, none⟩ (.int .u64 (m2 : Nat))).setCell ⟨w.heap.size + 1, 3, none⟩ (.int .u64 (m3 : Nat))) (w.heap.size + 1) #[.int .u64 (m0 : Nat), .int .u64 (m1 : Nat), .int .u64 (m2 : Nat), .int .u64 (m3 : Nat)] 44 := (((bz2.set 0 (.int .u64 (m0 : Nat))).set 1 (.int .u64 (m1 : Nat))).set 2 (.int .u64 (m2 : Nat))).set 3 (.int .u64 (m3 : Nat))
    have bt3 : Blk ((((W2.setCell ⟨w.heap.size + 1, 0, none⟩ (.int .u64 (m0 : Nat))).setCell ⟨w.heap.size + 1, 1, none⟩ (.int .u64 (m1 : Nat))).setCell ⟨w.heap.size + 1, 2, none⟩ (.int .u64 (m2 : Nat))).setCell ⟨w.heap.size + 1, 3, none⟩ (.int .u64 (m3 : Nat))) w.heap.size #[.int .u64 (t0 : Nat), .int .u64 (t1 : Nat), .int .u64 (t2 : Nat), .int .u64 (t3 : Nat)] 44 := (((bt2.other (by simp) _).other (by simp) _).other (by simp) _).other (by simp) _
    have hB3 : Below w.heap.size w ((((W2.setCell ⟨w.heap.size + 1, 0, none⟩ (.int .u64 (m0 : Nat))).setCell ⟨w.heap.size + 1, 1, none⟩ (.int .u64 (m1 : Nat))).setCell ⟨w.heap.size + 1, 2, none⟩ (.int .u64 (m2 : Nat))).setCell ⟨w.heap.size + 1, 3, none⟩ (.int .u64 (m3 : Nat))) := bl_set (by simp) (bl_set (by simp) (bl_set (by simp) (bl_set (by simp) hB2)))
    generalize ((((W2.setCell ⟨w.heap.size + 1, 0, none⟩ (.int .u64 (m0 : Nat))).setCell ⟨w.heap.size + 1, 1, none⟩ (.int .u64 (m1 : Nat))).setCell ⟨w.heap.size + 1, 2, none⟩ (.int .u64 (m2 : Nat))).setCell ⟨w.heap.size + 1, 3, none⟩ (.int .u64 (m3 : Nat))) = X3 at *
    clear x0 x1 x2 x3 x4 x5 x6 x7 y0 y1 y2 y3 y4 y5 y6 y7 hh2 bz2 bt2
    obtain ⟨⟨x0, x1, x2, x3⟩, ⟨y0, y1, y2, y3⟩⟩ := bt3.four
    obtain ⟨⟨x4, x5, x6, x7⟩, ⟨y4, y5, y6, y7⟩⟩ := bm3.four
    go_region
    all_goals
      go_wp2_with fail
      refine bodyPost_ret (v := .tuple #[.agg #[.int .u64 (t0 : Nat), .int .u64 (t1 : Nat), .int .u64 (t2 : Nat), .int .u64 (t3 : Nat)], .agg #[.int .u64 (m0 : Nat), .int .u64 (m1 : Nat), .int .u64 (m2 : Nat), .int .u64 (m3 : Nat)], .bool (er == 0 && es == 0)]) (by simp [results, *, Try.results38, go_sem]) rfl ⟨by rw [wd_opaque_eq HT, wd_opaque_eq HM], ?_⟩
      repeat (first | with_reducible exact hB3 | with_reducible refine bl_set (by first | (simp; done) | (simp; omega)) ?_ | with_reducible refine bl_drew ?_)
end Go.Proofs.Ytcfpgcejahfdfaa
